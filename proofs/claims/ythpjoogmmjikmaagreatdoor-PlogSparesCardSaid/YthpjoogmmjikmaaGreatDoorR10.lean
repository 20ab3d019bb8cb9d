/-
  stream, and Open of any file, over memory.
  No condition beyond those that each theorem names.
-/
import Derived.Test.YthpjoogmmjikmaaGreatDoorQ10
set_option linter.unusedSimpArgs false
open Go.Sx
set_option linter.unusedVariables false
set_option linter.unusedSimpArgs false
namespace Go.Proofs.YthpjoogmmjikmaaGreatDoor
def stream (b : Byts) : Byts := streamN (b.length / 64 + 1) b
section
variable {hk : Hook} {A B : Nat → Prop} {I : List Nat} {w0 w w' : AW} {D S : Nat} {i i' : DI} {d d' : Dsk} {k k' : Nat} {L L' : Obs} {K : AV → AW → Prop} {nm bs : Byts} {es : List Int} {bv ev : AV} {br : Bool} {ef : Nat} {eo : Ob}
theorem streamN_length : ∀ (m : Nat) (b : Byts), (streamN m b).length ≤ b.length
  | 0, _ => Nat.zero_le _
  | m + 1, b => by
    unfold streamN
    split
    · simp
    · rename_i h
      simp only []
      have ih := streamN_length m (b.drop 64)
      simp only [List.length_drop] at ih
      generalize hn : (if 62 < (b.getD 0 0).toNat then 0 else (b.getD 0 0).toNat) = n
      have : n ≤ 62 := by rw [← hn]; split <;> omega
      simp only [List.length_append, List.length_take, List.length_drop]
      split
      · simp; omega
      · omega
theorem s78 {v : AV} {b : Byts} (hh : HK hk) (pv : Pv A w) (h : (rL rU).rd B w [v] b) (hl : b.length ≤ 2 ^ 20) (hK : ∀ v' w', Fr w.size w w' → Ga rU A w w' v' (stream b) → K v' w') : Cl Tryz.prog hk 78 [v] w K := by
  apply in78 (hh.no _ _ _ (by decide) (by decide))
  unfold F78
  refine loopP_ind (fun m l w3 => ∃ (at_ : Nat) (out : AV) (acc : Byts), m = b.length / 64 + 1 - at_ / 64 ∧ at_ % 64 = 0 ∧ at_ ≤ b.length ∧ l = [out, .int .i64 at_] ∧ Ow A [] w w3 [] ∧ Ga rU (fz A []) w w3 out acc ∧ acc.length ≤ at_ ∧ acc ++ streamN (b.length / 64 + 1 - at_ / 64) (b.drop at_) = stream b) ?_
    ⟨0, .nilslice, [], rfl, rfl, Nat.zero_le _, rfl, pv.st, Ga.nil, by simp, by simp [stream]⟩
  rintro m l w3 ⟨at_, out, acc, rfl, hmod, hat, rfl, st, hg, hacc, hst⟩ R ih
  have hrd : (rL rU).rd (fz B (ids [])) w3 [v] b := st.arg pv.mem h
  refine ⟨_, _, rfl, fun _ => ⟨_, hrd.len', ?_⟩⟩
  rw [show wi ((at_ : Int) + 64) = ((at_ + 64 : Nat) : Int) by rw [wi_eq (by omega) (by omega)]; push_cast; rfl]
  obtain ⟨f, hf⟩ : ∃ f, b.length / 64 + 1 - at_ / 64 = f + 1 := ⟨b.length / 64 - at_ / 64, by omega⟩
  rw [hf] at hst
  refine ifT_d (fun hc => ?_) fun hc => ?_
  · have hc : at_ + 64 ≤ b.length := by omega
    have hlt : at_ < b.length := by omega
    refine hrd.at1 rfl hlt fun bk ok a ha hld => ⟨(b[at_].toNat : Int), ?_, ?_⟩
    · have ha : [a] = [AV.int .u8 (b[at_].toNat : Int)] := ha
      rw [hld]; injection ha with ha; rw [ha]
    have h8 : b[at_].toNat < 256 := b[at_].toNat_lt
    have ew : wi (b[at_].toNat : Int) = (b[at_].toNat : Int) := wi_eq (by omega) (by omega)
    rw [ew]
    have hget : (b.drop at_).getD 0 0 = b[at_] := by rw [List.getD_eq_getElem?_getD, List.getElem?_drop, Nat.add_zero, List.getElem?_eq_getElem hlt]; rfl
    unfold streamN at hst
    rw [if_neg (by simp; omega), hget] at hst
    simp only [] at hst
    generalize hn : (if 62 < b[at_].toNat then 0 else b[at_].toNat) = n at hst
    have hn62 : n ≤ 62 := by rw [← hn]; split <;> omega
    refine join_of (fun lv w11 => lv = [.int .i64 (n : Int)] ∧ w11 = w3) ?_ ?_
    · rintro lv w11 ⟨rfl, rfl⟩
      refine ⟨_, rfl, fun _ => ?_⟩
      rw [show wi ((at_ : Int) + 2) = ((at_ + 2 : Nat) : Int) by rw [wi_eq (by omega) (by omega)]; push_cast; rfl, show wi (((at_ + 2 : Nat) : Int) + (n : Int)) = ((at_ + 2 + n : Nat) : Int) by rw [wi_eq (by omega) (by omega)]; push_cast; rfl]
      obtain ⟨part, hsl, hpart⟩ := hrd.cut (i := at_ + 2) (j := at_ + 2 + n) (by omega) (by omega) (.inl rfl) (.inl rfl)
      have epart : (b.take (at_ + 2 + n)).drop (at_ + 2) = ((b.drop at_).drop 2).take n := by
        rw [List.drop_take, List.drop_drop, show at_ + 2 + n - (at_ + 2) = n by omega]
      rw [epart] at hpart
      generalize hpt : ((b.drop at_).drop 2).take n = pt at hpart hst
      have hptl : pt.length = n := by rw [← hpt]; simp; omega
      refine onM_s hsl (Ow.appSrc (r := rU) (l' := pt) st hg (Rs.src hpart.rsB) (Chk.bytes.2 rfl) (by decide) (fun c hc => pv.new c (by have := st.size; omega)) (by omega) (by omega) fun out' w16 st16 x16 hg16 => ?_)
      refine ifT_d (fun hc2 => ?_) fun hc2 => ?_
      · rw [if_pos (by omega), List.append_nil] at hst
        rw [hst] at hg16
        exact hK out' w16 st16.fr hg16.out
      · rw [if_neg (by omega), List.drop_drop] at hst
        refine ih (b.length / 64 + 1 - (at_ + 64) / 64) (by omega) _ _ ⟨at_ + 64, out', acc ++ pt, rfl, by omega, by omega, rfl, st16, hg16, by simp; omega, ?_⟩
        rw [show b.length / 64 + 1 - (at_ + 64) / 64 = f by omega, List.append_assoc]
        exact hst
    · intro J hJ
      refine ifT_d (fun hc2 => ?_) fun hc2 => ?_
      · have : n = 0 := by rw [← hn, if_pos (by omega)]
        subst this
        exact hJ _ _ ⟨rfl, rfl⟩
      · have : n = b[at_].toNat := by rw [← hn, if_neg (by omega)]
        rw [this] at hJ
        exact hJ _ _ ⟨rfl, rfl⟩
  · unfold streamN at hst
    rw [if_pos (by simp; omega), List.append_nil] at hst
    rw [hst] at hg
    exact hK out w3 st.fr hg.out
end
end Go.Proofs.YthpjoogmmjikmaaGreatDoor
