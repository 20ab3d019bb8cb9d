/-
  What a disk holds, told, over memory.
  No condition beyond those that each theorem names.
-/
import Derived.Test.YtbjeebgdjlemjaaY07
set_option linter.unusedSimpArgs false
open Go.Sx
set_option linter.unusedVariables false
namespace Go.Proofs.Ytbjeebgdjlemjaa

def told (d : Dsk) (l : List Byts) : List Byts := l.flatMap fun s => [s, (d.read s).1]
def allOf (d : Dsk) : List Byts := told d (namesOf d)
theorem told_snoc (d : Dsk) (l : List Byts) (s : Byts) : told d (l ++ [s]) = told d l ++ [s, (d.read s).1] := by simp [told]
theorem told_length (d : Dsk) (l : List Byts) : (told d l).length = l.length * 2 := by
  induction l with
  | nil => rfl
  | cons a l ih =>
    have : told d (a :: l) = [a, (d.read a).1] ++ told d l := rfl
    rw [this, List.length_append, ih]; simp; omega

section
variable {hk : Hook} {w0 w : AW} {D : Nat} {d : Dsk} {k : Nat} {X : List Nat} {K : AV → AW → Prop}
/-- all. -/
theorem s26 (hh : HK hk) (h : Ls w0 w D d k X) (hn : ∀ u ∈ d.now.names, u.1.length ≤ 65536) (hc : d.now.names.length ≤ 65536) (hK : ∀ v w', Fr w.size w w' → RsS w' v (allOf d) → K v w') : Cl Try.prog hk 26 [.ptr D 0] w K := by
  apply in26 (hh.no _ _ _ (by decide) (by decide))
  unfold F26
  refine lNames hh h hn hc fun r1 w2 f2 hr1 _ => ?_
  have hs2 := f2.size
  have hpos := Ls.pos' h
  unfold allOf at hK
  have hll : (namesOf d).length ≤ 65536 := by unfold namesOf; rw [isort_length, List.length_map]; exact hc
  generalize namesOf d = l at *
  refine loopP_ind (fun m lv w5 => ∃ (i : Nat) (out : AV), i ≤ l.length ∧ m = l.length - i ∧ lv = [out, .int .i64 i] ∧ Fr w2.size w2 w5 ∧ Gc (w2.size ≤ ·) 1 w5 out ((told d (l.take i)).map AV.str)) ?_
    ⟨0, .nilslice, Nat.zero_le _, rfl, rfl, Fr.refl f2.mem, Gc.nil⟩
  rintro m lv w5 ⟨i, out, hi, rfl, rfl, f5, hg5⟩ R ih
  have hs5 := f5.size
  have f05 := f2.trans f5 hs2
  have hr5 : RsS w5 r1 l := Rs.fr hr1 f2.mem f5 (Nat.le_refl _)
  refine ⟨_, _, rfl, fun _ => ⟨_, Rs.len hr5, ifT_d (fun hc => ?_) fun hc => ?_⟩⟩
  · have hil : i < l.length := by omega
    refine hr5.at hil fun b o hld => ⟨_, hld, ?_⟩
    have hL5 := h.fr f05
    refine lRead hh hL5 fun x w13 f13 hx => ⟨_, _, rfl, ?_⟩
    have hs13 := f13.size
    have hr13 : RsS w13 r1 l := Rs.fr hr5 f5.mem f13 (Nat.le_refl _)
    refine hr13.at hil fun b2 o2 hld2 => ⟨_, hld2, _, hx.rs.str, new_of f13.mem fun w21 f21 b21 z21 => ?_⟩
    have hx21 := hx.mono fun b bs hb => f21.cells f13.mem hb (Nat.le_refl _)
    refine ⟨hx21.rs.str, ?_, ?_⟩
    · unfold ld at hld2 ⊢
      cases hcl : w13.cells? b2 with
      | none => rw [hcl] at hld2; cases hld2
      | some c => rw [hcl] at hld2; rw [f21.cells f13.mem hcl (Nat.le_refl _)]; exact hld2
    have hrx : Rs w21 1 2 (.slice w13.size 0 2 2 none) [.str l[i], .str (d.read l[i]).1] := .inr ⟨w13.size, 0, 2, none, _, rfl, b21.cells, by simp, rfl⟩
    have hlen : ((told d (l.take i)).map AV.str).length = i * 2 := by rw [List.length_map, told_length, List.length_take, Nat.min_eq_left hi]
    have f521 := f13.trans f21 hs13
    refine (hg5.fr f5.mem f521).app f21.mem (by show w2.size ≤ w21.size; omega) (by omega) (by decide) hrx (by rw [hlen]; omega) (by rw [hlen]; omega) fun out' w23 hg23 hgr _ => ?_
    refine ih (l.length - (i + 1)) (by omega) _ _ ⟨i + 1, out', by omega, rfl, by rw [wi_eq (by omega) (by omega)]; rfl, (f5.trans f521 hs5).trans ⟨hgr.size, fun c hc => hgr.old c (by omega) (by show ¬ w2.size ≤ c; omega), hgr.mem⟩ (Nat.le_refl _), ?_⟩
    have e : l.take (i + 1) = l.take i ++ [l[i]] := (List.take_append_getElem hil).symm
    rw [e, told_snoc, List.map_append]
    exact hg23
  · have hil : i = l.length := by omega
    subst hil
    rw [List.take_length] at hg5
    exact hK out w5 f05 (hg5.rs (by decide) (by simp))
end
end Go.Proofs.Ytbjeebgdjlemjaa
