/-
  told, SameLists, Count, over memory.
  No condition beyond those that each theorem names.
-/
import Derived.Test.YtdlogcincelccaaM08
set_option linter.unusedSimpArgs false
open Go.Sx
set_option linter.unusedVariables false
set_option linter.unusedSimpArgs false
namespace Go.Proofs.Ytdlogcincelccaa
def stE (E : List Nat) (i : Nat) : Nat := if i = 0 then 0 else E.getD (i - 1) 0
def bd (B : Byts) (E : List Nat) (i : Nat) : Byts := (B.take (E.getD i 0)).drop (stE E i + 4)
def toldL (B : Byts) (E : List Nat) : List Byts := (List.range E.length).map (bd B E)
def Asc (B : Byts) (E : List Nat) : Prop := ∀ i, i < E.length → stE E i + 4 ≤ E.getD i 0 ∧ E.getD i 0 ≤ B.length
section
variable {hk : Hook} {A B : Nat → Prop} {I : List Nat} {w0 w w' : AW} {D S : Nat} {i i' : DI} {d d' : Dsk} {k k' : Nat} {L L' : Obs} {K : AV → AW → Prop} {nm bs : Byts} {E : List Nat} {bv ev : AV} {br : Bool} {ef : Nat} {eo : Ob}
theorem s23 (hh : HK hk) (h3 : ld w S 3 = some ev) (he : Rs w 1 E.length ev (cst E)) (hK : K (.int .i64 (E.length : Nat)) w) : Cl Try.prog hk 23 [.ptr S 0] w K := by
  apply in23 (hh.no _ _ _ (by decide) (by decide))
  unfold F23
  refine ⟨false, by kernel_rfl, ifT_f ?_⟩
  simp only [onP]
  exact onM_s h3 ⟨_, he.len, hK⟩
theorem s12 (hh : HK hk) (h : Dk A [] w0 w D i d k ((S, .row (segC D nm bv ev br)) :: (ef, eo) :: L)) (hbs : (rL rU).rd (fz A (dkU D i ((S, .row (segC D nm bv ev br)) :: (ef, eo) :: L))) w [bv] bs) (hes : Sv 1 eo ev (cst E)) (hasc : Asc bs E) (hbl : bs.length < 2 ^ 30)
    (hK : ∀ v' w', Fr w.size w w' → Ga (rL rU) (fz A (dkU D i ((S, .row (segC D nm bv ev br)) :: (ef, eo) :: L))) w w' v' (toldL bs E) → K v' w') : Cl Try.prog hk 12 [.ptr S 0] w K := by
  apply in12 (hh.no _ _ _ (by decide) (by decide))
  unfold F12
  have pv := h.ow.P
  have hEl : ∀ i, i < E.length → i ≤ bs.length := fun i hi => by
    have : ∀ j, j < E.length → j * 4 + 4 ≤ E.getD j 0 := fun j => by
      induction j with
      | zero => intro hj; have := (hasc 0 hj).1; unfold stE at this; simp at this ⊢; exact this
      | succ j ih =>
        intro hj
        have h1 := (hasc (j + 1) hj).1
        have h2 := ih (by omega)
        unfold stE at h1
        rw [if_neg (by omega), show j + 1 - 1 = j by omega] at h1
        omega
    have := this i hi
    have := (hasc i hi).2
    omega
  have hE : E.length ≤ bs.length + 1 := by
    cases hq : E.length with
    | zero => omega
    | succ n => have := hEl n (by omega); omega
  refine loopP_ind (fun m l w3 => ∃ (j : Nat) (out : AV), m = E.length - j ∧ j ≤ E.length ∧ l = [out, .int .i64 j] ∧ Ow (fz A (dkU D i ((S, .row (segC D nm bv ev br)) :: (ef, eo) :: L))) [] w w3 [] ∧ Ga (rL rU) (fz (fz A (dkU D i ((S, .row (segC D nm bv ev br)) :: (ef, eo) :: L))) []) w w3 out ((List.range j).map (bd bs E))) ?_
    ⟨0, .nilslice, rfl, Nat.zero_le _, rfl, pv.st, Ga.nil⟩
  rintro m l w3 ⟨j, out, rfl, hj, rfl, st, hg⟩ R ih
  obtain ⟨h3, x3⟩ := h.fr st.fr
  have hrs := h3.ow.sv (i := 7) (f := ef) (o := eo) rfl hes (by decide) (k := E.length) (by rw [cst_length]; omega)
  refine ⟨_, _, rfl, fun _ => s23 hh (h3.ow.ld 6 rfl rfl) hrs ⟨_, rfl, ifT_d (fun hc => ?_) fun hc => ?_⟩⟩
  · have hjl : j < E.length := by omega
    obtain ⟨a1, a2⟩ := hasc j hjl
    have hne : bv ≠ .nilslice := by
      rintro rfl
      obtain ⟨all, g1, g2⟩ := hbs.rs
      rcases g1 with ⟨_, h2, _⟩ | ⟨b, o, cap, ex, al, h2, _⟩
      · have : bs.length = 0 := h2
        omega
      · cases h2
    have hI : RsI w3 ev (E.map fun n : Nat => ((n : Nat) : Int)) := by
      have e : (E.map fun n : Nat => ((n : Nat) : Int)).map (AV.int .i64) = cst E := by simp [cst]
      unfold RsI
      rw [e, List.length_map]; exact hrs
    have gD : ∀ q, q < E.length → (E.map fun n : Nat => ((n : Nat) : Int)).getD q 0 = ((E.getD q 0 : Nat) : Int) := fun q hq => by
      rw [List.getD_eq_getElem?_getD, List.getD_eq_getElem?_getD, List.getElem?_map, List.getElem?_eq_getElem hq]; rfl
    refine s19 (i0 := j) (st := stE E j) (en := E.getD j 0) (D := D) (br := br) (es := E.map fun n : Nat => ((n : Nat) : Int)) hh h3.ow.mem h3.ow.P0.pos (h3.ow.ld 6 rfl rfl) (h3.ow.ld 6 rfl rfl) (h3.ow.ld 6 rfl rfl) (h3.ow.ld 6 rfl rfl) (hbs.x x3) hI hne (by simpa using hjl) (by simp; omega) ?_ ?_ a1 a2 hbl fun c ex w10 f10 hc1 bx hx => ⟨_, _, rfl, gd_t rfl ?_⟩
    · unfold stE
      split
      · rfl
      · exact gD _ (by omega)
    · have := gD j hjl
      rw [List.getD_eq_getElem?_getD, List.getElem?_eq_getElem (by simpa using hjl)] at this
      exact this
    obtain ⟨st10, x10⟩ := st.call f10
    have hg10 := Ga.x' hg x10 st
    refine st10.new' fun b13 w14 st14 x14 => ?_
    have hb13 : Box w14 b13 [.slice c 0 (bd bs E j).length (bd bs E j).length ex] := (st14.box _ List.mem_cons_self rfl).1
    have hcc : fz (fz A (dkU D i ((S, .row (segC D nm bv ev br)) :: (ef, eo) :: L))) [] c := ⟨pv.new c (by have := st.size; omega), by simp⟩
    have hit : (rL rU).rd (fz (fz A (dkU D i ((S, .row (segC D nm bv ev br)) :: (ef, eo) :: L))) []) w10 [.slice c 0 (bd bs E j).length (bd bs E j).length ex] (bd bs E j) := Box.sl bx hcc rfl (Chk.bytes.2 rfl) (by omega) (by rcases hx with rfl | rfl <;> rfl)
    have hit14 := hit.x x14
    obtain ⟨st15, x15, _⟩ := st14.drop
    have hg15 := Ga.x' (Ga.x' hg10 x14 st10) x15 st14
    refine Ow.appSrc (r := rL rU) (l' := [bd bs E j]) st15 hg15 (Rs.src (hb13.rs rfl)) (Chk.one (hit14.x x15)) (by decide) (fun c hc => pv.new c (by have := st15.size; omega)) (by simp; omega) (by simp; omega) fun out' w16 st16 x16 hg16 => ?_
    refine ih (E.length - (j + 1)) (by omega) _ _ ⟨j + 1, out', rfl, hjl, by rw [wi_eq (by omega) (by omega)]; rfl, st16, by rw [List.range_succ, List.map_append]; exact hg16⟩
  · obtain rfl : j = E.length := by omega
    exact hK out w3 st.fr hg.out
theorem s14 {v1 v2 : AV} {a b : List Byts} (hh : HK hk) (h1 : (rL (rL rU)).rd A w [v1] a) (h2 : (rL (rL rU)).rd B w [v2] b) (hl : a.length < 2 ^ 60) (hl2 : b.length < 2 ^ 60) (hK : K (.bool (a == b)) w) : Cl Try.prog hk 14 [v1, v2] w K := by
  apply in14 (hh.no _ _ _ (by decide) (by decide))
  unfold F14
  refine ⟨_, h1.len', _, h2.len', ifT_nd (fun hne => ?_) fun he => ?_⟩
  · have : (a == b) = false := by
      rw [beq_eq_false_iff_ne]; rintro rfl; exact hne rfl
    rw [this] at hK; exact hK
  · have he : a.length = b.length := by omega
    refine loopP_ind (fun m l w7 => ∃ j : Nat, j ≤ a.length ∧ m = a.length - j ∧ l = [.int .i64 j] ∧ w7 = w ∧ a.take j = b.take j) ?_ ⟨0, Nat.zero_le _, rfl, rfl, rfl, rfl⟩
    rintro m l w7 ⟨j, hj, rfl, rfl, rfl, heq⟩ R ih
    refine ⟨_, rfl, fun _ => ⟨_, h1.len', ifT_d (fun hc => ?_) fun hc => ?_⟩⟩
    · have hja : j < a.length := by omega
      have hjb : j < b.length := by omega
      refine h1.at1 rfl hja fun b1 o1 x1 r1 g1 => onM_s g1 (h2.at1 rfl hjb fun b2 o2 x2 r2 g2 => onM_s g2 (s20 hh r1.rsB r2.rsB ⟨_, rfl, ?_⟩))
      cases hq : (a[j] == b[j]) with
      | false =>
        have : (a == b) = false := by
          rw [beq_eq_false_iff_ne]; rintro rfl; simp at hq
        rw [this] at hK
        exact ifT_t hK
      | true =>
        have e : a[j] = b[j] := by simpa using hq
        refine ifT_f (ih (a.length - (j + 1)) (by omega) _ _ ⟨j + 1, by omega, rfl, by rw [wi_eq (by omega) (by omega)]; rfl, rfl, ?_⟩)
        rw [← List.take_append_getElem hja, ← List.take_append_getElem hjb, heq, e]
    · have e : a = b := by
        have h1 : a.take j = a := List.take_of_length_le (by omega)
        have h2 : b.take j = b := List.take_of_length_le (by omega)
        rw [← h1, ← h2]; exact heq
      have : (a == b) = true := by rw [e]; simp
      rw [this] at hK; exact hK
end
end Go.Proofs.Ytdlogcincelccaa
