/-
  A segment's file through Open, Append, Sync and a crash.
  No condition beyond those that each theorem names.
-/
import Derived.Test.YtdlogcincelccaaL08
import Derived.Test.YtdlogcincelccaaK08
set_option linter.unusedSimpArgs false
open Go.Sx
set_option linter.unusedVariables false
set_option linter.unusedSimpArgs false
namespace Go.Proofs.Ytdlogcincelccaa
theorem stE_last (E : List Nat) : stE E E.length = sizeE E := by
  unfold stE sizeE
  rw [List.getLastD_eq_getLast?, List.getLast?_eq_getElem?]
  cases h : E.length with
  | zero => have : E = [] := by simpa using h
            subst this; rfl
  | succ n => rw [if_neg (by omega), List.getD_eq_getElem?_getD]
theorem asc_parse : ∀ (m : Nat) (b : Byts) (a : Nat), a ≤ b.length → ∀ i, i < (parseN m b a).length → (if i = 0 then a else (parseN m b a).getD (i - 1) 0) + 4 ≤ (parseN m b a).getD i 0 ∧ (parseN m b a).getD i 0 ≤ b.length
  | 0, _, _, _, i, h => by simp [parseN] at h
  | m + 1, b, a, h, i, hi => by
    by_cases h1 : a + 4 ≤ b.length
    · by_cases h2 : 65536 < u32 b a ∨ b.length < a + 4 + u32 b a
      · have e : parseN (m + 1) b a = [] := by unfold parseN; rw [if_pos h1, if_pos h2]
        rw [e] at hi; simp at hi
      · have e : parseN (m + 1) b a = (a + 4 + u32 b a) :: parseN m b (a + 4 + u32 b a) := by rw [parseN, if_pos h1, if_neg h2]
        have h2' := not_or.1 h2
        obtain ⟨u, hu⟩ : ∃ u, u32 b a = u := ⟨_, rfl⟩
        rw [hu] at e h2'
        clear hu h2
        rw [e] at hi ⊢
        cases i with
        | zero =>
          show a + 4 ≤ a + 4 + u ∧ a + 4 + u ≤ b.length
          exact ⟨by omega, by omega⟩
        | succ i =>
          have ih := asc_parse m b (a + 4 + u) (by omega) i (Nat.lt_of_succ_lt_succ hi)
          cases i with
          | zero => exact ih
          | succ i => exact ih
    · have e : parseN (m + 1) b a = [] := by unfold parseN; rw [if_neg h1]
      rw [e] at hi; simp at hi
theorem asc_ends (b : Byts) : Asc b (ends b) := fun i hi => asc_parse (b.length + 1) b 0 (Nat.zero_le _) i hi
theorem told_app {B t : Byts} {E : List Nat} (hE : sizeE E = B.length) (ha : Asc B E) : toldL (B ++ frame t) (E ++ [(B ++ frame t).length]) = toldL B E ++ [t] := by
  have hfl := frame_length t
  unfold toldL
  rw [show (E ++ [(B ++ frame t).length]).length = E.length + 1 by simp, List.range_succ, List.map_append]
  congr 1
  · refine List.map_congr_left fun i hi => ?_
    have hi : i < E.length := List.mem_range.1 hi
    have g : ∀ q, q < E.length → (E ++ [(B ++ frame t).length]).getD q 0 = E.getD q 0 := fun q hq => by
      rw [List.getD_eq_getElem?_getD, List.getD_eq_getElem?_getD, List.getElem?_append_left hq]
    have hs : stE (E ++ [(B ++ frame t).length]) i = stE E i := by
      unfold stE
      split
      · rfl
      · exact g _ (by omega)
    unfold bd
    rw [g i hi, hs, List.take_append_of_le_length (ha i hi).2]
  · have hs : stE (E ++ [(B ++ frame t).length]) E.length = B.length := by
      rw [← hE, ← stE_last]
      unfold stE
      split
      · rfl
      · rw [List.getD_eq_getElem?_getD, List.getD_eq_getElem?_getD, List.getElem?_append_left (by omega)]
    have hg : (E ++ [(B ++ frame t).length]).getD E.length 0 = (B ++ frame t).length := by
      rw [List.getD_eq_getElem?_getD, List.getElem?_append_right (Nat.le_refl _)]; simp
    simp only [List.map_cons, List.map_nil]
    unfold bd
    rw [hg, hs, List.take_length, List.drop_append, List.drop_of_length_le (by omega), List.nil_append, show B.length + 4 - B.length = 4 by omega]
    congr 1
end Go.Proofs.Ytdlogcincelccaa
