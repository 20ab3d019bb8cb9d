/-
  A segment's file, purely: what its sectors tell.
  No condition beyond those that each theorem names.
-/
import Derived.Test.YthpjoogmmjikmaaGreatDoorN10
set_option linter.unusedSimpArgs false
open Go.Sx
set_option linter.unusedVariables false
set_option linter.unusedSimpArgs false
namespace Go.Proofs.YthpjoogmmjikmaaGreatDoor
def chunk (b : Byts) (i : Nat) : Byts := (b.drop (i * 62)).take 62
def SecOk (b : Byts) (i : Nat) (s : Byts) : Prop := s.length = 64 ∧ (s.getD 0 0).toNat = (chunk b i).length ∧ (s.drop 2).take (chunk b i).length = chunk b i
theorem chunk_length (b : Byts) (i : Nat) : (chunk b i).length ≤ 62 := by unfold chunk; simp; omega
theorem sector_ok (b : Byts) (i : Nat) : SecOk b i (sector b i) := by
  have h := chunk_length b i
  refine ⟨sector_length b i, ?_, ?_⟩
  · show (UInt8.ofNat (chunk b i).length).toNat = _
    rw [UInt8.toNat_ofNat']; omega
  · show ((chunk b i) ++ List.replicate (62 - (chunk b i).length) 0).take (chunk b i).length = _
    rw [List.take_left' rfl]
theorem chunk_drop (b : Byts) (i : Nat) : chunk (b.drop 62) i = chunk b (i + 1) := by
  unfold chunk; rw [List.drop_drop, show 62 + i * 62 = (i + 1) * 62 by omega]
theorem getD_app {s r : Byts} (h : 0 < s.length) : (s ++ r).getD 0 0 = s.getD 0 0 := by
  cases s with
  | nil => simp at h
  | cons a s => rfl
theorem drop_app {s r : Byts} (h : s.length = 64) : (s ++ r).drop 64 = r := List.drop_left' h
theorem stream_of : ∀ (ss : List Byts) (b : Byts) (m : Nat), ss.length < m → ss.length = nsec b → (∀ i (h : i < ss.length), SecOk b i ss[i]) → streamN m ss.flatten = b
  | [], b, m, hm, hn, _ => by
    have hb : b = [] := by
      have : b.length = 0 := by unfold nsec at hn; simp at hn; omega
      simpa using this
    subst hb
    cases m with
    | zero => simp at hm
    | succ m => simp [streamN]
  | s :: ss, b, m, hm, hn, hs => by
    obtain ⟨m, rfl⟩ : ∃ m', m = m' + 1 := ⟨m - 1, by simp at hm; omega⟩
    obtain ⟨h64, hg, hd⟩ := hs 0 (by simp)
    simp only [List.getElem_cons_zero] at h64 hg hd
    have hc := chunk_length b 0
    unfold streamN
    rw [if_neg (by simp; omega)]
    simp only [List.flatten_cons]
    rw [getD_app (by omega), hg, if_neg (by omega), drop_app h64]
    have e1 : ((s ++ ss.flatten).drop 2).take (chunk b 0).length = chunk b 0 := by
      rw [List.drop_append_of_le_length (by omega), List.take_append_of_le_length (by simp; omega)]; exact hd
    rw [e1]
    have hcl : (chunk b 0).length = min 62 b.length := by unfold chunk; simp
    by_cases h62 : (chunk b 0).length < 62
    · rw [if_pos h62, List.append_nil]
      unfold chunk
      rw [Nat.zero_mul, List.drop_zero, List.take_of_length_le (by omega)]
    · rw [if_neg h62]
      have ih := stream_of ss (b.drop 62) m (by simp at hm; omega) (by unfold nsec at hn ⊢; simp at hn ⊢; omega) fun i h => by
        have := hs (i + 1) (by simp; omega)
        simp only [List.getElem_cons_succ] at this
        unfold SecOk at this ⊢
        rw [chunk_drop]; exact this
      rw [ih]
      unfold chunk
      rw [Nat.zero_mul, List.drop_zero, List.take_append_drop]
theorem SecOk.take {b : Byts} {n i : Nat} {s : Byts} (h : SecOk b i s) (hi : (i + 1) * 62 ≤ n) : SecOk (b.take n) i s := by
  have : chunk (b.take n) i = chunk b i := by
    unfold chunk
    rw [List.drop_take, List.take_take, Nat.min_eq_left (by omega)]
  unfold SecOk at h ⊢
  rw [this]; exact h
theorem SecOk.app {b r : Byts} {i : Nat} {s : Byts} (h : SecOk b i s) (hi : (i + 1) * 62 ≤ b.length) : SecOk (b ++ r) i s := by
  have : chunk (b ++ r) i = chunk b i := by
    unfold chunk
    rw [List.drop_append_of_le_length (by omega), List.take_append_of_le_length (by simp; omega)]
  unfold SecOk at h ⊢
  rw [this]; exact h
end Go.Proofs.YthpjoogmmjikmaaGreatDoor
