/-
  A segment's file, purely: what its sectors tell.
  No condition beyond those that each theorem names.
-/
import Derived.Test.YtgobllfkiannfaaN11
set_option linter.unusedSimpArgs false
open Go.Sx
set_option linter.unusedVariables false
set_option linter.unusedSimpArgs false
namespace Go.Proofs.Ytgobllfkiannfaa
def chunk (b : Byts) (i : Nat) : Byts := (b.drop (i * 62)).take 62
def SecOk (b : Byts) (i : Nat) (s : Byts) : Prop := s.length = 64 ∧ (s.getD 0 0).toNat = (chunk b i).length ∧ (s.drop 2).take (chunk b i).length = chunk b i
theorem chunk_length (b : Byts) (i : Nat) : (chunk b i).length ≤ 62 := by unfold chunk; simp; omega
theorem sector_ok (b : Byts) (i : Nat) : SecOk b i (sector b i) := by
  have h := chunk_length b i
  refine ⟨sector_length b i, ?_, ?_⟩
  · show (UInt8.ofNat (chunk b i).length).toNat = _
    rw [UInt8.toNat_ofNat']; omega
  · show ((chunk b i) ++ List.replicate (62 - (chunk b i).length) 0).take (chunk b i).length = _
    rw [List.take_left' rfl]
theorem chunk_drop (b : Byts) (i : Nat) : chunk (b.drop 62) i = chunk b (i + 1) := by
  unfold chunk; rw [List.drop_drop, show 62 + i * 62 = (i + 1) * 62 by omega]
theorem getD_app {s r : Byts} (h : 0 < s.length) : (s ++ r).getD 0 0 = s.getD 0 0 := by
  cases s with
  | nil => simp at h
  | cons a s => rfl
theorem drop_app {s r : Byts} (h : s.length = 64) : (s ++ r).drop 64 = r := List.drop_left' h
theorem stream_of : ∀ (ss : List Byts) (b : Byts) (m : Nat), ss.length < m → ss.length = nsec b → (∀ i (h : i < ss.length), SecOk b i ss[i]) → streamN m ss.flatten = b
  | [], b, m, hm, hn, _ => by
    have hb : b = [] := by
      have : b.length = 0 := by unfold nsec at hn; simp at hn; omega
      simpa using this
    subst hb
    cases m with
    | zero => simp at hm
    | succ m => simp [streamN]
  | s :: ss, b, m, hm, hn, hs => by
    obtain ⟨m, rfl⟩ : ∃ m', m = m' + 1 := ⟨m - 1, by simp at hm; omega⟩
    obtain ⟨h64, hg, hd⟩ := hs 0 (by simp)
    simp only [List.getElem_cons_zero] at h64 hg hd
    have hc := chunk_length b 0
    unfold streamN
    rw [if_neg (by simp; omega)]
    simp only [List.flatten_cons]
    rw [getD_app (by omega), hg, if_neg (by omega), drop_app h64]
    have e1 : ((s ++ ss.flatten).drop 2).take (chunk b 0).length = chunk b 0 := by
      rw [List.drop_append_of_le_length (by omega), List.take_append_of_le_length (by simp; omega)]; exact hd
    rw [e1]
    have hcl : (chunk b 0).length = min 62 b.length := by unfold chunk; simp
    by_cases h62 : (chunk b 0).length < 62
    · rw [if_pos h62, List.append_nil]
      unfold chunk
      rw [Nat.zero_mul, List.drop_zero, List.take_of_length_le (by omega)]
    · rw [if_neg h62]
      have ih := stream_of ss (b.drop 62) m (by simp at hm; omega) (by unfold nsec at hn ⊢; simp at hn ⊢; omega) fun i h => by
        have := hs (i + 1) (by simp; omega)
        simp only [List.getElem_cons_succ] at this
        unfold SecOk at this ⊢
        rw [chunk_drop]; exact this
      rw [ih]
      unfold chunk
      rw [Nat.zero_mul, List.drop_zero, List.take_append_drop]
theorem stream_sec : ∀ (ss : List Byts) (m : Nat) (i : Nat), (∀ s ∈ ss, s.length = 64) → (i + 1) * 62 ≤ (streamN m ss.flatten).length → ∃ h : i < ss.length, SecOk (streamN m ss.flatten) i ss[i]
  | [], m, i, _, h => by
    exfalso
    have := streamN_length m []
    simp at this h
    rw [this] at h; simp at h
  | s :: ss, 0, i, _, h => by simp [streamN] at h
  | s :: ss, m + 1, i, h64, h => by
    have hs64 := h64 s List.mem_cons_self
    unfold streamN at h ⊢
    rw [if_neg (by simp; omega)] at h ⊢
    simp only [List.flatten_cons] at h ⊢
    rw [getD_app (by omega), drop_app hs64] at h ⊢
    generalize hn : (if 62 < (s.getD 0 0).toNat then 0 else (s.getD 0 0).toNat) = n at h ⊢
    have hn62 : n ≤ 62 := by rw [← hn]; split <;> omega
    have e1 : ((s ++ ss.flatten).drop 2).take n = (s.drop 2).take n := by
      rw [List.drop_append_of_le_length (by omega), List.take_append_of_le_length (by simp; omega)]
    rw [e1] at h ⊢
    have hpl : ((s.drop 2).take n).length = n := by simp; omega
    by_cases hn2 : n < 62
    · rw [if_pos hn2, List.append_nil, hpl] at h
      omega
    · obtain rfl : n = 62 := by omega
      rw [if_neg hn2] at h ⊢
      have h0 : (s.getD 0 0).toNat = 62 := by
        by_cases hq : 62 < (s.getD 0 0).toNat
        · rw [if_pos hq] at hn; omega
        · rw [if_neg hq] at hn; exact hn
      cases i with
      | zero =>
        have e : chunk ((s.drop 2).take 62 ++ streamN m ss.flatten) 0 = (s.drop 2).take 62 := by
          unfold chunk
          rw [Nat.zero_mul, List.drop_zero, List.take_left' hpl]
        refine ⟨Nat.succ_pos _, hs64, ?_, ?_⟩
        · rw [e, hpl]; exact h0
        · rw [e, hpl]; rfl
      | succ i =>
        rw [List.length_append, hpl] at h
        have hge : (i + 1) * 62 ≤ (streamN m ss.flatten).length := by
          rw [Nat.succ_mul (i + 1) 62, Nat.add_comm] at h
          exact Nat.le_of_add_le_add_left h
        obtain ⟨g1, g2⟩ := stream_sec ss m i (fun t ht => h64 t (List.mem_cons_of_mem _ ht)) hge
        refine ⟨Nat.succ_lt_succ g1, ?_⟩
        simp only [List.getElem_cons_succ]
        unfold SecOk at g2 ⊢
        rw [← chunk_drop, List.drop_left' hpl]
        exact g2
theorem SecOk.take {b : Byts} {n i : Nat} {s : Byts} (h : SecOk b i s) (hi : (i + 1) * 62 ≤ n) : SecOk (b.take n) i s := by
  have : chunk (b.take n) i = chunk b i := by
    unfold chunk
    rw [List.drop_take, List.take_take, Nat.min_eq_left (by omega)]
  unfold SecOk at h ⊢
  rw [this]; exact h
theorem SecOk.app {b r : Byts} {i : Nat} {s : Byts} (h : SecOk b i s) (hi : (i + 1) * 62 ≤ b.length) : SecOk (b ++ r) i s := by
  have : chunk (b ++ r) i = chunk b i := by
    unfold chunk
    rw [List.drop_append_of_le_length (by omega), List.take_append_of_le_length (by simp; omega)]
  unfold SecOk at h ⊢
  rw [this]; exact h
end Go.Proofs.Ytgobllfkiannfaa
