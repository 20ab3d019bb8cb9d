/-
  Frames and files of a segment, purely.
  No condition beyond those that each theorem names.
-/
import Derived.Test.YtgobllfkiannfaaX11
set_option linter.unusedSimpArgs false
open Go.Sx
set_option linter.unusedVariables false
set_option linter.unusedSimpArgs false
namespace Go.Proofs.Ytgobllfkiannfaa
theorem parse_fuel : ∀ (m m' : Nat) (b : Byts) (a : Nat), b.length - a < m → b.length - a < m' → parseN m b a = parseN m' b a
  | 0, _, _, _, h, _ => by omega
  | _, 0, _, _, _, h => by omega
  | m + 1, m' + 1, b, a, h, h' => by
    unfold parseN
    split
    · split
      · rfl
      · rw [parse_fuel m m' b _ (by omega) (by omega)]
    · rfl
theorem u32_congr {b c : Byts} {a : Nat} (h : ∀ i, i < a + 4 → b.getD i 0 = c.getD i 0) : u32 b a = u32 c a := by
  unfold u32
  rw [h a (by omega), h (a + 1) (by omega), h (a + 2) (by omega), h (a + 3) (by omega)]
theorem getD_take {b : Byts} {n i : Nat} (h : i < n) : (b.take n).getD i 0 = b.getD i 0 := by
  rw [List.getD_eq_getElem?_getD, List.getD_eq_getElem?_getD, List.getElem?_take, if_pos h]
theorem getD_appl {b c : Byts} {i : Nat} (h : i < b.length) : (b ++ c).getD i 0 = b.getD i 0 := by
  rw [List.getD_eq_getElem?_getD, List.getD_eq_getElem?_getD, List.getElem?_append_left h]
theorem last_ge : ∀ (m : Nat) (b : Byts) (a : Nat), a ≤ (parseN m b a).getLastD a
  | 0, _, _ => Nat.le_refl _
  | m + 1, b, a => by
    unfold parseN
    split
    · split
      · exact Nat.le_refl _
      · have := last_ge m b (a + 4 + u32 b a)
        rw [List.getLastD_cons]; omega
    · exact Nat.le_refl _
theorem last_le : ∀ (m : Nat) (b : Byts) (a : Nat), a ≤ b.length → (parseN m b a).getLastD a ≤ b.length
  | 0, _, _, h => h
  | m + 1, b, a, h => by
    unfold parseN
    split
    · split
      · exact h
      · rename_i h1 h2
        have h2 := not_or.1 h2
        rw [List.getLastD_cons]
        exact last_le m b _ (by omega)
    · exact h
theorem parse_take : ∀ (m : Nat) (b : Byts) (a : Nat), a ≤ b.length → parseN m (b.take ((parseN m b a).getLastD a)) a = parseN m b a
  | 0, _, _, _ => rfl
  | m + 1, b, a, h => by
    by_cases h1 : a + 4 ≤ b.length
    · by_cases h2 : 65536 < u32 b a ∨ b.length < a + 4 + u32 b a
      · have e : parseN (m + 1) b a = [] := by unfold parseN; rw [if_pos h1, if_pos h2]
        rw [e]
        unfold parseN
        rw [if_neg (by simp; omega)]
      · have e : parseN (m + 1) b a = (a + 4 + u32 b a) :: parseN m b (a + 4 + u32 b a) := by rw [parseN, if_pos h1, if_neg h2]
        have h2' := not_or.1 h2
        have g1 := last_ge m b (a + 4 + u32 b a)
        have g2 := last_le m b (a + 4 + u32 b a) (by omega)
        have ih := parse_take m b (a + 4 + u32 b a) (by omega)
        rw [e, List.getLastD_cons]
        generalize (parseN m b (a + 4 + u32 b a)).getLastD (a + 4 + u32 b a) = n at g1 g2 ih ⊢
        have hu : u32 (b.take n) a = u32 b a := u32_congr fun i hi => getD_take (by omega)
        have hl : (b.take n).length = n := by simp; omega
        rw [parseN, hu, hl, if_pos (by omega), if_neg (by omega), ih]
    · have e : parseN (m + 1) b a = [] := by unfold parseN; rw [if_neg h1]
      rw [e]
      unfold parseN
      rw [if_neg (by simp; omega)]
theorem ends_take (b : Byts) : ends (b.take (sizeE (ends b))) = ends b ∧ (b.take (sizeE (ends b))).length = sizeE (ends b) := by
  have hl : (b.take (sizeE (ends b))).length = sizeE (ends b) := by
    have := sizeE_le (b := b); simp; omega
  refine ⟨?_, hl⟩
  have h := parse_take (b.length + 1) b 0 (Nat.zero_le _)
  have e : ends (b.take (sizeE (ends b))) = parseN (b.length + 1) (b.take (sizeE (ends b))) 0 := by
    unfold ends
    refine parse_fuel _ _ _ _ (by omega) ?_
    have := sizeE_le (b := b)
    have hl' : (b.take (sizeE (parseN (b.length + 1) b 0))).length = sizeE (ends b) := hl
    omega
  rw [e]; exact h
theorem u32_frame (b t : Byts) (ht : t.length ≤ 65536) : u32 (b ++ frame t) b.length = t.length := by
  have g : ∀ i, (b ++ frame t).getD (b.length + i) 0 = (frame t).getD i 0 := fun i => by
    rw [List.getD_eq_getElem?_getD, List.getD_eq_getElem?_getD, List.getElem?_append_right (by omega), show b.length + i - b.length = i by omega]
  have g0 := g 0
  rw [Nat.add_zero] at g0
  unfold u32
  rw [g0, g 1, g 2, g 3]
  show (UInt8.ofNat (t.length / 2 ^ 24)).toNat * 2 ^ 24 + (UInt8.ofNat (t.length / 2 ^ 16)).toNat * 2 ^ 16 + (UInt8.ofNat (t.length / 2 ^ 8)).toNat * 2 ^ 8 + (UInt8.ofNat t.length).toNat = _
  simp only [UInt8.toNat_ofNat']
  omega
theorem parse_app (t : Byts) (ht : t.length ≤ 65536) : ∀ (m M : Nat) (b : Byts) (a : Nat), a ≤ b.length → b.length - a < m → (b ++ frame t).length - a < M → (parseN m b a).getLastD a = b.length → parseN M (b ++ frame t) a = parseN m b a ++ [(b ++ frame t).length]
  | 0, _, _, _, _, h, _, _ => by omega
  | m + 1, M, b, a, h, hm, hM, hla => by
    have hfl := frame_length t
    have hbl : (b ++ frame t).length = b.length + (4 + t.length) := by rw [List.length_append, hfl]
    rw [hbl] at hM
    obtain ⟨M, rfl⟩ : ∃ M', M = M' + 1 := ⟨M - 1, by omega⟩
    have fin : a = b.length → parseN (M + 1) (b ++ frame t) a = [(b ++ frame t).length] := fun e => by
      subst e
      obtain ⟨M, rfl⟩ : ∃ M', M = M' + 1 := ⟨M - 1, by omega⟩
      rw [parseN, u32_frame b t ht, hbl, if_pos (by omega), if_neg (by omega), parseN, if_neg (by rw [hbl]; omega)]
      congr 1
      omega
    by_cases h1 : a + 4 ≤ b.length
    · by_cases h2 : 65536 < u32 b a ∨ b.length < a + 4 + u32 b a
      · have e : parseN (m + 1) b a = [] := by unfold parseN; rw [if_pos h1, if_pos h2]
        rw [e] at hla ⊢
        exact fin hla
      · have e : parseN (m + 1) b a = (a + 4 + u32 b a) :: parseN m b (a + 4 + u32 b a) := by rw [parseN, if_pos h1, if_neg h2]
        have h2' := not_or.1 h2
        rw [e, List.getLastD_cons] at hla
        have ih := parse_app t ht m M b (a + 4 + u32 b a) (by omega) (by omega) (by rw [hbl]; omega) hla
        have hu : u32 (b ++ frame t) a = u32 b a := u32_congr fun i hi => getD_appl (by omega)
        rw [e, parseN, hu, if_pos (by omega), if_neg (by omega), ih]
        rfl
    · have e : parseN (m + 1) b a = [] := by unfold parseN; rw [if_neg h1]
      rw [e] at hla ⊢
      exact fin hla
theorem ends_app {b t : Byts} (ht : t.length ≤ 65536) (h : sizeE (ends b) = b.length) : ends (b ++ frame t) = ends b ++ [(b ++ frame t).length] := by
  exact parse_app t ht (b.length + 1) ((b ++ frame t).length + 1) b 0 (Nat.zero_le _) (by omega) (by omega) h
end Go.Proofs.Ytgobllfkiannfaa
