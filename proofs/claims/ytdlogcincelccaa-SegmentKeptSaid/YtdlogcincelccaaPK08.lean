/-
  A segment's file on a disk whose power may go, purely: its sectors.
  No condition beyond those that each theorem names.
-/
import Derived.Test.YtdlogcincelccaaP08
set_option linter.unusedSimpArgs false
open Go.Sx
set_option linter.unusedVariables false
set_option linter.unusedSimpArgs false
namespace Go.Proofs.Ytdlogcincelccaa
def PSec (b : Byts) (n i : Nat) (s : Byts) : Prop := ∃ m, n ≤ m ∧ m ≤ b.length ∧ SecOk (b.take m) i s
structure PF (b : Byts) (n : Nat) (ss : List Byts) : Prop where
  ln : n ≤ ss.length * 62
  up : ss.length ≤ nsec b
  ok : ∀ i (h : i < ss.length), PSec b n i ss[i]
theorem PSec.l64 {b : Byts} {n i : Nat} {s : Byts} (h : PSec b n i s) : s.length = 64 := by
  obtain ⟨m, _, _, h, _⟩ := h; exact h
theorem PSec.app {b t : Byts} {n i : Nat} {s : Byts} (h : PSec b n i s) : PSec (b ++ t) n i s := by
  obtain ⟨m, h1, h2, h3⟩ := h
  exact ⟨m, h1, by simp; omega, by rw [List.take_append_of_le_length h2]; exact h3⟩
theorem PSec.le {b : Byts} {n n' i : Nat} {s : Byts} (h : PSec b n i s) (hn : n' ≤ n) : PSec b n' i s := by
  obtain ⟨m, h1, h2, h3⟩ := h
  exact ⟨m, by omega, h2, h3⟩
theorem PF.app {b t : Byts} {n : Nat} {ss : List Byts} (h : PF b n ss) : PF (b ++ t) n ss := ⟨h.ln, by have := h.up; unfold nsec at *; simp; omega, fun i hi => (h.ok i hi).app⟩
theorem PF.le {b : Byts} {n n' : Nat} {ss : List Byts} (h : PF b n ss) (hn : n' ≤ n) : PF b n' ss := ⟨by have := h.ln; omega, h.up, fun i hi => (h.ok i hi).le hn⟩
theorem PF.l64 {b : Byts} {n : Nat} {ss : List Byts} (h : PF b n ss) : ∀ s ∈ ss, s.length = 64 := fun s hs => by
  obtain ⟨i, hi, rfl⟩ := List.getElem_of_mem hs
  exact (h.ok i hi).l64
theorem PF.nil {b : Byts} : PF b 0 [] := ⟨Nat.zero_le _, Nat.zero_le _, fun i hi => by simp at hi⟩
theorem chunk_nil {b : Byts} {i : Nat} (h : b.length ≤ i * 62) : chunk b i = [] := by
  unfold chunk; rw [List.drop_eq_nil_of_le h]; rfl
theorem PSec.zero {b : Byts} {n i : Nat} (hn : n ≤ i * 62) (hb : n ≤ b.length) : PSec b n i zsec := by
  refine ⟨n, Nat.le_refl _, hb, by simp [zsec], ?_, ?_⟩
  · rw [chunk_nil (by simp; omega)]; rfl
  · rw [chunk_nil (by simp; omega)]; rfl
theorem PF.put {b : Byts} {n j : Nat} {ss : List Byts} {x : Byts} (h : PF b n ss) (hb : n ≤ b.length) (hj : j < nsec b) (hx : PSec b n j x) : PF b n (putS ss j x) := by
  have hl : (putS ss j x).length = max ss.length (j + 1) := by unfold putS; simp; omega
  have hln := h.ln
  have hup := h.up
  refine ⟨by rw [hl]; omega, by rw [hl]; omega, fun i hi => ?_⟩
  simp only [putS, List.getElem_set]
  split
  · rename_i e; subst e; exact hx
  · rw [List.getElem_append]
    split
    · exact h.ok i _
    · rw [List.getElem_replicate]
      exact PSec.zero (by omega) hb
theorem PF.cut {b : Byts} {n k : Nat} {ss : List Byts} (h : PF b n ss) (hk : n ≤ k * 62) : PF b n (ss.take k) := by
  have hln := h.ln
  refine ⟨by rw [List.length_take]; rcases Nat.le_total k ss.length with h | h <;> simp [Nat.min_eq_left, Nat.min_eq_right, h] <;> assumption, by have := h.up; rw [List.length_take]; omega, fun i hi => ?_⟩
  rw [List.getElem_take]
  exact h.ok i _
theorem Sect.pf {ss : List Byts} {b : Byts} (h : Sect ss b) : PF b b.length ss := by
  refine ⟨by rw [h.len]; unfold nsec; omega, by rw [h.len]; exact Nat.le_refl _, fun i hi => ⟨b.length, Nat.le_refl _, Nat.le_refl _, by rw [List.take_length]; exact h.ok i hi⟩⟩
theorem psec_sector {b : Byts} {n m i : Nat} (hn : n ≤ m) (hm : m ≤ b.length) : PSec b n i (sector (b.take m) i) := ⟨m, hn, hm, sector_ok _ _⟩
theorem pf_stream (b : Byts) (n : Nat) (hb : n ≤ b.length) : ∀ (ss : List Byts) (M i : Nat), ss.length < M → i * 62 ≤ b.length → n ≤ (i + ss.length) * 62 → (∀ j (h : j < ss.length), PSec b n (i + j) ss[j]) →
    ∃ m, n ≤ m ∧ m ≤ b.length ∧ b.take (i * 62) ++ streamN M ss.flatten = b.take m
  | [], M, i, hM, hi, hn, _ => by
    refine ⟨i * 62, by simpa using hn, hi, ?_⟩
    cases M with
    | zero => simp at hM
    | succ M => simp [streamN]
  | s :: ss, M, i, hM, hi, hn, hs => by
    obtain ⟨M, rfl⟩ : ∃ M', M = M' + 1 := ⟨M - 1, by simp at hM; omega⟩
    obtain ⟨m, hm1, hm2, h64, hg, hd⟩ := hs 0 (by simp)
    simp only [List.getElem_cons_zero, Nat.add_zero] at h64 hg hd
    have hc := chunk_length (b.take m) i
    unfold streamN
    rw [if_neg (by simp; omega)]
    simp only [List.flatten_cons]
    rw [getD_app (by omega), hg, if_neg (by omega), drop_app h64]
    have e1 : ((s ++ ss.flatten).drop 2).take (chunk (b.take m) i).length = chunk (b.take m) i := by
      rw [List.drop_append_of_le_length (by omega), List.take_append_of_le_length (by simp; omega)]; exact hd
    rw [e1]
    have hcl : (chunk (b.take m) i).length = min 62 (m - i * 62) := by unfold chunk; simp; omega
    by_cases h62 : (chunk (b.take m) i).length < 62
    · rw [if_pos h62, List.append_nil]
      by_cases hmi : i * 62 ≤ m
      · refine ⟨m, hm1, hm2, ?_⟩
        have e2 : chunk (b.take m) i = (b.take m).drop (i * 62) := by
          unfold chunk; rw [List.take_of_length_le (by simp; omega)]
        rw [e2, show b.take (i * 62) = (b.take m).take (i * 62) by rw [List.take_take, Nat.min_eq_left hmi], List.take_append_drop]
      · refine ⟨i * 62, by omega, hi, ?_⟩
        rw [chunk_nil (by simp; omega), List.append_nil]
    · rw [if_neg h62]
      have hm3 : (i + 1) * 62 ≤ m := by omega
      obtain ⟨m', g1, g2, g3⟩ := pf_stream b n hb ss M (i + 1) (by simp at hM; omega) (by omega) (by simp at hn; omega) fun j hj => by
        have := hs (j + 1) (by simp; omega)
        rw [show i + (j + 1) = i + 1 + j by omega] at this
        exact this
      refine ⟨m', g1, g2, ?_⟩
      rw [← g3, ← List.append_assoc]
      congr 1
      have e3 : chunk (b.take m) i = chunk b i := by
        unfold chunk
        rw [List.drop_take, List.take_take, Nat.min_eq_left (by omega)]
      rw [e3]
      unfold chunk
      rw [show (i + 1) * 62 = i * 62 + 62 by omega, List.take_add]
theorem PF.stream {b : Byts} {n : Nat} {ss : List Byts} (h : PF b n ss) (hb : n ≤ b.length) : ∃ m, n ≤ m ∧ m ≤ b.length ∧ Ytdlogcincelccaa.stream ss.flatten = b.take m := by
  have hf := flat_len h.l64
  obtain ⟨m, g1, g2, g3⟩ := pf_stream b n hb ss (ss.flatten.length / 64 + 1) 0 (by omega) (by simp) (by have := h.ln; simpa using this) (fun j hj => by rw [Nat.zero_add]; exact h.ok j hj)
  refine ⟨m, g1, g2, ?_⟩
  rw [Nat.zero_mul, List.take_zero, List.nil_append] at g3
  exact g3
/-! ### Frames -/
def cat (l : List Byts) : Byts := (l.map frame).flatten
theorem cat_snoc (l : List Byts) (t : Byts) : cat (l ++ [t]) = cat l ++ frame t := by simp [cat]
theorem cat_app (l r : List Byts) : cat (l ++ r) = cat l ++ cat r := by simp [cat]
theorem cat_told : ∀ (n : Nat) (l : List Byts), l.length = n → (∀ t ∈ l, t.length ≤ 65536) → (ends (cat l)).length = l.length ∧ sizeE (ends (cat l)) = (cat l).length ∧ toldL (cat l) (ends (cat l)) = l
  | 0, l, hn, _ => by
    obtain rfl : l = [] := by simpa using hn
    exact ⟨rfl, rfl, rfl⟩
  | n + 1, l, hn, h => by
    obtain ⟨r, t, rfl⟩ : ∃ r t, l = r ++ [t] := by
      rcases List.eq_nil_or_concat l with e | ⟨r, t, e⟩
      · subst e; simp at hn
      · exact ⟨r, t, by simpa using e⟩
    obtain ⟨g1, g2, g3⟩ := cat_told n r (by simpa using hn) fun t ht => h t (by simp [ht])
    have ht := h t (by simp)
    rw [cat_snoc, ends_app ht g2]
    refine ⟨by simp [g1], by unfold sizeE; simp, ?_⟩
    rw [told_app g2 (asc_ends _), g3]
theorem parse_part (t r : Byts) (ht : t.length ≤ 65536) (hr : r.length < 4 + t.length) (hp : r = (frame t).take r.length) : ∀ (m M : Nat) (b : Byts) (a : Nat), a ≤ b.length → b.length - a < m → (b ++ r).length - a < M → (parseN m b a).getLastD a = b.length → parseN M (b ++ r) a = parseN m b a
  | 0, _, _, _, _, h, _, _ => by omega
  | m + 1, M, b, a, h, hm, hM, hla => by
    have hfl := frame_length t
    have hbl : (b ++ r).length = b.length + r.length := List.length_append
    rw [hbl] at hM
    obtain ⟨M, rfl⟩ : ∃ M', M = M' + 1 := ⟨M - 1, by omega⟩
    have fin : a = b.length → parseN (M + 1) (b ++ r) a = [] := fun e => by
      subst e
      rw [parseN, hbl]
      by_cases h4 : b.length + 4 ≤ b.length + r.length
      · have hu : u32 (b ++ r) b.length = t.length := by
          rw [← u32_frame b t ht]
          refine u32_congr fun i hi => ?_
          by_cases hib : i < b.length
          · rw [getD_appl hib, getD_appl hib]
          · rw [List.getD_eq_getElem?_getD, List.getD_eq_getElem?_getD, List.getElem?_append_right (by omega), List.getElem?_append_right (by omega)]
            rw [hp, List.getElem?_take, if_pos (by omega)]
        rw [if_pos h4, hu, if_pos (.inr (by omega))]
      · rw [if_neg h4]
    by_cases h1 : a + 4 ≤ b.length
    · by_cases h2 : 65536 < u32 b a ∨ b.length < a + 4 + u32 b a
      · have e : parseN (m + 1) b a = [] := by unfold parseN; rw [if_pos h1, if_pos h2]
        rw [e] at hla ⊢
        exact fin hla
      · have e : parseN (m + 1) b a = (a + 4 + u32 b a) :: parseN m b (a + 4 + u32 b a) := by rw [parseN, if_pos h1, if_neg h2]
        have h2' := not_or.1 h2
        rw [e, List.getLastD_cons] at hla
        have ih := parse_part t r ht hr hp m M b (a + 4 + u32 b a) (by omega) (by omega) (by rw [hbl]; omega) hla
        have hu : u32 (b ++ r) a = u32 b a := u32_congr fun i hi => getD_appl (by omega)
        rw [e, parseN, hu, hbl, if_pos (by omega), if_neg (by omega), ih]
    · have e : parseN (m + 1) b a = [] := by unfold parseN; rw [if_neg h1]
      rw [e] at hla ⊢
      exact fin hla
theorem cat_take : ∀ (n : Nat) (l : List Byts) (m : Nat), l.length = n → (∀ t ∈ l, t.length ≤ 65536) → m ≤ (cat l).length → ∃ q, q ≤ l.length ∧ ends ((cat l).take m) = ends (cat (l.take q)) ∧ (cat (l.take q)).length ≤ m ∧ ∀ p, p ≤ l.length → (cat (l.take p)).length ≤ m → p ≤ q
  | 0, l, m, hn, _, hm => by
    obtain rfl : l = [] := by simpa using hn
    exact ⟨0, Nat.le_refl _, by simp [cat], by simp [cat], fun p hp _ => by simpa using hp⟩
  | n + 1, l, m, hn, h, hm => by
    obtain ⟨r, t, rfl⟩ : ∃ r t, l = r ++ [t] := by
      rcases List.eq_nil_or_concat l with e | ⟨r, t, e⟩
      · subst e; simp at hn
      · exact ⟨r, t, by simpa using e⟩
    have hrn : r.length = n := by simpa using hn
    have hr := fun u hu => h u (List.mem_append_left [t] hu)
    have ht := h t (by simp)
    have hfl := frame_length t
    rw [cat_snoc] at hm ⊢
    have hal : (cat r ++ frame t).length = (cat r).length + (4 + t.length) := by rw [List.length_append, hfl]
    by_cases hfull : m = (cat r ++ frame t).length
    · refine ⟨r.length + 1, by simp, ?_, ?_, fun p hp _ => by simpa using hp⟩
      · rw [hfull, List.take_length, List.take_of_length_le (by simp), cat_snoc]
      · rw [List.take_of_length_le (by simp), cat_snoc, hfull]; exact Nat.le_refl _
    · by_cases hm2 : m ≤ (cat r).length
      · by_cases hm3 : m = (cat r).length
        · refine ⟨r.length, by simp, ?_, ?_, fun p hp hl => ?_⟩
          · rw [hm3, List.take_append_of_le_length (Nat.le_refl _), List.take_length, List.take_append_of_le_length (Nat.le_refl _), List.take_length]
          · rw [List.take_append_of_le_length (Nat.le_refl _), List.take_length]; omega
          · simp at hp
            by_cases hp2 : p = r.length + 1
            · exfalso
              rw [hp2, List.take_of_length_le (by simp), cat_snoc] at hl
              omega
            · omega
        · obtain ⟨q, q1, q2, q3, q4⟩ := cat_take n r m hrn hr hm2
          refine ⟨q, by simp; omega, ?_, ?_, fun p hp hl => ?_⟩
          · rw [List.take_append_of_le_length hm2, List.take_append_of_le_length q1]; exact q2
          · rw [List.take_append_of_le_length q1]; exact q3
          · simp at hp
            by_cases hp2 : p = r.length + 1
            · exfalso
              rw [hp2, List.take_of_length_le (by simp), cat_snoc] at hl
              omega
            · rw [List.take_append_of_le_length (by omega)] at hl
              exact q4 p (by omega) hl
      · obtain ⟨g1, g2, g3⟩ := cat_told n r hrn hr
        refine ⟨r.length, by simp, ?_, ?_, fun p hp hl => ?_⟩
        · rw [List.take_append_of_le_length (Nat.le_refl _), List.take_length]
          rw [List.take_append, List.take_of_length_le (by omega)]
          have hrl : ((frame t).take (m - (cat r).length)).length = m - (cat r).length := by rw [List.length_take]; omega
          exact parse_part t ((frame t).take (m - (cat r).length)) ht (by omega) (by rw [hrl]) ((cat r).length + 1) _ (cat r) 0 (Nat.zero_le _) (by omega) (by omega) g2
        · rw [List.take_append_of_le_length (Nat.le_refl _), List.take_length]; omega
        · simp at hp
          by_cases hp2 : p = r.length + 1
          · exfalso
            rw [hp2, List.take_of_length_le (by simp), cat_snoc] at hl
            omega
          · omega
theorem cat_mono (l : List Byts) {p q : Nat} (h : p ≤ q) : (cat (l.take p)).length ≤ (cat (l.take q)).length := by
  have e : l.take q = l.take p ++ (l.take q).drop p := by
    rw [show l.take p = (l.take q).take p by rw [List.take_take, Nat.min_eq_left h], List.take_append_drop]
  rw [e, cat_app, List.length_append]; omega
theorem cat_pre (l : List Byts) (p : Nat) : (cat l).take (cat (l.take p)).length = cat (l.take p) := by
  have e : cat l = cat (l.take p) ++ cat (l.drop p) := by rw [← cat_app, List.take_append_drop]
  rw [e, List.take_left]
theorem cat_ends (l : List Byts) (h : ∀ t ∈ l, t.length ≤ 65536) {p : Nat} (hp : p ≤ l.length) : (ends (cat l)).take p = ends (cat (l.take p)) ∧ stE (ends (cat l)) p = (cat (l.take p)).length := by
  have key : ∀ (n : Nat) (r l : List Byts), r.length = n → (∀ t ∈ l ++ r, t.length ≤ 65536) → ∃ z, ends (cat (l ++ r)) = ends (cat l) ++ z := by
    intro n
    induction n with
    | zero => intro r l hr _; obtain rfl : r = [] := by simpa using hr
              exact ⟨[], by simp⟩
    | succ n ih =>
      intro r l hr hs
      obtain ⟨a, t, rfl⟩ : ∃ a t, r = a ++ [t] := by
        rcases List.eq_nil_or_concat r with e | ⟨a, t, e⟩
        · subst e; simp at hr
        · exact ⟨a, t, by simpa using e⟩
      have hs' : ∀ u ∈ l ++ a, u.length ≤ 65536 := fun u hu => hs u (by rw [← List.append_assoc]; exact List.mem_append_left _ hu)
      obtain ⟨z, hz⟩ := ih a l (by simpa using hr) hs'
      obtain ⟨_, g2, _⟩ := cat_told (l ++ a).length (l ++ a) rfl hs'
      rw [← List.append_assoc, cat_snoc, ends_app (hs t (by simp)) g2, hz]
      exact ⟨_, List.append_assoc _ _ _⟩
  obtain ⟨z, hz⟩ := key _ (l.drop p) (l.take p) rfl (by rw [List.take_append_drop]; exact h)
  rw [List.take_append_drop] at hz
  obtain ⟨g1, g2, _⟩ := cat_told (l.take p).length (l.take p) rfl fun t ht => h t (List.mem_of_mem_take ht)
  have hl : (ends (cat (l.take p))).length = p := by rw [g1, List.length_take]; omega
  have e1 : (ends (cat l)).take p = ends (cat (l.take p)) := by rw [hz, List.take_left' hl]
  refine ⟨e1, ?_⟩
  rw [← g2, ← e1]
  unfold stE sizeE
  rw [List.getLastD_eq_getLast?, List.getLast?_eq_getElem?]
  have hlt : ((ends (cat l)).take p).length = p := by rw [e1]; exact hl
  rw [hlt]
  cases p with
  | zero => simp
  | succ p =>
    rw [if_neg (by omega), List.getD_eq_getElem?_getD, show p + 1 - 1 = p by omega, List.getElem?_take, if_pos (by omega)]
end Go.Proofs.Ytdlogcincelccaa
