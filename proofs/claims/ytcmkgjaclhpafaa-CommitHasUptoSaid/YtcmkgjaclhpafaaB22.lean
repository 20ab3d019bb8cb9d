/-
  What the functions of this chapter do.
  No condition beyond those that each theorem names.
-/
import Derived.Test.YtcmkgjaclhpafaaA22
open Go.Sx
set_option linter.unusedVariables false
namespace Go.Proofs.Ytcmkgjaclhpafaa

/-- Entries: their terms. -/
def RsE (w : AW) (v : AV) (ts : List Int) : Prop := ∃ cs, Rs w 2 ts.length v cs ∧ ∀ i, i < ts.length → cs[i * 2 + 0]? = some (.int .i64 (ts.getD i 0))
theorem RsE.len {w : AW} {v : AV} {ts : List Int} (h : RsE w v ts) : lenS v = some (.int .i64 ts.length) := by obtain ⟨cs, h, _⟩ := h; exact h.len
theorem RsE.fr {w w' : AW} {v : AV} {ts : List Int} (h : RsE w v ts) (hm : Mem w) {k : Nat} (hf : Fr k w w') (hk : w.size ≤ k) : RsE w' v ts := by obtain ⟨cs, h, h2⟩ := h; exact ⟨cs, h.fr hm hf hk, h2⟩
theorem RsE.at {w : AW} {v : AV} {ts : List Int} (h : RsE w v ts) {i : Nat} (hi : i < ts.length) {K : Nat → Nat → Prop} (hK : ∀ b o, ld w b (o + 0) = some (.int .i64 (ts.getD i 0)) → K b o) : atP (idxS 2 v (.int .i64 (i : Int))) K := by
  obtain ⟨cs, h, h2⟩ := h
  exact h.at (by omega) (by omega) fun b o hf _ => hK b o (by rw [hf 0 (by decide)]; exact h2 i hi)

/-- The term at an index. -/
def termAt (base bt : Int) (ts : List Int) (n : Int) : Int × Bool :=
  if n = base then (bt, true) else if n < base ∨ base + ts.length < n then (0, false) else (ts.getD (n - base - 1).toNat 0, true)

theorem s21 {hk : Hook} {w : AW} {base : Int} {v : AV} {ts : List Int} {K : AV → AW → Prop} (hh : HK hk) (hl : RsE w v ts) (hb : 0 ≤ base) (hb2 : base < 2 ^ 41) (hs : ts.length < 2 ^ 40) (hK : K (.int .i64 (base + ts.length)) w) : Cl Try.prog hk 21 [.int .i64 base, v] w K := by
  apply in21 (hh.no _ _ _ (by decide) (by decide))
  refine ⟨_, hl.len, ?_⟩
  rw [wi_eq (by omega) (by omega)]; exact hK

theorem s22 {hk : Hook} {w : AW} {base bt n : Int} {v : AV} {ts : List Int} {K : AV → AW → Prop} (hh : HK hk) (hl : RsE w v ts) (hb : 0 ≤ base) (hb2 : base < 2 ^ 41) (hs : ts.length < 2 ^ 40)
    (hK : K (.tup [.int .i64 (termAt base bt ts n).1, .bool (termAt base bt ts n).2]) w) : Cl Try.prog hk 22 [.int .i64 base, .int .i64 bt, v, .int .i64 n] w K := by
  apply in22 (hh.no _ _ _ (by decide) (by decide))
  unfold F22
  unfold termAt at hK
  refine ifT_d (fun h => by rwa [if_pos h] at hK) fun h => ifT_d (fun h2 => ?_) fun h2 => ?_
  · rw [if_neg h, if_pos (.inl h2)] at hK; exact hK
  · refine s21 hh hl hb hb2 hs ⟨_, rfl, ifT_d (fun h3 => ?_) fun h3 => ?_⟩
    · rw [if_neg h, if_pos (.inr h3)] at hK; exact hK
    · rw [if_neg h, if_neg (by omega)] at hK
      unfold be
      obtain ⟨j, hj⟩ := Int.eq_ofNat_of_zero_le (show 0 ≤ n - base - 1 by omega)
      have e : wi (wi (n - base) - 1) = (j : Int) := by rw [wi_eq (x := n - base) (by omega) (by omega), wi_eq (by omega) (by omega), hj]
      rw [e]
      rw [hj] at hK
      refine hl.at (by omega) fun b o hld => ⟨_, hld, hK⟩

theorem s24 {hk : Hook} {w : AW} {base bt n : Int} {v : AV} {ts : List Int} {K : AV → AW → Prop} (hh : HK hk) (hl : RsE w v ts) (hb : 0 ≤ base) (hb2 : base < 2 ^ 41) (hs : ts.length < 2 ^ 40)
    (hK : K (.tup [.int .i64 (termAt base bt ts n).1, .bool (termAt base bt ts n).2]) w) : Cl Try.prog hk 24 [.int .i64 base, .int .i64 bt, v, .int .i64 n] w K := by
  apply in24 (hh.no _ _ _ (by decide) (by decide))
  unfold F24
  unfold termAt at hK
  refine ifT_d (fun h => by rwa [if_pos h] at hK) fun h => ?_
  rw [if_neg h] at hK
  refine loopP_ind (fun m lv w' => w' = w ∧ ∃ i : Nat, i ≤ ts.length ∧ m = ts.length - i ∧ lv = [.int .i64 i] ∧ (n ≤ base ∨ base + i < n)) ?_ ⟨rfl, 0, Nat.zero_le _, rfl, rfl, by omega⟩
  rintro m lv w' ⟨rfl, i, hi, rfl, rfl, hno⟩ R ih
  refine ⟨_, rfl, fun _ => ⟨_, hl.len, ifT_d (fun h1 => ?_) fun h1 => ?_⟩⟩
  · have h1 : i < ts.length := by omega
    have e : wi (wi (base + 1) + (i : Int)) = base + 1 + i := by rw [wi_eq (x := base + 1) (by omega) (by omega), wi_eq (by omega) (by omega)]
    rw [e]
    refine ifT_d (fun h2 => ?_) fun h2 => ?_
    · rw [if_neg (by omega), show (n - base - 1).toNat = i by omega] at hK
      exact hl.at h1 fun b o hld => ⟨_, hld, hK⟩
    · exact ih (ts.length - (i + 1)) (by omega) _ _ ⟨rfl, i + 1, h1, rfl, by rw [wi_eq (by omega) (by omega)]; rfl, by omega⟩
  · rw [if_pos (by omega)] at hK; exact hK

/-- What is settled then. -/
def SetS (commit term base bt : Int) (ts : List Int) (r n : Int) : Prop := commit < n ∧ n ≤ r ∧ base ≤ n ∧ n ≤ base + ts.length ∧ (termAt base bt ts n).1 = term
def IsAdv (commit term base bt : Int) (ts : List Int) (r x : Int) : Prop := (x = commit ∧ ∀ n, ¬ SetS commit term base bt ts r n) ∨ (SetS commit term base bt ts r x ∧ ∀ n, SetS commit term base bt ts r n → n ≤ x)
theorem IsAdv.uniq {commit term base bt : Int} {ts : List Int} {r x y : Int} (h : IsAdv commit term base bt ts r x) (h' : IsAdv commit term base bt ts r y) : x = y := by
  rcases h with ⟨rfl, h⟩ | ⟨h1, h2⟩
  · rcases h' with ⟨rfl, _⟩ | ⟨h1, _⟩
    · rfl
    · exact absurd h1 (h _)
  · rcases h' with ⟨_, h⟩ | ⟨g1, g2⟩
    · exact absurd h1 (h _)
    · have := h2 _ g1; have := g2 _ h1; omega
theorem termAt_ok {base bt : Int} {ts : List Int} {n : Int} : (termAt base bt ts n).2 = true ↔ (base ≤ n ∧ n ≤ base + ts.length) := by
  unfold termAt
  by_cases h : n = base
  · rw [if_pos h]; simp; omega
  · rw [if_neg h]
    by_cases h2 : n < base ∨ base + ts.length < n
    · rw [if_pos h2]; simp; omega
    · rw [if_neg h2]; simp; omega

theorem s8 {hk : Hook} {w : AW} {commit term base bt : Int} {v vm : AV} {ts l : List Int} {K : AV → AW → Prop} (hh : HK hk) (hm : Mem w) (hl : RsE w v ts) (hlm : RsI w vm l) (hb : 0 ≤ base) (hb2 : base < 2 ^ 41) (hs : ts.length < 2 ^ 40) (hs2 : l.length < 2 ^ 40)
    (hc1 : -9223372036854775808 ≤ commit) (hr : ∀ x ∈ l, -9223372036854775808 ≤ x ∧ x < 9223372036854775808)
    (hK : ∀ r x w', IsRule l r → IsAdv commit term base bt ts r x → Fr w.size w w' → K (.int .i64 x) w') : Cl Try.prog hk 8 [.int .i64 commit, .int .i64 term, .int .i64 base, .int .i64 bt, v, vm] w K := by
  apply in8 (hh.no _ _ _ (by decide) (by decide))
  unfold F8
  refine s7 hh hm hlm hs2 fun r w1 hrule f1 => ⟨_, rfl, s21 hh (hl.fr hm f1 (Nat.le_refl _)) hb hb2 hs ⟨_, rfl, ?_⟩⟩
  have hl1 := hl.fr hm f1 (Nat.le_refl _)
  have hrr : -9223372036854775808 ≤ r ∧ r < 9223372036854775808 := by
    rcases hrule with ⟨_, rfl⟩ | ⟨h, _⟩
    · omega
    · exact hr r h
  refine loopP_ind (fun m lv w' => w' = w1 ∧ ∃ n : Int, m = (n - base + 1).toNat ∧ lv = [.int .i64 n] ∧ n ≤ r ∧ n ≤ base + ts.length ∧ ∀ k, n < k → ¬ SetS commit term base bt ts r k) ?_
    (n := (imin r (base + ts.length) - base + 1).toNat) ⟨rfl, _, rfl, rfl, ?_, ?_, fun k hk hS => ?_⟩
  · rintro m lv w' ⟨rfl, n, rfl, rfl, hnr, hnl, hno⟩ R ih
    refine ⟨_, rfl, fun _ => ifT_d (fun h1 => ifT_d (fun h2 => ?_) fun h2 => ?_) fun h1 => ?_⟩
    · have hok := (termAt_ok (base := base) (bt := bt) (ts := ts) (n := n)).2 ⟨h2, hnl⟩
      have next : ¬ SetS commit term base bt ts r n → R [.int .i64 (wi (n - 1))] w' := fun hS => ih ((n - 1) - base + 1).toNat (by omega) _ _ ⟨rfl, n - 1, rfl, by rw [wi_eq (by omega) (by omega)], by omega, by omega, fun k hk => by
        by_cases e : k = n
        · subst e; exact hS
        · exact hno k (by omega)⟩
      refine s22 hh hl1 hb hb2 hs ⟨_, _, rfl, ?_⟩
      rw [hok]
      refine ifT_t (ifT_d (fun h3 => ?_) fun h3 => ?_)
      · exact hK r n _ hrule (.inr ⟨⟨h1, hnr, h2, hnl, h3⟩, fun k hk => by
          by_cases e : n < k
          · exact absurd hk (hno k e)
          · omega⟩) f1
      · exact next fun h => h3 h.2.2.2.2
    · refine hK r _ _ hrule (.inl ⟨rfl, fun k hk => ?_⟩) f1
      by_cases e : n < k
      · exact hno k e hk
      · exact absurd hk.2.2.1 (by omega)
    · refine hK r _ _ hrule (.inl ⟨rfl, fun k hk => ?_⟩) f1
      by_cases e : n < k
      · exact hno k e hk
      · exact absurd hk.1 (by omega)
  · unfold imin; split <;> omega
  · unfold imin; split <;> omega
  · unfold imin at hk
    have := hS.2.1
    have := hS.2.2.2.1
    split at hk <;> omega

/-- The document's rule. -/
theorem s13 {hk : Hook} {w : AW} {v : AV} {l : List Int} {K : AV → AW → Prop} (hh : HK hk) (hl : RsI w v l) (hs : l.length < 2 ^ 40) (hK : ∀ r, IsRule l r → K (.int .i64 r) w) : Cl Try.prog hk 13 [v] w K := by
  apply in13 (hh.no _ _ _ (by decide) (by decide))
  unfold F13
  let good (x : Int) : Prop := l.length < 2 * cnt x l
  refine loopP_ind (fun m lv w' => w' = w ∧ ∃ (i : Nat) (out : Int) (any : Bool), i ≤ l.length ∧ m = l.length - i ∧ lv = [.int .i64 out, .bool any, .int .i64 i] ∧
    (any = true → out ∈ l ∧ good out) ∧ (any = false → out = 0) ∧ ∀ k (hk : k < i) (hkl : k < l.length), good l[k] → any = true ∧ l[k] ≤ out) ?_ ⟨rfl, 0, 0, false, Nat.zero_le _, rfl, rfl, by simp, fun _ => rfl, fun k hk => absurd hk (Nat.not_lt_zero _)⟩
  rintro m lv w' ⟨rfl, i, out, any, hi, rfl, rfl, ha, ha2, hk⟩ R ih
  refine ⟨_, _, _, rfl, fun _ => ⟨_, hl.len, ifT_d (fun h => ?_) fun h => ?_⟩⟩
  · have h : i < l.length := by omega
    refine loopP_ind (fun m lv w2 => w2 = w' ∧ ∃ j : Nat, j ≤ l.length ∧ m = l.length - j ∧ lv = [.int .i64 (cnt l[i] (l.take j)), .int .i64 j]) ?_ ⟨rfl, 0, Nat.zero_le _, rfl, rfl⟩
    rintro m lv w2 ⟨rfl, j, hj, rfl, rfl⟩ R2 ih2
    have hc := cnt_le l[i] (l.take j)
    simp at hc
    refine ⟨_, _, rfl, fun _ => ⟨_, hl.len, ifT_d (fun h2 => ?_) fun h2 => ?_⟩⟩
    · have h2 : j < l.length := by omega
      have hstep := cnt_snoc l[i] l[j] (l.take j)
      rw [← take_snoc h2] at hstep
      refine hl.atN h2 fun b o hld => ⟨_, hld, hl.atN h fun b2 o2 hld2 => ⟨_, hld2, ifT_d (fun h3 => ?_) fun h3 => ?_⟩⟩
      all_goals
        refine ih2 (l.length - (j + 1)) (by omega) _ _ ⟨rfl, j + 1, h2, rfl, ?_⟩
        rw [hstep]
        simp only [h3, if_true, if_false]
        simp
      · rw [wi_eq (by omega) (by omega), wi_eq (by omega) (by omega)]; exact ⟨rfl, rfl⟩
      · rw [wi_eq (by omega) (by omega)]
    · have : j = l.length := by omega
      subst this
      rw [List.take_length]
      -- on to the next
      have next : ∀ (out' : Int) (any' : Bool), (any' = true → out' ∈ l ∧ good out') → (any' = false → out' = 0) → (∀ k (hk : k < i + 1) (hkl : k < l.length), good l[k] → any' = true ∧ l[k] ≤ out') → R [.int .i64 out', .bool any', .int .i64 (wi ((i : Int) + 1))] w2 := fun out' any' g1 g2 g3 =>
        ih (l.length - (i + 1)) (by omega) _ _ ⟨rfl, i + 1, out', any', h, rfl, by rw [wi_eq (by omega) (by omega)]; rfl, g1, g2, g3⟩
      refine ⟨_, hl.len, s23 hh (by omega) ⟨_, rfl, ifT_d (fun h3 => ?_) fun h3 => ?_⟩⟩
      · cases any with
        | false =>
          refine ifT_t (hl.atN h fun b o hld => ⟨_, hld, next _ _ (fun _ => ⟨List.getElem_mem h, h3⟩) (by simp) fun k hk1 hk2 hg => ⟨rfl, ?_⟩⟩)
          by_cases e : k = i
          · subst e; exact Int.le_refl _
          · exact absurd (hk k (by omega) hk2 hg).1 (by simp)
        | true =>
          refine ifT_f (hl.atN h fun b o hld => ⟨_, hld, ifT_d (fun h4 => hl.atN h fun b2 o2 hld2 => ⟨_, hld2, ?_⟩) fun h4 => ?_⟩)
          · refine next _ _ (fun _ => ⟨List.getElem_mem h, h3⟩) (by simp) fun k hk1 hk2 hg => ⟨rfl, ?_⟩
            by_cases e : k = i
            · subst e; exact Int.le_refl _
            · have := (hk k (by omega) hk2 hg).2; omega
          · refine next _ _ ha ha2 fun k hk1 hk2 hg => ⟨rfl, ?_⟩
            by_cases e : k = i
            · subst e; omega
            · exact (hk k (by omega) hk2 hg).2
      · refine next _ _ ha ha2 fun k hk1 hk2 hg => ?_
        by_cases e : k = i
        · subst e; exact absurd hg h3
        · exact hk k (by omega) hk2 hg
  · have : i = l.length := by omega
    subst this
    refine hK _ ?_
    cases any with
    | true =>
      refine .inr ⟨(ha rfl).1, (ha rfl).2, fun x hx hg => ?_⟩
      obtain ⟨k, hk1, rfl⟩ := List.getElem_of_mem hx
      exact (hk k hk1 hk1 hg).2
    | false =>
      rw [ha2 rfl]
      refine rule_none (sorted_perm l) (sorted_desc l) fun k hk1 hg => ?_
      have hmem := (sorted_perm l).mem_iff.1 (List.getElem_mem hk1)
      obtain ⟨k2, hk2, e⟩ := List.getElem_of_mem hmem
      rw [← e] at hg
      exact absurd (hk k2 hk2 hk2 hg).1 (by simp)

/-- The document's advance. -/
theorem s14 {hk : Hook} {w : AW} {commit term base bt : Int} {v vm : AV} {ts l : List Int} {K : AV → AW → Prop} (hh : HK hk) (hl : RsE w v ts) (hlm : RsI w vm l) (hb : 0 ≤ base) (hb2 : base < 2 ^ 41) (hs : ts.length < 2 ^ 40) (hs2 : l.length < 2 ^ 40)
    {r : Int} (hr : IsRule l r) (hK : ∀ x, IsAdv commit term base bt ts r x → K (.int .i64 x) w) : Cl Try.prog hk 14 [.int .i64 commit, .int .i64 term, .int .i64 base, .int .i64 bt, v, vm] w K := by
  apply in14 (hh.no _ _ _ (by decide) (by decide))
  unfold F14
  refine loopP_ind (fun m lv w' => w' = w ∧ ∃ (i : Nat) (out : Int), i ≤ ts.length + 1 ∧ m = ts.length + 1 - i ∧ lv = [.int .i64 out, .int .i64 (base + i)] ∧
    ((out = commit ∧ ∀ n, n < base + i → ¬ SetS commit term base bt ts r n) ∨ (SetS commit term base bt ts r out ∧ ∀ n, n < base + i → SetS commit term base bt ts r n → n ≤ out))) ?_
    ⟨rfl, 0, commit, Nat.zero_le _, rfl, by simp, .inl ⟨rfl, fun n hn hS => absurd hS.2.2.1 (by omega)⟩⟩
  rintro m lv w' ⟨rfl, i, out, hi, rfl, rfl, hinv⟩ R ih
  refine ⟨_, _, rfl, fun _ => ⟨_, hl.len, ?_⟩⟩
  rw [wi_eq (x := base + (ts.length : Int)) (by omega) (by omega)]
  refine ifT_d (fun h => ?_) fun h => ?_
  · have hok := (termAt_ok (base := base) (bt := bt) (ts := ts) (n := base + i)).2 ⟨by omega, h⟩
    have skip : ¬ SetS commit term base bt ts r (base + i) → R [.int .i64 out, .int .i64 (wi (base + i + 1))] w' := fun hS => by
      refine ih (ts.length + 1 - (i + 1)) (by omega) _ _ ⟨rfl, i + 1, out, by omega, rfl, by rw [wi_eq (by omega) (by omega)]; congr 3; omega, ?_⟩
      rcases hinv with ⟨h1, h2⟩ | ⟨h1, h2⟩
      · refine .inl ⟨h1, fun n hn => ?_⟩
        by_cases e : n = base + i
        · rw [e]; exact hS
        · exact h2 n (by omega)
      · refine .inr ⟨h1, fun n hn hn2 => ?_⟩
        by_cases e : n = base + i
        · rw [e] at hn2; exact absurd hn2 hS
        · exact h2 n (by omega) hn2
    refine s24 hh hl hb hb2 hs ⟨_, _, rfl, ?_⟩
    rw [hok]
    refine ifT_t (ifT_d (fun h1 => s13 hh hlm hs2 fun r' hr' => ⟨_, rfl, ?_⟩) fun h1 => skip fun hS => h1 hS.1)
    have e : r' = r := hr'.uniq hr
    subst e
    refine ifT_d (fun h2 => ifT_d (fun h3 => ?_) fun h3 => skip fun hS => h3 hS.2.2.2.2) fun h2 => skip fun hS => h2 hS.2.1
    have hS : SetS commit term base bt ts r' (base + i) := ⟨h1, h2, by omega, h, h3⟩
    refine ih (ts.length + 1 - (i + 1)) (by omega) _ _ ⟨rfl, i + 1, base + i, by omega, rfl, by rw [wi_eq (by omega) (by omega)]; congr 3; omega, .inr ⟨hS, fun n hn _ => by omega⟩⟩
  · refine hK _ ?_
    rcases hinv with ⟨h1, h2⟩ | ⟨h1, h2⟩
    · exact .inl ⟨h1, fun n hS => h2 n (by have := hS.2.2.2.1; omega) hS⟩
    · exact .inr ⟨h1, fun n hS => h2 n (by have := hS.2.2.2.1; omega) hS⟩

theorem s15 {hk : Hook} {w : AW} {v v' : AV} {l : List Int} {K : AV → AW → Prop} (hh : HK hk) (hl : RsI w v l) (hl' : RsI w v' l) (hs : l.length < 2 ^ 40) (hK : K (.bool true) w) : Cl Try.prog hk 15 [v, v'] w K := by
  apply in15 (hh.no _ _ _ (by decide) (by decide))
  unfold F15
  refine ⟨_, hl.len, _, hl'.len, ifT_nd (fun h => absurd rfl h) fun _ => ?_⟩
  refine loopP_ind (fun m lv w' => w' = w ∧ ∃ i : Nat, i ≤ l.length ∧ m = l.length - i ∧ lv = [.int .i64 i]) ?_ ⟨rfl, 0, Nat.zero_le _, rfl, rfl⟩
  rintro m lv w' ⟨rfl, i, hi, rfl, rfl⟩ R ih
  refine ⟨_, rfl, fun _ => ⟨_, hl.len, ifT_d (fun h => ?_) fun h => hK⟩⟩
  have h : i < l.length := by omega
  exact hl.atN h fun b o hld => ⟨_, hld, hl'.atN h fun b2 o2 hld2 => ⟨_, hld2, ifT_nd (fun h => absurd rfl h) fun _ => ih (l.length - (i + 1)) (by omega) _ _ ⟨rfl, i + 1, h, rfl, by rw [wi_eq (by omega) (by omega)]; rfl⟩⟩⟩

theorem s12 {hk : Hook} {w : AW} {v : AV} {l : List Int} {K : AV → AW → Prop} (hh : HK hk) (hm : Mem w) (hw : 0 < w.size) (hl : RsI w v l) (hs : l.length < 2 ^ 40) (hK : ∀ v' w', Fr w.size w w' → RsI w' v' l → K v' w') : Cl Try.prog hk 12 [v] w K := by
  apply in12 (hh.no _ _ _ (by decide) (by decide))
  unfold F12
  refine Acc.app (n0 := w.size) Acc.nil hm (Nat.le_refl _) hw (by decide) hl (by simp; omega) (by simp; omega) fun a' w' hacc hgrow => ?_
  rw [List.nil_append] at hacc
  exact hK _ _ hgrow.fr hacc.rsI

/-- CommitTells. -/
theorem s4 {hk : Hook} {w : AW} {now term base bt : Int} {v vm : AV} {ts l : List Int} (hh : HK hk) (hm : Mem w) (hw : 0 < w.size) (hl : RsE w v ts) (hlm : RsI w vm l) (hc1 : -9223372036854775808 ≤ now) (hr : ∀ x ∈ l, -9223372036854775808 ≤ x ∧ x < 9223372036854775808) :
    Cl Try.prog hk 4 [.int .i64 now, .int .i64 term, .int .i64 base, .int .i64 bt, v, vm] w fun r _ => r = .bool true := by
  apply in4 (hh.no _ _ _ (by decide) (by decide))
  unfold F4
  refine ⟨_, hl.len, ifT_d (fun _ => Cl_hook (hh.awake _) ⟨_, rfl, rfl⟩) fun h1 => ⟨_, hlm.len, ifT_d (fun _ => Cl_hook (hh.awake _) ⟨_, rfl, rfl⟩) fun h2 => ?_⟩⟩
  refine s11 (hh.no _ _ _ (by decide) (by decide)) (by decide) ⟨_, rfl, ?_⟩
  have hp := pick_range (x := base) (n := 1099511627776) (by decide)
  show Cl Try.prog hk 12 [vm] w _
  refine s12 hh hm hw hlm (by omega) fun v' w1 f1 hl1 => ?_
  have hlm1 := hlm.fr hm f1 (Nat.le_refl _)
  have hle1 := hl.fr hm f1 (Nat.le_refl _)
  refine s7 hh f1.mem hl1 (by omega) fun r w2 hr1 f2 => ⟨_, rfl, ?_⟩
  have hl2 := hl1.fr f1.mem f2 (Nat.le_refl _)
  have hlm2 := hlm1.fr f1.mem f2 (Nat.le_refl _)
  have hle2 := hle1.fr f1.mem f2 (Nat.le_refl _)
  refine s13 hh hlm2 (by omega) fun r2 hr2 => ⟨_, rfl, ifT_d (fun _ => ?_) fun h => absurd (hr1.uniq hr2) h⟩
  refine s8 hh f2.mem hle2 hl2 hp.1 (by unfold pick at hp; omega) (by omega) (by omega) hc1 hr fun r3 x w3 hr3 hx f3 => ⟨_, rfl, ?_⟩
  have hl3 := hl2.fr f2.mem f3 (Nat.le_refl _)
  have hlm3 := hlm2.fr f2.mem f3 (Nat.le_refl _)
  have hle3 := hle2.fr f2.mem f3 (Nat.le_refl _)
  refine s14 hh hle3 hlm3 hp.1 (by unfold pick at hp; omega) (by omega) (by omega) hr3 fun y hy => ⟨_, rfl, ifT_d (fun _ => ?_) fun h => absurd (hx.uniq hy) h⟩
  exact s15 hh hl3 hlm3 (by omega) ⟨_, rfl, ifT_t (Cl_hook (hh.awake _) ⟨_, rfl, rfl⟩)⟩
end Go.Proofs.Ytcmkgjaclhpafaa
