/-
  What the functions of this chapter do.
  No condition beyond those that each theorem names.
-/
import Derived.Test.YtcmkgjaclhpafaaV22
import Derived.Test.YtcmkgjaclhpafaaSxp
import Derived.Test.YtcmkgjaclhpafaaSxo
open Go.Sx
set_option linter.unusedVariables false
namespace Go.Proofs.Ytcmkgjaclhpafaa

def cnt (n : Int) (l : List Int) : Nat := (l.filter fun m => decide (n ≤ m)).length
theorem cnt_snoc (n m : Int) (l : List Int) : cnt n (l ++ [m]) = cnt n l + if n ≤ m then 1 else 0 := by
  unfold cnt; rw [List.filter_append]; by_cases h : n ≤ m <;> simp [h]
theorem cnt_le (n : Int) (l : List Int) : cnt n l ≤ l.length := List.length_filter_le _ _
theorem take_snoc {α : Type} {l : List α} {i : Nat} (h : i < l.length) : l.take (i + 1) = l.take i ++ [l[i]] := by rw [List.take_append_getElem h]

theorem s16 {hk : Hook} {w : AW} {n : Int} {b : Nat} {v : AV} {l : List Int} {K : AV → AW → Prop} (hn : hk 16 [.int .i64 n, .ptr b 0] w = none) (hb : Box w b [v]) (hl : RsI w v l) (hs : l.length < 2 ^ 62)
    (hK : K (.int .i64 (cnt n l)) w) : Cl Try.prog hk 16 [.int .i64 n, .ptr b 0] w K := by
  apply in16 hn
  unfold F16
  refine onM_s (v := v) (by simp [hb.ld]) ⟨_, hl.len, ?_⟩
  refine loopP_ind (fun m lv w' => w' = w ∧ ∃ i : Nat, i ≤ l.length ∧ m = l.length - i ∧ lv = [.int .i64 (cnt n (l.take i)), .int .i64 i]) ?_ ⟨rfl, 0, Nat.zero_le _, rfl, rfl⟩
  rintro m lv w' ⟨rfl, i, hi, rfl, rfl⟩ R ih
  have hc := cnt_le n (l.take i)
  simp at hc
  refine ⟨_, _, rfl, fun _ => ifT_d (fun h => ?_) fun h => ?_⟩
  · have h : i < l.length := by omega
    have hstep := cnt_snoc n l[i] (l.take i)
    rw [← take_snoc h] at hstep
    refine hl.atN h fun b o hld => ⟨_, hld, ifT_d (fun h2 => ?_) fun h2 => ?_⟩
    all_goals
      refine ih (l.length - (i + 1)) (by omega) _ _ ⟨rfl, i + 1, h, rfl, ?_⟩
      rw [hstep]
      simp only [h2, if_true, if_false]
      simp
    · rw [wi_eq (by omega) (by omega), wi_eq (by omega) (by omega)]; exact ⟨rfl, rfl⟩
    · rw [wi_eq (by omega) (by omega)]
  · have : i = l.length := by omega
    subst this
    rw [List.take_length]
    exact hK

theorem s11 {hk : Hook} {w : AW} {x n : Int} {K : AV → AW → Prop} (hn : hk 11 [.int .i64 x, .int .i64 n] w = none) (hp : n < 2 ^ 62)
    (hK : K (.int .i64 (if n ≤ 0 then 0 else x % n)) w) : Cl Try.prog hk 11 [.int .i64 x, .int .i64 n] w K := by
  apply in11 hn
  unfold F11
  refine ifT_d (fun h => by rwa [if_pos h] at hK) fun h => ?_
  rw [if_neg h] at hK
  have ht := Int.tmod_eq_emod (a := x) (b := n)
  have h1 := Int.emod_nonneg x (show n ≠ 0 by omega)
  have h2 := Int.emod_lt_of_pos x (show 0 < n by omega)
  refine ⟨x.tmod n, by simp only [arith]; rw [if_neg (by omega)], ifT_d (fun h2 => ?_) fun h2 => ?_⟩
  · have : wi (x.tmod n + n) = x % n := by
      rw [ht] at h2 ⊢
      split at h2
      · omega
      · rw [if_neg (by assumption)]
        have : (n.natAbs : Int) = n := by omega
        rw [this, wi_eq (by omega) (by omega)]; omega
    rw [this]; exact hK
  · have : x.tmod n = x % n := by
      rw [ht] at h2 ⊢
      split at h2
      · rw [if_pos (by assumption)]; omega
      · omega
    rw [this]; exact hK

/-- What is hooked, and what not. -/
structure HK (hk : Hook) : Prop where
  no : ∀ f a w, f ≠ 10 → f ≠ 26 → hk f a w = none
  sort : ∀ a w x, hookSort w a = some x → hk 26 a w = some (some x)
  awake : ∀ w, hk 10 [] w = some (some (.bool true, w))

theorem s18 {hk : Hook} {w : AW} {v : AV} {K : AV → AW → Prop} (hh : HK hk) (hm : Mem w) (hv : okCell v = true)
    (hK : ∀ w', Fr w.size w w' → Box w' w.size [v] → w'.size = w.size + 1 → K (.func 27 [] [.ptr w.size 0]) w') : Cl Try.prog hk 18 [v] w K :=
  in18 (hh.no _ _ _ (by decide) (by decide)) (gd_t hv (new_of hm fun w' h1 h2 h3 => hK w' h1 h2 h3))

theorem read_own {n0 : Nat} {w : AW} {b n cap : Nat} {ex : Option Nat} {cs : List AV} (h : Own n0 w 1 (.slice b 0 n cap ex) cs) : w.read b 0 n = some cs := by
  rcases h with ⟨h, _⟩ | ⟨b', n', cap', ex', f, o, d, dd, h0, h1, h2, h3, h4, h5⟩
  · cases h
  cases h0
  have hcells : w.cells? b = some cs := AW.cells?_iff.2 ⟨(f, b, dd), o, d, AW.fam?_iff.2 ⟨cs, o, d, h4, h5⟩, .inr rfl, h4⟩
  unfold AW.read
  rw [hcells]
  simp only []
  have hn : n = cs.length := by simpa using h1
  rw [takeCells_some (by omega), List.drop_zero, hn, List.take_length]

theorem s17 {hk : Hook} {w : AW} {b : Nat} {v : AV} {l : List Int} {K : AV → AW → Prop} (hh : HK hk) (hm : Mem w) (hb : Box w b [v]) (hl : RsI w v l) (hs : l.length < 2 ^ 40)
    (hK : ∀ v' w', Fr w.size w w' → Own w.size w' 1 v' ((sortI l).map (AV.int .i64)) → K v' w') : Cl Try.prog hk 17 [.func 27 [] [.ptr b 0]] w K := by
  refine in17 (hh.no _ _ _ (by decide) (by decide)) (in25 (hh.no _ _ _ (by decide) (by decide)) (s28 (hh.no _ _ _ (by decide) (by decide)) (fun _ _ => hh.no _ _ _ (by decide) (by decide)) hm hb hl hs fun v' w1 hf ha => ?_))
  have hm1 := hf.mem
  have ho := ha.own
  rcases ha with ⟨rfl, hnil⟩ | ⟨b', f, n, o, d, rfl, h1, h2, h3, h4, h5, h6⟩
  · have : l = [] := by simpa using hnil
    subst this
    exact Cl_hook (hh.sort _ _ _ rfl) ⟨rfl, hK _ _ hf (.inl ⟨rfl, by simp [sortI]⟩)⟩
  · have hn : n = l.length := by simpa using h1
    obtain ⟨w2, hw, hf2, ho2, hsz⟩ := ho.put hm1 (i := 0) (vs := (sortI l).map (AV.int .i64)) (by simp [sortI_length])
    have hlp : listPut (l.map (AV.int .i64)) 0 ((sortI l).map (AV.int .i64)) = (sortI l).map (AV.int .i64) := by simp [listPut, sortI_length]
    rw [hlp] at ho2
    refine Cl_hook (hh.sort _ _ (Go.Sx.undef, w2) ?_) ⟨rfl, hK _ _ (hf.trans hf2 (Nat.le_refl _)) ho2⟩
    simp only [hookSort]
    rw [if_neg (by omega), read_own ho]
    simp only [Option.bind_some, intsOf_map]
    rw [if_pos (by omega), hw]
    rfl

/-- Pointwise: the first i and the last i have changed places. -/
def swapped (i : Nat) (l c : List Int) : Prop := c.length = l.length ∧ ∀ k, k < l.length → c.getD k 0 = if k < i ∨ l.length - i ≤ k then l.getD (l.length - 1 - k) 0 else l.getD k 0

theorem getD_map_int (l : List Int) (k : Nat) (h : k < l.length) : (l.map (AV.int .i64))[k]? = some (.int .i64 (l.getD k 0)) := by
  rw [List.getElem?_map, List.getElem?_eq_getElem h, List.getD_eq_getElem?_getD, List.getElem?_eq_getElem h]; rfl

theorem listPut_one (c : List Int) (i : Nat) (x : Int) (h : i < c.length) : listPut (c.map (AV.int .i64)) i [.int .i64 x] = (c.set i x).map (AV.int .i64) := by
  unfold listPut
  rw [List.set_eq_take_append_cons_drop, if_pos h]
  simp [List.map_take, List.map_drop]

theorem s19 {hk : Hook} {w : AW} {n0 : Nat} {v : AV} {l : List Int} {K : AV → AW → Prop} (hh : HK hk) (hm : Mem w) (hl : Own n0 w 1 v (l.map (AV.int .i64))) (hs : l.length < 2 ^ 40)
    (hK : ∀ w', Fr n0 w w' → Own n0 w' 1 v (l.reverse.map (AV.int .i64)) → K (.tup []) w') : Cl Try.prog hk 19 [v] w K := by
  apply in19 (hh.no _ _ _ (by decide) (by decide))
  unfold F19
  have hlen : lenS v = some (.int .i64 l.length) := by have := (hl.rs (by decide)).len; simpa using this
  refine ⟨_, hlen, ?_⟩
  refine loopP_ind (fun m lv w' => ∃ (i : Nat) (c : List Int), i ≤ l.length ∧ m = l.length - i ∧ lv = [.int .i64 i, .int .i64 ((l.length : Int) - 1 - i)] ∧ (2 * i ≤ l.length + 1) ∧ swapped i l c ∧ Fr n0 w w' ∧ Own n0 w' 1 v (c.map (AV.int .i64))) ?_
    ⟨0, l, Nat.zero_le _, rfl, by rw [wi_eq (by omega) (by omega)]; simp, by omega, ⟨rfl, fun k hk => by rw [if_neg (by omega)]⟩, Fr.refl hm, hl⟩
  rintro m lv w' ⟨i, c, hi, rfl, rfl, h2i, ⟨hcl, hc⟩, hf, ho⟩ R ih
  refine ⟨_, _, rfl, fun _ => ifT_d (fun h => ?_) fun h => ?_⟩
  · -- two items change places
    have hj : ((l.length : Int) - 1 - i) = ((l.length - 1 - i : Nat) : Int) := by omega
    rw [hj] at h ⊢
    have hij : i < l.length - 1 - i := by omega
    rcases ho with ⟨rfl, hnil⟩ | ⟨b, n, cap, ex, f, o, d, dd, rfl, h1, h2, h3, h4, h5⟩
    · have : c = [] := by simpa using hnil
      subst this; simp at hcl; omega
    have hn : n = l.length := by rw [Nat.mul_one, List.length_map] at h1; omega
    have ho : Own n0 w' 1 (.slice b 0 n cap ex) (c.map (AV.int .i64)) := .inr ⟨b, n, cap, ex, f, o, d, dd, rfl, h1, h2, h3, h4, h5⟩
    have hcells : w'.cells? b = some (c.map (AV.int .i64)) := AW.cells?_iff.2 ⟨(f, b, dd), o, d, AW.fam?_iff.2 ⟨_, o, d, h4, h5⟩, .inr rfl, h4⟩
    have rd : ∀ k, k < l.length → ld w' b (0 + k * 1) = some (.int .i64 (c.getD k 0)) := fun k hk => by
      unfold ld
      rw [hcells, Option.bind_some, Nat.zero_add, Nat.mul_one, getD_map_int _ _ (by omega)]
    have pl : ∀ k : Nat, k < l.length → idxS 1 (.slice b 0 n cap ex) (.int .i64 (k : Int)) = some (.ptr b (0 + k * 1)) := fun k hk => ho.at (by omega)
    rw [atP_iff]; refine ⟨_, _, pl _ (by omega), _, rd _ (by omega), ?_⟩
    rw [atP_iff]; refine ⟨_, _, pl _ (by omega), _, rd _ (by omega), ?_⟩
    rw [atP_iff]; refine ⟨_, _, pl _ (by omega), ?_⟩
    rw [Nat.zero_add, Nat.mul_one]
    obtain ⟨w1, hw1, hf1, ho1, hs1⟩ := ho.put hf.mem (i := i) (vs := [.int .i64 (c.getD (l.length - 1 - i) 0)]) (by simp; omega)
    refine onM_s hw1 ?_
    rw [listPut_one _ _ _ (by omega)] at ho1
    rw [atP_iff]; refine ⟨_, _, pl _ (by omega), ?_⟩
    rw [Nat.zero_add, Nat.mul_one]
    obtain ⟨w2, hw2, hf2, ho2, hs2⟩ := ho1.put hf1.mem (i := l.length - 1 - i) (vs := [.int .i64 (c.getD i 0)]) (by simp; omega)
    refine onM_s hw2 ?_
    rw [listPut_one _ _ _ (by simp; omega)] at ho2
    refine ih (l.length - (i + 1)) (by omega) _ _ ⟨i + 1, _, by omega, rfl, ?_, by omega, ⟨by simp [hcl], fun k hk => ?_⟩, (hf.trans hf1 (Nat.le_refl _)).trans hf2 (Nat.le_refl _), ho2⟩
    · rw [wi_eq (by omega) (by omega), wi_eq (by omega) (by omega)]
      congr 2
      congr 1
      omega
    · have hck := hc k hk
      have hci := hc i (by omega)
      have hcj := hc (l.length - 1 - i) (by omega)
      simp only [List.getD_eq_getElem?_getD] at *
      by_cases e1 : k = l.length - 1 - i
      · subst e1
        rw [List.getElem?_set_self (by simp; omega)]
        rw [if_pos (by omega)]
        simp only [Option.getD_some]
        rw [hci, if_neg (by omega)]
        congr 2; omega
      · rw [List.getElem?_set_ne (Ne.symm e1)]
        by_cases e2 : k = i
        · subst e2
          rw [List.getElem?_set_self (by omega), if_pos (by omega)]
          simp only [Option.getD_some]
          rw [hcj, if_neg (by omega)]
        · rw [List.getElem?_set_ne (Ne.symm e2), hck]
          by_cases e3 : k < i ∨ l.length - i ≤ k
          · rw [if_pos e3, if_pos (by omega)]
          · rw [if_neg e3, if_neg (by omega)]
  · have : c = l.reverse := by
      apply List.ext_getElem (by simp [hcl])
      intro k h1 h2
      have hck := hc k (by omega)
      have hk : k < l.length := by omega
      simp only [List.getD_eq_getElem?_getD, List.getElem?_eq_getElem h1, Option.getD_some] at hck
      rw [hck, List.getElem_reverse]
      by_cases e3 : k < i ∨ l.length - i ≤ k
      · rw [if_pos e3, List.getElem?_eq_getElem (by omega)]; rfl
      · rw [if_neg e3, List.getElem?_eq_getElem hk]
        simp only [Option.getD_some]
        congr 1; omega
    subst this
    exact hK w' hf ho
end Go.Proofs.Ytcmkgjaclhpafaa
