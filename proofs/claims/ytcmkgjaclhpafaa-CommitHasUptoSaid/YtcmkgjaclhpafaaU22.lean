/-
  What the functions of this chapter do.
  No condition beyond those that each theorem names.
-/
import Derived.Test.YtcmkgjaclhpafaaS22
open Go.Sx
set_option linter.unusedVariables false
namespace Go.Proofs.Ytcmkgjaclhpafaa

/-- What a majority has, the greatest. -/
def IsRule (l : List Int) (r : Int) : Prop := (l = [] ∧ r = 0) ∨ (r ∈ l ∧ l.length < 2 * cnt r l ∧ ∀ x ∈ l, l.length < 2 * cnt x l → x ≤ r)
theorem IsRule.uniq {l : List Int} {r r' : Int} (h : IsRule l r) (h' : IsRule l r') : r = r' := by
  rcases h with ⟨rfl, rfl⟩ | ⟨h1, h2, h3⟩
  · rcases h' with ⟨_, rfl⟩ | ⟨h1, _⟩
    · rfl
    · simp at h1
  · rcases h' with ⟨rfl, rfl⟩ | ⟨g1, g2, g3⟩
    · simp at h1
    · have a := h3 _ g1 g2
      have b := g3 _ h1 h2
      omega
theorem cnt_perm (n : Int) {l l' : List Int} (h : l.Perm l') : cnt n l = cnt n l' := (h.filter _).length_eq
theorem IsRule.perm {l l' : List Int} {r : Int} (h : IsRule l r) (hp : l.Perm l') : IsRule l' r := by
  rcases h with ⟨rfl, rfl⟩ | ⟨h1, h2, h3⟩
  · exact .inl ⟨hp.nil_eq.symm, rfl⟩
  · exact .inr ⟨hp.mem_iff.1 h1, by rw [← hp.length_eq, ← cnt_perm r hp]; exact h2, fun x hx h => h3 x (hp.mem_iff.2 hx) (by rw [hp.length_eq, cnt_perm x hp]; exact h)⟩

theorem s20 {hk : Hook} {w : AW} {k n : Nat} {K : AV → AW → Prop} (hh : HK hk) (hkn : k ≤ n) (hs : n < 2 ^ 62) (hK : K (.bool (decide (n < 2 * k))) w) : Cl Try.prog hk 20 [.int .i64 k, .int .i64 n] w K := by
  apply in20 (hh.no _ _ _ (by decide) (by decide))
  unfold F20
  rw [wi_eq (by omega) (by omega)]
  have : decide (((n : Int) - k) < k) = decide (n < 2 * k) := by rw [decide_eq_decide]; omega
  rw [this]; exact hK
theorem s23 {hk : Hook} {w : AW} {k n : Nat} {K : AV → AW → Prop} (hh : HK hk) (hs : n < 2 ^ 62) (hK : K (.bool (decide (n < 2 * k))) w) : Cl Try.prog hk 23 [.int .i64 k, .int .i64 n] w K := by
  apply in23 (hh.no _ _ _ (by decide) (by decide))
  unfold F23
  have h1 : Int.tdiv (n : Int) 2 = (n / 2 : Nat) := by rw [Int.tdiv_eq_ediv_of_nonneg (by omega)]; rfl
  rw [h1, wi_eq (by omega) (by omega)]
  have : decide (((n / 2 : Nat) : Int) < (k : Int)) = decide (n < 2 * k) := by rw [decide_eq_decide]; omega
  rw [this]; exact hK

theorem sorted_desc (l : List Int) : (sortI l).reverse.Pairwise fun a b => b ≤ a := by
  have h := List.pairwise_mergeSort (le := fun x y : Int => decide (x ≤ y)) (fun a b c h1 h2 => by simp at *; omega) (fun a b => by simp; omega) l
  rw [List.pairwise_reverse]
  exact h.imp fun h => by simpa using h
theorem sorted_perm (l : List Int) : (sortI l).reverse.Perm l := (List.reverse_perm _).trans (List.mergeSort_perm l _)

theorem rule_found {l sd : List Int} (hp : sd.Perm l) (hd : sd.Pairwise fun a b => b ≤ a) {i : Nat} (hi : i < sd.length) (hno : ∀ k (hk : k < i), ¬ l.length < 2 * cnt (sd[k]'(by omega)) l) (hy : l.length < 2 * cnt sd[i] l) : IsRule l sd[i] := by
  refine .inr ⟨hp.mem_iff.1 (List.getElem_mem hi), hy, fun x hx h => ?_⟩
  obtain ⟨k, hk, rfl⟩ := List.getElem_of_mem (hp.mem_iff.2 hx)
  by_cases hki : k < i
  · exact absurd h (hno k hki)
  · by_cases e : k = i
    · subst e; exact Int.le_refl _
    · exact List.pairwise_iff_getElem.1 hd i k hi hk (by omega)
theorem rule_none {l sd : List Int} (hp : sd.Perm l) (hd : sd.Pairwise fun a b => b ≤ a) (hno : ∀ k (hk : k < sd.length), ¬ l.length < 2 * cnt sd[k] l) : IsRule l 0 := by
  by_cases hl : l = []
  · exact .inl ⟨hl, rfl⟩
  · exfalso
    have hpos : 0 < sd.length := by rw [hp.length_eq]; exact List.length_pos_iff.2 hl
    have h := hno (sd.length - 1) (by omega)
    apply h
    have : cnt sd[sd.length - 1] l = l.length := by
      rw [← cnt_perm _ hp, ← hp.length_eq]
      unfold cnt
      rw [List.filter_eq_self.2]
      intro x hx
      obtain ⟨k, hk, rfl⟩ := List.getElem_of_mem hx
      by_cases e : k = sd.length - 1
      · subst e; simp
      · simpa using List.pairwise_iff_getElem.1 hd k (sd.length - 1) hk (by omega) (by omega)
    rw [this]
    have := hp.length_eq
    omega

theorem s7 {hk : Hook} {w : AW} {v : AV} {l : List Int} {K : AV → AW → Prop} (hh : HK hk) (hm : Mem w) (hl : RsI w v l) (hs : l.length < 2 ^ 40)
    (hK : ∀ r w', IsRule l r → Fr w.size w w' → K (.int .i64 r) w') : Cl Try.prog hk 7 [v] w K := by
  apply in7 (hh.no _ _ _ (by decide) (by decide))
  unfold F7
  refine gd_t hl.ok (new_of hm fun w2 f2 b2 z2 => onM_s (v := v) (by rw [b2.ld]; rfl) ?_)
  have hl2 := hl.fr hm f2 (Nat.le_refl _)
  refine s18 hh f2.mem hl2.ok fun w5 f5 b5 z5 => ?_
  have hl5 := hl2.fr f2.mem f5 (Nat.le_refl _)
  refine s17 hh f5.mem b5 hl5 hs fun r w7 f7 o7 => ?_
  refine s19 hh f7.mem o7 (by rw [sortI_length]; exact hs) fun w9 f9 o9 => ⟨rfl, ?_⟩
  have hlen : lenS r = some (.int .i64 (sortI l).reverse.length) := by have := (o9.rs (by decide)).len; simpa using this
  refine ⟨_, hlen, ?_⟩
  have hsd : RsI w9 r (sortI l).reverse := by have := o9.rs (by decide); unfold RsI; simpa using this
  have hp := sorted_perm l
  have hd := sorted_desc l
  have f79 : Fr w5.size w5 w9 := f7.trans f9 (Nat.le_refl _)
  have fall : Fr w.size w w9 := (f2.trans f5 (by omega)).trans f79 (by omega)
  have bx : Box w9 w.size [v] := (b2.fr f5 (by omega)).fr f79 (by omega)
  have hlv : RsI w9 v l := hl5.fr f5.mem f79 (Nat.le_refl _)
  generalize (sortI l).reverse = sd at *
  have hsdl : sd.length = l.length := hp.length_eq
  refine loopP_ind (fun m lv w' => w' = w9 ∧ ∃ i : Nat, i ≤ sd.length ∧ m = sd.length - i ∧ lv = [.int .i64 i] ∧ ∀ k (hk : k < i) (hks : k < sd.length), ¬ l.length < 2 * cnt sd[k] l) ?_ ⟨rfl, 0, Nat.zero_le _, rfl, rfl, fun k hk => absurd hk (Nat.not_lt_zero _)⟩
  rintro m lv w' ⟨rfl, i, hi, rfl, rfl, hno⟩ R ih
  refine ⟨_, rfl, fun _ => ifT_d (fun h => ?_) fun h => ?_⟩
  · have h : i < sd.length := by omega
    refine hsd.atN h fun b o hld => ⟨_, hld, onM_s (v := v) (by rw [bx.ld]; rfl) ⟨_, hlv.len, ?_⟩⟩
    refine s16 (hh.no _ _ _ (by decide) (by decide)) bx hlv (by omega) ⟨_, rfl, by rw [bx.ld]; rfl, ?_⟩
    refine s20 hh (cnt_le _ _) (by omega) ⟨_, rfl, ifT_d (fun hy => ?_) fun hy => ?_⟩
    · exact hK _ _ (rule_found hp hd h (fun k hk => hno k hk (by omega)) hy) fall
    · refine ih (sd.length - (i + 1)) (by omega) _ _ ⟨rfl, i + 1, h, rfl, by rw [wi_eq (by omega) (by omega)]; rfl, fun k hk hks => ?_⟩
      by_cases e : k = i
      · subst e; exact hy
      · exact hno k (by omega) hks
  · exact hK _ _ (rule_none hp hd fun k hk => hno k (by omega) hk) fall
end Go.Proofs.Ytcmkgjaclhpafaa
