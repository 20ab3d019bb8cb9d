/-
  What the functions of this chapter do.
  No condition beyond those that each theorem names.
-/
import Derived.Test.YtcmkgjaclhpafaaU22
import Derived.Test.YtcmkgjaclhpafaaSxq
open Go.Sx
set_option linter.unusedVariables false
namespace Go.Proofs.Ytcmkgjaclhpafaa

theorem cnt_mono {x y : Int} (h : x ≤ y) (l : List Int) : cnt y l ≤ cnt x l := by
  unfold cnt
  induction l with
  | nil => simp
  | cons a l ih =>
    simp only [List.filter_cons]
    by_cases h1 : y ≤ a
    · have h2 : x ≤ a := by omega
      simp [h1, h2]; exact ih
    · by_cases h2 : x ≤ a
      · simp [h1, h2]; omega
      · simp [h1, h2]; exact ih

/-- The least of those that are not below r. -/
theorem least_from (r : Int) : ∀ (l : List Int), 0 < cnt r l → ∃ x ∈ l, r ≤ x ∧ ∀ y ∈ l, r ≤ y → x ≤ y
  | [], h => by simp [cnt] at h
  | a :: l, h => by
    by_cases hl : 0 < cnt r l
    · obtain ⟨x, h1, h2, h3⟩ := least_from r l hl
      by_cases ha : r ≤ a ∧ a < x
      · exact ⟨a, List.mem_cons_self, ha.1, fun y hy hr => by
          rcases List.mem_cons.1 hy with rfl | hy
          · exact Int.le_refl _
          · have := h3 y hy hr; omega⟩
      · exact ⟨x, List.mem_cons_of_mem _ h1, h2, fun y hy hr => by
          rcases List.mem_cons.1 hy with rfl | hy
          · omega
          · exact h3 y hy hr⟩
    · have ha : r ≤ a := by
        by_cases ha : r ≤ a
        · exact ha
        · unfold cnt at h hl; simp [ha] at h hl
          obtain ⟨x, hx, hr⟩ := h
          exact absurd hr (by have := hl x hx; omega)
      refine ⟨a, List.mem_cons_self, ha, fun y hy hr => ?_⟩
      rcases List.mem_cons.1 hy with rfl | hy
      · exact Int.le_refl _
      · exfalso
        apply hl
        unfold cnt
        exact List.length_pos_iff.2 (List.ne_nil_of_mem (List.mem_filter.2 ⟨hy, by simpa using hr⟩))

/-- Whoever a majority is at least is at most what a majority has. -/
theorem IsRule.ge {l : List Int} {r x : Int} (h : IsRule l r) (hx : l.length < 2 * cnt x l) : x ≤ r := by
  rcases h with ⟨rfl, rfl⟩ | ⟨h1, h2, h3⟩
  · simp [cnt] at hx
  · obtain ⟨y, hy1, hy2, hy3⟩ := least_from x l (by omega)
    have : cnt y l = cnt x l := by
      refine Nat.le_antisymm (cnt_mono hy2 l) ?_
      unfold cnt
      refine (List.Sublist.length_le (l₁ := l.filter fun m => decide (x ≤ m)) ?_)
      have : (l.filter fun m => decide (x ≤ m)) = ((l.filter fun m => decide (y ≤ m)).filter fun m => decide (x ≤ m)) := by
        rw [List.filter_filter]
        apply List.filter_congr
        intro m hm
        by_cases h : x ≤ m
        · have := hy3 m hm h; simp [h, this]
        · simp [h]
      rw [this]
      exact List.filter_sublist
    have := h3 y hy1 (by rw [this]; exact hx)
    omega

theorem cnt_set (r : Int) : ∀ (l : List Int) (i : Nat) (d : Int), 0 ≤ d → cnt r l ≤ cnt r (l.set i (l.getD i 0 + d))
  | [], i, d, _ => by simp
  | a :: l, 0, d, hd => by
    unfold cnt
    simp only [List.set_cons_zero, List.filter_cons, List.getD_cons_zero]
    by_cases h1 : r ≤ a
    · have : r ≤ a + d := by omega
      simp [h1, this]
    · by_cases h2 : r ≤ a + d <;> simp [h1, h2]
  | a :: l, i + 1, d, hd => by
    have := cnt_set r l i d hd
    unfold cnt at this ⊢
    simp only [List.set_cons_succ, List.filter_cons, List.getD_cons_succ]
    by_cases h1 : r ≤ a <;> simp [h1] <;> exact this

theorem rises {l : List Int} {i : Nat} {d r r' : Int} (hd : 0 ≤ d) (hne : l ≠ []) (h : IsRule l r) (h' : IsRule (l.set i (l.getD i 0 + d)) r') : r ≤ r' := by
  rcases h with ⟨h, _⟩ | ⟨h1, h2, h3⟩
  · exact absurd h hne
  · refine h'.ge ?_
    have := cnt_set r l i d hd
    simp only [List.length_set]
    omega

def pick (x n : Int) : Int := if n ≤ 0 then 0 else x % n
theorem pick_range {x n : Int} (h : 0 < n) : 0 ≤ pick x n ∧ pick x n < n := by
  unfold pick
  rw [if_neg (by omega)]
  exact ⟨Int.emod_nonneg _ (by omega), Int.emod_lt_of_pos _ h⟩

theorem ldOwn {n0 : Nat} {w : AW} {b n cap : Nat} {ex : Option Nat} {l : List Int} (h : Own n0 w 1 (.slice b 0 n cap ex) (l.map (AV.int .i64))) {k : Nat} (hk : k < l.length) : ld w b (0 + k * 1) = some (.int .i64 (l.getD k 0)) := by
  rcases h with ⟨h, _⟩ | ⟨b', n', cap', ex', f, o, d, dd, h0, h1, h2, h3, h4, h5⟩
  · cases h
  cases h0
  have hcells : w.cells? b = some (l.map (AV.int .i64)) := AW.cells?_iff.2 ⟨(f, b, dd), o, d, AW.fam?_iff.2 ⟨_, o, d, h4, h5⟩, .inr rfl, h4⟩
  unfold ld
  rw [hcells, Option.bind_some, Nat.zero_add, Nat.mul_one, getD_map_int _ _ hk]

/-- CommitRises. -/
theorem s6 {hk : Hook} {w : AW} {v : AV} {l : List Int} {i more : Int} (hh : HK hk) (hm : Mem w) (hw : 0 < w.size) (hl : RsI w v l) :
    Cl Try.prog hk 6 [v, .int .i64 i, .int .i64 more] w fun r _ => r = .bool true := by
  apply in6 (hh.no _ _ _ (by decide) (by decide))
  unfold F6
  refine ⟨_, hl.len, ifT_d (fun _ => Cl_hook (hh.awake _) ⟨_, rfl, rfl⟩) fun h0 => ⟨_, hl.len, ifT_d (fun _ => Cl_hook (hh.awake _) ⟨_, rfl, rfl⟩) fun h50 => ?_⟩⟩
  refine loopP_ind (fun m lv w' => ∃ (k : Nat) (a : AV), k ≤ l.length ∧ m = l.length - k ∧ lv = [a, .int .i64 k] ∧ Fr w.size w w' ∧ Acc w.size w' 1 a (((l.take k).map fun x => pick x 1000).map (AV.int .i64))) ?_ ⟨0, .nilslice, Nat.zero_le _, rfl, rfl, Fr.refl hm, Acc.nil⟩
  rintro m lv w' ⟨k, a, hk, rfl, rfl, hf, ha⟩ R ih
  have hl' := hl.fr hm hf (Nat.le_refl _)
  refine ⟨_, _, rfl, fun _ => ⟨_, hl'.len, ifT_d (fun h => ?_) fun h => ?_⟩⟩
  · have h : k < l.length := by omega
    refine hl'.atN h fun b o hld => ⟨_, hld, s11 (hh.no _ _ _ (by decide) (by decide)) (by decide) ⟨_, rfl, new_of hf.mem fun y1 f1 b1 z1 => ?_⟩⟩
    have hrs : Rs y1 1 1 (.slice w'.size 0 1 1 none) [.int .i64 (pick l[k] 1000)] := .inr ⟨w'.size, 0, 1, none, _, rfl, b1.cells, by simp, rfl⟩
    have hlen : (((l.take k).map fun x => pick x 1000).map (AV.int .i64)).length / 1 = k := by simp; omega
    have hsz := hf.size
    refine Acc.app (ha.fr hf.mem f1 (Nat.le_refl _)) f1.mem (by omega) (by omega) (by decide) hrs (by rw [hlen]; omega) (by rw [hlen]; omega) fun a' y2 hacc hgrow => ?_
    refine ih (l.length - (k + 1)) (by omega) _ _ ⟨k + 1, a', h, rfl, by rw [wi_eq (by omega) (by omega)]; rfl, (hf.trans f1 (by omega)).trans hgrow.fr (Nat.le_refl _), ?_⟩
    rw [← List.take_append_getElem h, List.map_append, List.map_append]
    exact hacc
  · have : k = l.length := by omega
    subst this
    rw [List.take_length] at ha
    have hml : (l.map fun x => pick x 1000).length = l.length := by simp
    have hrange : ∀ x ∈ (l.map fun x => pick x 1000), 0 ≤ x ∧ x < 1000 := fun x hx => by
      obtain ⟨y, _, rfl⟩ := List.mem_map.1 hx; exact pick_range (by decide)
    generalize (l.map fun x => pick x 1000) = ms at *
    refine s7 hh hf.mem ha.rsI (by omega) fun r w1 hr f1 => ⟨_, rfl, ?_⟩
    have ho1 := (ha.fr hf.mem f1 (Nat.le_refl _)).own
    have hm1 := f1.mem
    refine ⟨_, ho1.rsI.len, s11 (hh.no _ _ _ (by decide) (by decide)) (by omega) ⟨_, rfl, ?_⟩⟩
    have hp := pick_range (x := i) (n := ms.length) (by omega)
    obtain ⟨j, hj⟩ := Int.eq_ofNat_of_zero_le hp.1
    have hpk := hj
    unfold pick at hpk
    rw [hpk]
    rw [hj] at hp
    have hjl : j < ms.length := by omega
    rcases ho1 with ⟨_, hnil⟩ | ⟨b, n, cap, ex, f, o, d, dd, rfl, h1, h2, h3, h4, h5⟩
    · have : ms = [] := by simpa using hnil
      subst this; simp at hjl
    have hn : n = ms.length := by rw [Nat.mul_one, List.length_map] at h1; omega
    have ho1 : Own w.size w1 1 (.slice b 0 n cap ex) (ms.map (AV.int .i64)) := .inr ⟨b, n, cap, ex, f, o, d, dd, rfl, h1, h2, h3, h4, h5⟩
    rw [atP_iff]; refine ⟨_, _, ho1.at (i := j) (by omega), _, ldOwn ho1 hjl, ?_⟩
    refine s11 (hh.no _ _ _ (by decide) (by decide)) (by decide) ⟨_, rfl, ldOwn ho1 hjl, ?_⟩
    have hp2 := pick_range (x := more) (n := 1000) (by decide)
    rw [atP_iff]; refine ⟨_, _, ho1.at (i := j) (by omega), ?_⟩
    rw [Nat.zero_add, Nat.mul_one]
    have hx := hrange (ms.getD j 0) (by rw [List.getD_eq_getElem?_getD, List.getElem?_eq_getElem hjl]; exact List.getElem_mem hjl)
    show onM (w1.putCells b j [.int .i64 (wi (ms.getD j 0 + pick more 1000))]) _
    rw [wi_eq (by omega) (by omega)]
    obtain ⟨w2, hw2, hf2, ho2, hs2⟩ := ho1.put hm1 (i := j) (vs := [.int .i64 (ms.getD j 0 + pick more 1000)]) (by simp; omega)
    rw [listPut_one _ _ _ hjl] at ho2
    refine onM_s hw2 ?_
    refine s7 hh hf2.mem ho2.rsI (by simp; omega) fun r' w3 hr' f3 => ⟨_, rfl, ?_⟩
    have hle : r ≤ r' := rises hp2.1 (by intro e; rw [e] at hjl; simp at hjl) hr hr'
    exact ifT_d (fun _ => Cl_hook (hh.awake _) ⟨_, rfl, rfl⟩) fun h => absurd hle h
end Go.Proofs.Ytcmkgjaclhpafaa
