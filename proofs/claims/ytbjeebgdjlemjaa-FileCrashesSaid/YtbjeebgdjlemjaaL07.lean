/-
  The disk's steps and what settles them, over memory.
  No condition beyond those that each theorem names.
-/
import Derived.Test.YtbjeebgdjlemjaaK07
import Derived.Test.YtbjeebgdjlemjaaSxs
set_option linter.unusedSimpArgs false
open Go.Sx
set_option linter.unusedVariables false
namespace Go.Proofs.Ytbjeebgdjlemjaa

theorem listPut_all {cs vs : List AV} (h : cs.length = vs.length) : listPut cs 0 vs = vs := by
  simp only [listPut, List.take_zero, List.nil_append, Nat.zero_add]
  rw [List.drop_eq_nil_of_le (by omega), List.append_nil]
theorem zstep_length : (stepC (.int .i64 0) (.int .i64 0) (.int .i64 0) z64 (.str []) (.str [])).length = 69 := by
  rw [z64_eq]; simp [stepC, cellsOfBytes_length, zsec]
theorem ldN_cells {w : AW} {b o n : Nat} {cs : List AV} (h : w.cells? b = some cs) (hn : o + n ≤ cs.length) : ldN n w b o = some (.agg ((cs.drop o).take n)) := by
  simp [ldN, h, takeCells_some hn]
theorem ldN_all {w : AW} {b n : Nat} {cs : List AV} (h : w.cells? b = some cs) (hn : cs.length = n) : ldN n w b 0 = some (.agg cs) := by
  rw [ldN_cells h (by omega), List.drop_zero, ← hn, List.take_length]
/-- A block is filled. -/
theorem fill_of {w : AW} {b : Nat} {cs vs : List AV} (h : Box w b cs) (hm : Mem w) (hb : b ≠ 0) (hl : cs.length = vs.length) {K : AW → Prop} (hK : ∀ w', Ch [b] w w' → Box w' b vs → w'.size = w.size → K w') : onM (w.putCells b 0 vs) K :=
  h.put' hm hb (by omega) fun w' c b' z => hK w' c (by rw [listPut_all hl] at b'; exact b') z

section
variable {hk : Hook} {X : List Nat} {w : AW} {D n1 f1 n2 f2 : Nat} {sv : AV} {d : Dsk} {k : Nat} {K : AV → AW → Prop}

/-- more. -/
theorem s42 {l : List Stp} {lv : AV} (hh : HK hk) (hm : Mem w) (hw : 0 < w.size) (h : DkM X w D n1 f1 n2 f2 sv d) (hV : d.V k) (hkk : k < 2 ^ 27) (hl : ∀ x ∈ l, x.V) (hll : l.length ≤ 1000) (hlv : Rs w 69 l.length lv (stpsC l)) (hlD : blk lv ≠ some D)
    (hK : ∀ X' sv' w', (∀ x ∈ X, x ∈ X') → (∀ x ∈ X', x ∈ X ∨ w.size ≤ x) → Tz X w w' → DkM X' w' D n1 f1 n2 f2 sv' (d.more l).1 → K (.int .i64 (d.more l).2) w') : Cl Try.prog hk 42 [.ptr D 0, lv] w K := by
  apply in42 (hh.no _ _ _ (by decide) (by decide))
  unfold F42
  refine s68 hh hm h fun w3 t3 z3 h3 => ⟨_, rfl, ?_⟩
  have hV3 := hV.stopped
  unfold Dsk.more at hK
  have tX : Tz X w w3 := t3.mono (by simp; exact h.inX.1)
  by_cases he : d.stopped.2 = 0
  rotate_left
  · simp only [ne_eq, he, not_false_eq_true, if_true] at hK
    exact ifT_nd (fun _ => hK X sv w3 (fun _ h => h) (fun _ h => .inl h) tX h3) fun h => absurd h he
  simp only [ne_eq, he, not_true_eq_false, if_false] at hK
  refine ifT_nd (fun h => absurd he h) fun _ => ?_
  have hm3 := t3.ch.mem
  have hlv3 : Rs w3 69 l.length lv (stpsC l) := hlv.via fun c all hc ha => cells_box hm t3.ch h.box h3.box (fun e => hlD (e ▸ hc)) ha
  have hl64 : ∀ x ∈ l, x.data.length = 64 := fun x hx => (hl x hx).1
  refine ⟨_, hlv3.len, ?_⟩
  generalize d.stopped.1 = d1 at *
  refine loopP_ind (fun i lvs w8 => ∃ (j : Nat) (X' : List Nat) (sv' : AV), j ≤ l.length ∧ i = l.length - j ∧ lvs = [.int .i64 j] ∧ (∀ x ∈ X, x ∈ X') ∧ (∀ x ∈ X', x ∈ X ∨ w.size ≤ x) ∧ Tz X w w8 ∧ DkM X' w8 D n1 f1 n2 f2 sv' { d1 with steps := d1.steps ++ l.take j, now := (l.take j).foldl FS.does d1.now } ∧ Rs w8 69 l.length lv (stpsC l)) ?_
    ⟨0, X, sv, Nat.zero_le _, rfl, rfl, fun _ h => h, fun _ h => .inl h, tX, by simpa using h3, hlv3⟩
  rintro i lvs w8 ⟨j, X', sv', hj, rfl, rfl, hX1, hX2, t8, h8, hlv8⟩ R ih
  have hm8 := t8.ch.mem
  have hs8 := t8.ch.size
  refine ⟨_, rfl, fun _ => ifT_d (fun hc => ?_) fun hc => ?_⟩
  · have hjl : j < l.length := by omega
    have hxV := hl _ (List.getElem_mem hjl)
    have hx64 := hxV.1
    have hx69 := Stp.length hx64
    refine hlv8.at (i := (j : Int)) (by omega) (by omega) fun bb oo _ hN => ?_
    have hN : ldN 69 w8 bb oo = some (.agg l[j].cells) := by rw [hN]; exact congrArg (fun t => some (AV.agg t)) (stpsC_at hl64 hjl)
    refine onM_s hN (new_of hm8 fun w14 f14 b14 z14 => ?_)
    simp only [onA, onP]
    refine gd_t (Stp.all _) (gd_t (by rw [hx69]; rfl) (fill_of b14 f14.mem (by omega) (by rw [zstep_length, hx69]) fun w16 c16 b16 z16 => ?_))
    have f16 : Fr w8.size w8 w16 := (Ch.new f14 c16 [] fun z hz => by simp at hz; omega).fr (Nat.le_refl _) (by simp)
    have h16 := h8.fr hm8 f16
    refine onM_s (v := sv') (by rw [h16.box.ld]; rfl) (onM_s (ldN_all b16.cells hx69) ?_)
    simp only []
    refine gd_t (Stp.all _) (gd_t (by rw [hx69]; rfl) (new_of f16.mem fun w23 f23 b23 z23 => ?_))
    rw [listPut_all (by rw [zstep_length, hx69])] at b23
    have f823 := f16.trans f23 (by omega)
    have h23 := h16.fr f16.mem f23
    have b16' := b16.fr f23 (by omega)
    refine ⟨ldN_all b16'.cells hx69, by rw [h23.box.ld]; rfl, ?_⟩
    have hD8 := (h8.lt hm8).1
    have hrx : Rs w23 69 1 (.slice w16.size 0 1 1 none) l[j].cells := .inr ⟨w16.size, 0, 1, none, _, rfl, b23.cells, by omega, by rw [List.drop_zero, Nat.one_mul, ← hx69, List.take_length]⟩
    have hlen23 : (({ d1 with steps := d1.steps ++ l.take j, now := (l.take j).foldl FS.does d1.now } : Dsk)).steps.length < 2 ^ 28 := by
      have := hV3.steps
      simp only [List.length_append, List.length_take]; omega
    refine h23.app f23.mem (by omega) hx64 hrx hlen23 fun sv2 w25 hok z25 hput => ?_
    refine gd_t hok (hput _ fun w28 t28 z28 hc28 h28 => ?_)
    have hm28 := t28.ch.mem
    have hbD : w8.size ≠ D := by omega
    refine ⟨_, _, by rw [h28.box.ldN (by simp [Dsk.cells])]; rfl, onM_s (ldN_all (hc28 _ _ hbD b16'.cells) hx69) ?_⟩
    have hFV : FS.V ((l.take j).foldl FS.does d1.now) := FS.V.foldl hV3.now fun x hx => hl x (List.mem_of_mem_take hx)
    refine s49 (s := (l.take j).foldl FS.does d1.now) hh hm28 (by have := t28.ch.size; omega) h28.N2 h28.F2 h28.nd.2.2.2.2.2 hx64 ⟨hxV.2.1, by have := hxV.2.2.1; omega⟩ (by have := (hFV l[j].file).1; omega) fun w35 t35 hN35 hF35 => ⟨rfl, ?_⟩
    have h35 := h28.setNow hm28 t35 hN35 hF35
    have htk : l.take (j + 1) = l.take j ++ [l[j]] := (List.take_append_getElem hjl).symm
    have t23 : Tz X w w23 := t8.trans (Tz.of_fr hm8 f823)
    have hs23 := t23.ch.size
    have t28' : Tz X w w28 := t23.trans' t28 fun y hy => by
      rcases List.mem_cons.1 hy with rfl | hy
      · exact .inr hs23
      · exact hX2 y hy
    have t35' : Tz X w w35 := t28'.trans' t35 fun y hy => by
      obtain ⟨_, _, _, x4, x5⟩ := h.inX
      simp at hy
      rcases hy with rfl | rfl
      · exact .inl x4
      · exact .inl x5
    refine ih (l.length - (j + 1)) (by omega) _ _ ⟨j + 1, w23.size :: X', sv2, by omega, rfl, by rw [wi_eq (by omega) (by omega)]; rfl, fun x hx => List.mem_cons_of_mem _ (hX1 x hx), fun x hx => ?_, t35', ?_, ?_⟩
    · rcases List.mem_cons.1 hx with rfl | hx
      · exact .inr hs23
      · exact hX2 x hx
    · rw [htk, List.foldl_append]
      have e : d1.steps ++ (l.take j ++ [l[j]]) = (d1.steps ++ l.take j) ++ [l[j]] := by rw [List.append_assoc]
      rw [e]
      exact h35
    · refine (hlv8.via fun c all hc ha => ?_)
      have hcD : c ≠ D := fun e => hlD (e ▸ hc)
      have a1 := f823.cells hm8 ha (Nat.le_refl _)
      have a2 := hc28 _ _ hcD a1
      exact cells_maps hm28 t35.ch (fun x hx => h28.maps x (by simp at hx ⊢; omega)) a2
  · have : j = l.length := by omega
    subst this
    rw [List.take_length] at h8
    exact hK X' sv' w8 hX1 hX2 t8 h8
end
end Go.Proofs.Ytbjeebgdjlemjaa
