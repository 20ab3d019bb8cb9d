/-
  What settles steps, over memory; syncs.
  No condition beyond those that each theorem names.
-/
import Derived.Test.YtbjeebgdjlemjaaL07
set_option linter.unusedSimpArgs false
open Go.Sx
set_option linter.unusedVariables false
namespace Go.Proofs.Ytbjeebgdjlemjaa

theorem settleL_snoc (so : Nat → Stp → Bool) (x : Stp) : ∀ (l : List Stp) (i : Nat) (s : FS), settleL so i (l ++ [x]) s = if so (i + l.length) x then (((settleL so i l s).1).does x, (settleL so i l s).2) else ((settleL so i l s).1, (settleL so i l s).2 ++ [x])
  | [], i, s => by
    simp only [List.nil_append, settleL, List.length_nil, Nat.add_zero]
  | a :: l, i, s => by
    simp only [List.cons_append, settleL, List.length_cons, settleL_snoc so x l]
    rw [show i + 1 + l.length = i + (l.length + 1) by omega]
    split <;> split <;> simp [*]

section
variable {hk : Hook} {X : List Nat} {w : AW} {D n1 f1 n2 f2 : Nat} {sv : AV} {d : Dsk} {k : Nat} {K : AV → AW → Prop}

/-- A function value that tells of steps. -/
def Tells (hk : Hook) (w : AW) (D : Nat) (fv : AV) (so : Nat → Stp → Bool) : Prop :=
  ∀ (i : Nat) (x : Stp) (w' : AW), i < 2 ^ 40 → x.data.length = 64 → Mem w' → w.size ≤ w'.size → (∀ c cs, c ≠ D → Box w c cs → Box w' c cs) → ∀ K' : AV → AW → Prop, (∀ w'', Fr w'.size w' w'' → K' (.bool (so i x)) w'') → Cv Try.prog hk fv [.int .i64 (i : Int), .agg x.cells] w' K'

/-- settle. -/
theorem s45 {fv : AV} {so : Nat → Stp → Bool} (hh : HK hk) (hm : Mem w) (hw : 0 < w.size) (h : DkM X w D n1 f1 n2 f2 sv d) (hV : d.V k) (hkk : k < 2 ^ 27) (hso : Tells hk w D fv so)
    (hK : ∀ X' sv' w', (∀ x ∈ X, x ∈ X') → (∀ x ∈ X', x ∈ X ∨ w.size ≤ x) → Tz X w w' → DkM X' w' D n1 f1 n2 f2 sv' (d.settle so).1 → K (.int .i64 (d.settle so).2) w') : Cl Try.prog hk 45 [.ptr D 0, fv] w K := by
  apply in45 (hh.no _ _ _ (by decide) (by decide))
  unfold F45
  refine s68 hh hm h fun w3 t3 z3 h3 => ⟨_, rfl, ?_⟩
  have hV3 := hV.stopped
  unfold Dsk.settle at hK
  have tX : Tz X w w3 := t3.mono (by simp; exact h.inX.1)
  by_cases he : d.stopped.2 = 0
  rotate_left
  · simp only [ne_eq, he, not_false_eq_true, if_true] at hK
    exact ifT_nd (fun _ => hK X sv w3 (fun _ h => h) (fun _ h => .inl h) tX h3) fun h => absurd h he
  simp only [ne_eq, he, not_true_eq_false, if_false] at hK
  refine ifT_nd (fun h => absurd he h) fun _ => ?_
  have hm3 := t3.ch.mem
  have hbx3 : ∀ c cs, c ≠ D → Box w c cs → Box w3 c cs := fun c cs hc hb => t3.ch.box hm hb (by simpa using hc)
  simp only [onP]
  generalize d.stopped.1 = d1 at *
  refine onM_s (v := sv) (by rw [h3.box.ld]; rfl) ⟨_, h3.rs.len, ?_⟩
  have hsl := hV3.steps
  refine loopP_ind (fun i lvs w11 => ∃ (j : Nat) (left : AV), j ≤ d1.steps.length ∧ i = d1.steps.length - j ∧ lvs = [left, .int .i64 j] ∧ Tz X w w11 ∧ DkM X w11 D n1 f1 n2 f2 sv { d1 with safe := (settleL so 0 (d1.steps.take j) d1.safe).1 }
      ∧ Gc (w3.size ≤ ·) 69 w11 left (stpsC (settleL so 0 (d1.steps.take j) d1.safe).2) ∧ ∀ c cs, c ≠ D → Box w c cs → Box w11 c cs) ?_
    ⟨0, .nilslice, Nat.zero_le _, rfl, rfl, tX, by simpa [settleL] using h3, by rw [List.take_zero]; exact Gc.nil, hbx3⟩
  rintro i lvs w11 ⟨j, left, hj, rfl, rfl, t11, h11, hg11, hbx11⟩ R ih
  have hm11 := t11.ch.mem
  have hs11 := t11.ch.size
  obtain ⟨vS, vL, vN⟩ := settleL_V (so := so) (i := 0) (l := d1.steps.take j) hV3.safe fun x hx => hV3.sv x (List.mem_of_mem_take hx)
  have vL64 : ∀ x ∈ (settleL so 0 (d1.steps.take j) d1.safe).2, x.data.length = 64 := fun x hx => (vL x hx).1
  have hgl := stpsC_length vL64
  refine ⟨_, _, rfl, fun _ => ifT_d (fun hc => ?_) fun hc => ?_⟩
  · have hjl : j < d1.steps.length := by omega
    have hxV := hV3.sv _ (List.getElem_mem hjl)
    have hx64 := hxV.1
    have hx69 := Stp.length hx64
    have hrs11 : Rs w11 69 d1.steps.length sv (stpsC d1.steps) := h11.rs
    refine hrs11.at (i := (j : Int)) (by omega) (by omega) fun bb oo _ hN => ?_
    have hN : ldN 69 w11 bb oo = some (.agg d1.steps[j].cells) := by rw [hN]; exact congrArg (fun t => some (AV.agg t)) (stpsC_at h11.sd hjl)
    refine onM_s hN (new_of hm11 fun w18 f18 b18 z18 => ?_)
    simp only [onA]
    refine gd_t (Stp.all _) (gd_t (by rw [hx69]; rfl) (fill_of b18 f18.mem (by omega) (by rw [zstep_length, hx69]) fun w20 c20 b20 z20 => ?_))
    have f20 : Fr w11.size w11 w20 := (Ch.new f18 c20 [] fun z hz => by simp at hz; omega).fr (Nat.le_refl _) (by simp)
    refine onM_s (ldN_all b20.cells hx69) ?_
    have hbx20 : ∀ c cs, c ≠ D → Box w c cs → Box w20 c cs := fun c cs hc hb => (hbx11 c cs hc hb).fr f20 ((hbx11 c cs hc hb).lt hm11)
    refine hso j d1.steps[j] w20 (by omega) hx64 f20.mem (by omega) hbx20 _ fun w23 f23 => ⟨_, rfl, ?_⟩
    have hs23 := f23.size
    have f1123 := f20.trans f23 (by omega)
    have h23 := h11.fr hm11 f1123
    have hg23 := hg11.fr hm11 f1123
    have b23 := b20.fr f23 (by omega)
    have hbx23 : ∀ c cs, c ≠ D → Box w c cs → Box w23 c cs := fun c cs hc hb => (hbx11 c cs hc hb).fr f1123 ((hbx11 c cs hc hb).lt hm11)
    have t23 : Tz X w w23 := t11.trans (Tz.of_fr hm11 f1123)
    have htk : d1.steps.take (j + 1) = d1.steps.take j ++ [d1.steps[j]] := (List.take_append_getElem hjl).symm
    have hsn := settleL_snoc so d1.steps[j] (d1.steps.take j) 0 d1.safe
    have htl : (d1.steps.take j).length = j := by simp; omega
    rw [← htk, htl, Nat.zero_add] at hsn
    cases hb : so j d1.steps[j] with
    | true =>
      rw [hb, if_pos rfl] at hsn
      refine ifT_t ⟨_, _, by rw [h23.box.ldN (by simp [Dsk.cells])]; rfl, onM_s (ldN_all b23.cells hx69) ?_⟩
      refine s49 (s := (settleL so 0 (d1.steps.take j) d1.safe).1) hh f23.mem (by omega) h23.N1 h23.F1 h23.nd.1 hx64 ⟨hxV.2.1, by have := hxV.2.2.1; omega⟩ (by have := (vS d1.steps[j].file).1; omega) fun w31 t31 hN31 hF31 => ⟨rfl, ?_⟩
      have h31 := h23.setSafe f23.mem t31 hN31 hF31
      have hmp : ∀ x ∈ [n1, f1], ∃ es cl, w23.get x = some (.map es cl) := fun x hx => h23.maps x (by simp at hx ⊢; omega)
      have t31' : Tz X w w31 := t23.trans (t31.mono fun x hx => by
        obtain ⟨_, x2, x3, _, _⟩ := h.inX
        simp at hx
        rcases hx with rfl | rfl
        · exact x2
        · exact x3)
      refine ih (d1.steps.length - (j + 1)) (by omega) _ _ ⟨j + 1, left, by omega, rfl, by rw [wi_eq (by omega) (by omega)]; rfl, t31', ?_, ?_, fun c cs hc hb => box_maps f23.mem t31.ch hmp (hbx23 c cs hc hb)⟩
      · rw [hsn]; exact h31
      · rw [hsn]
        exact hg23.ch f23.mem t31.ch fun x hx => .inl (hmp x hx)
    | false =>
      rw [hb] at hsn
      refine ifT_f (onM_s (ldN_all b23.cells hx69) ?_)
      simp only []
      refine gd_t (Stp.all _) (gd_t (by rw [hx69]; rfl) (new_of f23.mem fun w35 f35 b35 z35 => ?_))
      rw [listPut_all (by rw [zstep_length, hx69])] at b35
      have h35 := h23.fr f23.mem f35
      have hrx : Rs w35 69 1 (.slice w23.size 0 1 1 none) d1.steps[j].cells := .inr ⟨w23.size, 0, 1, none, _, rfl, b35.cells, by omega, by rw [List.drop_zero, Nat.one_mul, ← hx69, List.take_length]⟩
      have hln : (stpsC (settleL so 0 (d1.steps.take j) d1.safe).2).length / 69 < 2 ^ 28 := by
        rw [hgl, Nat.mul_div_cancel _ (by decide)]
        have : (d1.steps.take j).length ≤ d1.steps.length := by simp; omega
        omega
      refine (hg23.fr f23.mem f35).app f35.mem (by show w3.size ≤ w35.size; omega) (by omega) (by decide) hrx (by omega) (by omega) fun left' w37 hg37 hgr _ => ?_
      have hleft : ∀ c, c < w3.size → blk left ≠ some c := fun c hc e => by have := hg11.ge hm11 e; omega
      have hlt3 : ∀ x ∈ [n1, f1, n2, f2], x < w3.size := fun x hx => (h3.lt hm3).2 x hx
      have hq : ∀ c, c < w3.size → w37.get c = w35.get c := fun c hc => hgr.old c (by omega) (by show ¬ w3.size ≤ c; omega)
      have f3537 : Fr w3.size w35 w37 := ⟨hgr.size, fun c hc => hq c hc, hgr.mem⟩
      have h37 : DkM X w37 D n1 f1 n2 f2 sv { d1 with safe := (settleL so 0 (d1.steps.take j) d1.safe).1 } := by
        have hsv := h3.st
        refine ⟨h35.D0, hgr.box _ _ h35.box (hleft _ (h3.lt hm3).1), h35.N1.fr (hq _ (hlt3 _ (by simp))), h35.F1.mono (hq _ (hlt3 _ (by simp))) fun b bs hb => hgr.cells _ _ hb, h35.N2.fr (hq _ (hlt3 _ (by simp))), h35.F2.mono (hq _ (hlt3 _ (by simp))) fun b bs hb => hgr.cells _ _ hb, h35.nd, ?_, h35.sd, h35.inX⟩
        -- the row of steps is older
        rcases hsv with ⟨e, e'⟩ | ⟨b, f, n, ex, o, dd, e, q1, q2, q3, q4, q5, q6⟩
        · rcases h35.st with ⟨_, e2⟩ | ⟨b, f, n, ex, o, dd, e2, _⟩
          · exact .inl ⟨e, e2⟩
          · rw [e] at e2; cases e2
        · have hb3 := hm3.lt _ _ q5
          rcases h35.st with hn | ⟨b', f', n', ex', o', dd', e2, p1, p2, p3, p4, p5, p6⟩
          · exact .inl hn
          · rw [e] at e2
            cases e2
            have hf' := f35.mem.fam _ _ _ _ _ p5
            exact .inr ⟨b, f', n, ex, o', dd', e, p1, p2, p3, p4, (hq _ hb3).trans p5, by rw [AW.root?_congr (hq _ (by omega))]; exact p6⟩
      have t37 : Tz X w w37 := by
        refine (t23.trans (Tz.of_fr f23.mem f35)).trans' (Y := List.range' w3.size (w35.size - w3.size)) ⟨⟨hgr.size, fun c hc hx => hgr.old c hc fun hx' => hx ?_, hgr.mem⟩, fun b bs hb => hgr.cells _ _ hb⟩ fun y hy => .inr ?_
        · rw [List.mem_range'_1]; have : w3.size ≤ c := hx'; omega
        · rw [List.mem_range'_1] at hy; omega
      refine ih (d1.steps.length - (j + 1)) (by omega) _ _ ⟨j + 1, left', by omega, rfl, by rw [wi_eq (by omega) (by omega)]; rfl, t37, ?_, ?_, fun c cs hc hb => ?_⟩
      · rw [hsn]; exact h37
      · rw [hsn]
        have : stpsC ((settleL so 0 (d1.steps.take j) d1.safe).2 ++ [d1.steps[j]]) = stpsC (settleL so 0 (d1.steps.take j) d1.safe).2 ++ d1.steps[j].cells := by rw [stpsC_append]; simp [stpsC]
        show Gc _ 69 w37 left' (stpsC ((settleL so 0 (d1.steps.take j) d1.safe).2 ++ [d1.steps[j]]))
        rw [this]; exact hg37
      · have hb23 := hbx23 c cs hc hb
        exact hgr.box _ _ (hb23.fr f35 (hb23.lt f23.mem)) (hleft _ (by have := hb.lt hm; omega))
  · have : j = d1.steps.length := by omega
    subst this
    rw [List.take_length] at h11 hg11 vL64
    have hgX : Gc (· ∈ List.range' w3.size (w11.size - w3.size) ++ X) 69 w11 left (stpsC (settleL so 0 d1.steps d1.safe).2) := by
      rcases hg11 with hg | ⟨b, f, n, ex, o, dd, e, q1, q2, q3, q4, q5, q6⟩
      · exact .inl hg
      · refine .inr ⟨b, f, n, ex, o, dd, e, q1, q2, ?_, q4, q5, q6⟩
        obtain ⟨c0, hc0, _⟩ := AW.root?_iff.1 q6
        have := hm11.lt _ _ hc0
        have q3 : w3.size ≤ f := q3
        simp only [List.mem_append, List.mem_range'_1]
        left; omega
    have hleftD : blk left ≠ some D := fun e => by have := hg11.ge hm11 e; have := (h3.lt hm3).1; omega
    refine gd_t hg11.ok (h11.setSteps hm11 (Y := List.range' w3.size (w11.size - w3.size) ++ X) (fun x hx => List.mem_append_right _ hx) vL64 hgX hleftD fun w40 t40 z40 _ h40 => ?_)
    refine hK _ left w40 (fun x hx => List.mem_append_right _ hx) (fun x hx => ?_) (t11.trans (t40.mono (by simp; exact h.inX.1))) h40
    rcases List.mem_append.1 hx with hx | hx
    · rw [List.mem_range'_1] at hx; right; omega
    · exact .inl hx
end
end Go.Proofs.Ytbjeebgdjlemjaa
