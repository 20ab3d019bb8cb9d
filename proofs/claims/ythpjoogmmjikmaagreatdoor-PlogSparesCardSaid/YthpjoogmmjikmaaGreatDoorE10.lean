/-
  What the disk's functions do, over memory, with its own blocks (the second part).
  No condition beyond those that each theorem names.
-/
import Derived.Test.YthpjoogmmjikmaaGreatDoorD10
set_option linter.unusedSimpArgs false
open Go.Sx
set_option linter.unusedVariables false
namespace Go.Proofs.YthpjoogmmjikmaaGreatDoor
section
variable {hk : Hook} {A B : Nat → Prop} {I : List Nat} {w0 w w' : AW} {D : Nat} {i i' : DI} {d d' : Dsk} {k k' : Nat} {L L' : Obs} {K : AV → AW → Prop}
theorem s61 {l : List Stp} {lv : AV} (hh : HK hk) (h : Dk A I w0 w D i d k L) (hl : ∀ x ∈ l, x.V) (hkk : k + l.length < 2 ^ 27) (hlv : (rL rStp).rd (fz A (dkU D i L)) w [lv] l)
    (hK : Od A I w0 w D i L (d.more l) (k + l.length) K) : Cl Tryz.prog hk 61 [.ptr D 0, lv] w K := by
  apply in61 (hh.no _ _ _ (by decide) (by decide))
  unfold F61
  refine s95 hh h fun i3 w3 h3 x3 => ⟨_, rfl, ?_⟩
  unfold Dsk.more at hK
  by_cases he : d.stopped.2 = 0
  rotate_left
  · simp only [ne_eq, he, not_false_eq_true, if_true] at hK
    exact ifT_nd (fun _ => hK i3 w3 (h3.le (by omega) hkk) x3) fun h => absurd h he
  simp only [ne_eq, he, not_true_eq_false, if_false] at hK
  refine ifT_nd (fun h => absurd he h) fun _ => ?_
  have hlv3 := hlv.x x3
  refine ⟨_, hlv3.len', ?_⟩
  generalize d.stopped.1 = d1 at *
  refine loopP_ind (fun m lvs w8 => ∃ (j : Nat) (i8 : DI), j ≤ l.length ∧ m = l.length - j ∧ lvs = [.int .i64 j] ∧ Dk A I w0 w8 D i8 { d1 with steps := d1.steps ++ l.take j, now := (l.take j).foldl FS.does d1.now } (k + j) L ∧ Xt (dkU D i3 L) w3 (dkU D i8 L) w8) ?_
    ⟨0, i3, Nat.zero_le _, rfl, rfl, by simpa using h3, Xt.refl⟩
  rintro m lvs w8 ⟨j, i8, hj, rfl, rfl, h8, x8⟩ R ih
  have hlv8 := hlv3.x x8
  refine ⟨_, rfl, fun _ => ifT_d (fun hc => ?_) fun hc => ?_⟩
  · have hjl : j < l.length := by omega
    have hxV := hl _ (List.getElem_mem hjl)
    have hx64 := hxV.1
    have hx69 := Stp.length hx64
    refine hlv8.at hjl fun bb oo cs hcs _ hN => ?_
    obtain ⟨rfl, _⟩ := hcs
    refine onM_s hN (h8.new' fun b13 w14 h14 x14 => ?_)
    simp only [onA, onP]
    refine gd_t (Stp.all _) (gd_t (by rw [hx69]; rfl) (h14.wr 0 rfl (by rw [zstep_length, hx69]; omega) fun w16 h16 x16 => ?_))
    rw [listPut_all (by rw [zstep_length, hx69])] at h16
    have h16 : Dk A I w0 w16 D i8 { d1 with steps := d1.steps ++ l.take j, now := (l.take j).foldl FS.does d1.now } (k + j) ((b13, .row l[j].cells) :: L) := h16
    refine onM_s (h16.ow.ld 0 rfl rfl) (onM_s (h16.ow.ldN 6 rfl (by rw [hx69]; rfl) (by rw [List.drop_zero, List.take_of_length_le (by omega)])) ?_)
    simp only []
    refine gd_t (Stp.all _) (gd_t (by rw [hx69]; rfl) (h16.new' fun b22 w23 h23 x23 => ?_))
    rw [listPut_all (by rw [zstep_length, hx69])] at h23
    refine ⟨h23.ow.ldN 7 rfl (by rw [hx69]; rfl) (by rw [List.drop_zero, List.take_of_length_le (by omega)]), h23.ow.ld 0 rfl rfl, ?_⟩
    obtain ⟨h24, x24, _, hb24⟩ := h23.drop
    have hb24 : Box w23 b22 l[j].cells := hb24
    have hput := h24.app (x := l[j]) hxV (hb24.rs hx69) (by omega) (K := fun v' w' => onP (.ptr D 0) fun b_26 o_27 => gd (okCell v') (onM (w'.putCells b_26 (o_27 + 5) [v']) fun w_28 => onP (.ptr D 0) fun b_29 o_30 => ∃ x_31 : AV, ∃ x_32 : AV, Sx.ldN 2 w_28 b_29 (o_30 + 3) = some (.agg [x_31, x_32]) ∧ onM (Sx.ldN 69 w_28 b13 0) fun x_33 => Cl Tryz.prog hk 64 [(.agg [x_31, x_32]), x_33] w_28 fun r_34 w_35 => r_34 = .tup [] ∧ R [(.int .i64 (wi ((j : Int) + 1)))] w_35)) fun sv2 w25 hok hp => ?_
    · exact hput
    refine gd_t hok (hp _ fun i28 w28 en ef ee h28 x28 => ?_)
    refine ⟨_, _, h28.ow.ldN 0 rfl rfl rfl, onM_s (h28.ow.ldN 6 rfl (by rw [hx69]; rfl) (by rw [List.drop_zero, List.take_of_length_le (by omega)])) ?_⟩
    have hFV := (h28.V.now l[j].file).1
    refine s64 (a := 3) (b := 4) (s := (l.take j).foldl FS.does d1.now) hh h28.ow rfl rfl (by decide) h28.f2 hx64 ⟨hxV.2.1, by have := hxV.2.2.1; omega⟩ (by have : (((l.take j).foldl FS.does d1.now).files l[j].file).length ≤ 4096 := hFV; omega) fun w35 es' st35 x35 hF35 => ⟨rfl, ?_⟩
    have htk : l.take (j + 1) = l.take j ++ [l[j]] := (List.take_append_getElem hjl).symm
    let i35 : DI := { i28 with e2 := es' }
    have x35 : Xt (dkU D i28 ((b13, .row l[j].cells) :: L)) w28 (dkU D i35 ((b13, .row l[j].cells) :: L)) w35 := x35
    have hV35 : Dsk.V { d1 with steps := d1.steps ++ l.take j ++ [l[j]], now := ((l.take j).foldl FS.does d1.now).does l[j] } (k + j + 1) := ⟨h28.V.steps, h28.V.sv, h28.V.safe, FS.V.does h28.V.now hxV, h28.V.last⟩
    have h35 : Dk A I w0 w35 D i35 { d1 with steps := d1.steps ++ l.take j ++ [l[j]], now := ((l.take j).foldl FS.does d1.now).does l[j] } (k + j + 1) ((b13, .row l[j].cells) :: L) :=
      ⟨st35, h28.st, h28.f1.x x35, hF35, hV35, h28.k27⟩
    obtain ⟨h36, x36, _⟩ := h35.drop
    refine ih (l.length - (j + 1)) (by omega) _ _ ⟨j + 1, i35, by omega, rfl, by rw [wi_eq (by omega) (by omega)]; rfl, ?_, ((((((x8.trans x14).trans x16).trans x23).trans x24).trans x28).trans x35).trans x36⟩
    rw [htk, List.foldl_append, ← List.append_assoc]
    exact h36
  · have : j = l.length := by omega
    subst this
    rw [List.take_length] at h8
    exact hK i8 w8 h8 (x3.trans x8)
def Tells (hk : Hook) (P : AW → Prop) (fv : AV) (so : Nat → Stp → Bool) : Prop :=
  ∀ (i : Nat) (x : Stp) (w : AW), i < 2 ^ 40 → x.data.length = 64 → Mem w → P w → ∀ K' : AV → AW → Prop, (∀ w'', Fr w.size w w'' → K' (.bool (so i x)) w'') → Cv Tryz.prog hk fv [.int .i64 (i : Int), .agg x.cells] w K'
theorem settleL_snoc (so : Nat → Stp → Bool) (x : Stp) : ∀ (l : List Stp) (i : Nat) (s : FS), settleL so i (l ++ [x]) s = if so (i + l.length) x then (((settleL so i l s).1).does x, (settleL so i l s).2) else ((settleL so i l s).1, (settleL so i l s).2 ++ [x])
  | [], i, s => by
    simp only [List.nil_append, settleL, List.length_nil, Nat.add_zero]
  | a :: l, i, s => by
    simp only [List.cons_append, settleL, List.length_cons, settleL_snoc so x l]
    rw [show i + 1 + l.length = i + (l.length + 1) by omega]
    split <;> split <;> simp [*]
theorem s68 {P : AW → Prop} {fv : AV} {so : Nat → Stp → Bool} (hh : HK hk) (h : Dk A I w0 w D i d k L) (hP : ∀ {w Lx}, Ow A I w0 w Lx → (∀ p ∈ L, p ∈ Lx) → P w) (hso : Tells hk P fv so)
    (hK : Od A I w0 w D i L (d.settle so) k K) : Cl Tryz.prog hk 68 [.ptr D 0, fv] w K := by
  apply in68 (hh.no _ _ _ (by decide) (by decide))
  unfold F68
  refine s95 hh h fun i3 w3 h3 x3 => ⟨_, rfl, ?_⟩
  unfold Dsk.settle at hK
  by_cases he : d.stopped.2 = 0
  rotate_left
  · simp only [ne_eq, he, not_false_eq_true, if_true] at hK
    exact ifT_nd (fun _ => hK i3 w3 h3 x3) fun h => absurd h he
  simp only [ne_eq, he, not_true_eq_false, if_false] at hK
  refine ifT_nd (fun h => absurd he h) fun _ => ?_
  generalize d.stopped.1 = d1 at *
  simp only [onP]
  refine onM_s (h3.ow.ld 0 rfl rfl) ⟨_, h3.rs.len, ?_⟩
  have hV3 := h3.V
  have hsl := hV3.steps
  have h27 := h3.k27
  obtain ⟨h3r, x3r⟩ := h3.room
  refine loopP_ind (fun m lvs w11 => ∃ (j : Nat) (left : AV) (lf : Nat) (lo : Ob) (i11 : DI), j ≤ d1.steps.length ∧ m = d1.steps.length - j ∧ lvs = [left, .int .i64 j] ∧ i11.sv = i3.sv ∧ Dk A I w0 w11 D i11 { d1 with safe := (settleL so 0 (d1.steps.take j) d1.safe).1 } k ((lf, lo) :: L)
      ∧ Sv 69 lo left (stpsC (settleL so 0 (d1.steps.take j) d1.safe).2) ∧ Xt (dkU D i3 L) w3 (dkU D i11 ((lf, lo) :: L)) w11) ?_
    ⟨0, .nilslice, 0, .none, i3, Nat.zero_le _, rfl, rfl, rfl, by simpa [settleL] using h3r, by rw [List.take_zero]; exact Sv.nil, x3r⟩
  rintro m lvs w11 ⟨j, left, lf, lo, i11, hj, rfl, rfl, esv, h11, hsv, x11⟩ R ih
  obtain ⟨vS, vL, vN⟩ := settleL_V (so := so) (i := 0) (l := d1.steps.take j) hV3.safe fun x hx => hV3.sv x (List.mem_of_mem_take hx)
  have vL64 : ∀ x ∈ (settleL so 0 (d1.steps.take j) d1.safe).2, x.data.length = 64 := fun x hx => (vL x hx).1
  have hgl := stpsC_length vL64
  have hvN : (settleL so 0 (d1.steps.take j) d1.safe).2.length ≤ k := by
    have : (d1.steps.take j).length ≤ d1.steps.length := by simp; omega
    omega
  refine ⟨_, _, rfl, fun _ => ifT_d (fun hc => ?_) fun hc => ?_⟩
  · have hjl : j < d1.steps.length := by omega
    have hxV := hV3.sv _ (List.getElem_mem hjl)
    have hx64 := hxV.1
    have hx69 := Stp.length hx64
    have hrs11 : Rs w11 69 d1.steps.length i3.sv (stpsC d1.steps) := by rw [← esv]; exact h11.rs
    refine hrs11.at (i := (j : Int)) (by omega) (by omega) fun bb oo _ hN => ?_
    have hN : ldN 69 w11 bb oo = some (.agg d1.steps[j].cells) := by rw [hN]; exact congrArg (fun t => some (AV.agg t)) (stpsC_at (fun x hx => (hV3.sv x hx).1) hjl)
    refine onM_s hN (h11.new' fun b17 w18 h18 x18 => ?_)
    simp only [onA]
    refine gd_t (Stp.all _) (gd_t (by rw [hx69]; rfl) (h18.wr 0 rfl (by rw [zstep_length, hx69]; omega) fun w20 h20 x20 => ?_))
    rw [listPut_all (by rw [zstep_length, hx69])] at h20
    have h20 : Dk A I w0 w20 D i11 { d1 with safe := (settleL so 0 (d1.steps.take j) d1.safe).1 } k ((b17, .row d1.steps[j].cells) :: (lf, lo) :: L) := h20
    have hld : ∀ {w i d}, Dk A I w0 w D i d k ((b17, .row d1.steps[j].cells) :: (lf, lo) :: L) → ldN 69 w b17 0 = some (.agg d1.steps[j].cells) := fun h => h.ow.ldN 6 rfl (by rw [hx69]; rfl) (by rw [List.drop_zero, List.take_of_length_le (by omega)])
    refine onM_s (hld h20) ?_
    refine hso j d1.steps[j] w20 (by omega) hx64 h20.ow.mem (hP h20.ow fun p hp => ?_) _ fun w23 f23 => ⟨_, rfl, ?_⟩
    · unfold dkL; simp [hp]
    obtain ⟨h23, x23⟩ := h20.fr f23
    have htk : d1.steps.take (j + 1) = d1.steps.take j ++ [d1.steps[j]] := (List.take_append_getElem hjl).symm
    have hsnoc := settleL_snoc so d1.steps[j] (d1.steps.take j) 0 d1.safe
    have hjt : 0 + (d1.steps.take j).length = j := by simp; omega
    rw [hjt, ← htk] at hsnoc
    have x23' := (x11.trans x18).trans (x20.trans x23)
    cases hs : so j d1.steps[j] with
    | true =>
      rw [hs, if_pos rfl] at hsnoc
      refine ifT_t ⟨_, _, h23.ow.ldN 0 rfl rfl rfl, onM_s (hld h23) ?_⟩
      have hFV := (h23.V.safe d1.steps[j].file).1
      refine s64 (a := 1) (b := 2) (s := (settleL so 0 (d1.steps.take j) d1.safe).1) hh h23.ow rfl rfl (by decide) h23.f1 hx64 ⟨hxV.2.1, by have := hxV.2.2.1; omega⟩ (by have : ((settleL so 0 (d1.steps.take j) d1.safe).1.files d1.steps[j].file).length ≤ 4096 := hFV; omega) fun w31 es' st31 x31 hF31 => ⟨rfl, ?_⟩
      let i31 : DI := { i11 with e1 := es' }
      have x31 : Xt (dkU D i11 ((b17, .row d1.steps[j].cells) :: (lf, lo) :: L)) w23 (dkU D i31 ((b17, .row d1.steps[j].cells) :: (lf, lo) :: L)) w31 := x31
      have h31 : Dk A I w0 w31 D i31 { d1 with safe := (settleL so 0 (d1.steps.take j) d1.safe).1.does d1.steps[j] } k ((b17, .row d1.steps[j].cells) :: (lf, lo) :: L) :=
        ⟨st31, h23.st, hF31, h23.f2.x x31, ⟨h23.V.steps, h23.V.sv, FS.V.does vS hxV, h23.V.now, h23.V.last⟩, h27⟩
      obtain ⟨h32, x32, _⟩ := h31.drop
      refine ih (d1.steps.length - (j + 1)) (by omega) _ _ ⟨j + 1, left, lf, lo, i31, by omega, rfl, by rw [wi_eq (by omega) (by omega)]; rfl, esv, by rw [hsnoc]; exact h32, by rw [hsnoc]; exact hsv, (x23'.trans x31).trans x32⟩
    | false =>
      rw [hs, if_neg (by simp)] at hsnoc
      refine ifT_f (onM_s (hld h23) ?_)
      refine gd_t (Stp.all _) (gd_t (by rw [hx69]; rfl) (h23.new' fun b34 w35 h35 x35 => ?_))
      rw [listPut_all (by rw [zstep_length, hx69])] at h35
      obtain ⟨h36, x36, _, hb36⟩ := h35.drop
      have hb36 : Box w35 b34 d1.steps[j].cells := hb36
      obtain ⟨h37, x37, _⟩ := h36.drop
      refine h37.accL 0 rfl hsv (by decide) (hb36.rs hx69) (by rw [hgl, Nat.mul_div_cancel _ (by decide)]; omega) (by rw [hgl, Nat.mul_div_cancel _ (by decide)]; omega) fun left' lf' lo' w37 h38 x38 hsv' => ?_
      have e : stpsC (settleL so 0 (d1.steps.take j) d1.safe).2 ++ d1.steps[j].cells = stpsC ((settleL so 0 (d1.steps.take j) d1.safe).2 ++ [d1.steps[j]]) := by rw [stpsC_append]; simp [stpsC]
      rw [e] at hsv'
      refine ih (d1.steps.length - (j + 1)) (by omega) _ _ ⟨j + 1, left', lf', lo', i11, by omega, rfl, by rw [wi_eq (by omega) (by omega)]; rfl, esv, by rw [hsnoc]; exact h38, by rw [hsnoc]; exact hsv', (((x23'.trans x35).trans x36).trans x37).trans x38⟩
  · have : j = d1.steps.length := by omega
    subst this
    rw [List.take_length] at h11 hsv vL hvN
    refine gd_t hsv.ok (h11.stepsTo hsv hvN vL fun i2 w40 h40 x40 => hK i2 w40 h40 ((x3.trans x11).trans x40))
theorem s124 {a : Byts} {n : Int} (hh : HK hk) (h : Dk A I w0 w D i d k L) (hkk : k + 1 < 2 ^ 27) (hK : Od A I w0 w D i L (d.cut a n) (k + 1) K) : Cl Tryz.prog hk 124 [.ptr D 0, .str a, .int .i64 n] w K := by
  apply in124 (hh.no _ _ _ (by decide) (by decide))
  unfold F124
  refine s59 hh h ⟨_, _, rfl, ?_⟩
  unfold Dsk.cut at hK
  cases hg : nget d.now.names a with
  | none => rw [hg] at hK; exact ifT_nd (fun _ => Od.now h hK (by omega) hkk) fun h => by cases h
  | some f =>
    rw [hg] at hK
    refine ifT_nd (fun h => absurd rfl h) fun _ => ?_
    simp only [Option.getD_some] at hK ⊢
    obtain ⟨v, hlk, hsl⟩ := h.f2.look f
    refine ifT_d (fun hn => ?_) fun hn => ?_
    · rw [if_pos (.inl hn)] at hK; exact Od.now h hK (by omega) hkk
    simp only [onP]
    refine onM_s (h.ow.ld 0 rfl rfl) (onM_s ((h.ow.look 4 rfl (h.f2.like _)).trans hlk) ⟨_, hsl.len', ifT_d (fun hlt => ?_) fun hlt => ?_⟩)
    · rw [if_pos (.inr hlt)] at hK; exact Od.now h hK (by omega) hkk
    rw [if_neg (by omega)] at hK
    have hnl := (h.V.now f).1
    refine h.new' fun b w1 h1 x1 => ?_
    obtain ⟨h2, x2, hA, hb⟩ := h1.drop
    have hst : stepC (.int .i64 2) (.int .i64 f) (.int .i64 n) z64 (.str []) (.str []) = Stp.cells ⟨2, f, n, zsec, [], []⟩ := by rw [z64_eq]; rfl
    have hb : Box w1 b (stepC (.int .i64 2) (.int .i64 f) (.int .i64 n) z64 (.str []) (.str [])) := hb
    rw [hst] at hb
    refine s61 (l := [⟨2, f, n, zsec, [], []⟩]) hh h2 (fun x hx => ?_) (by simpa using hkk) (Box.rd1 hb hA ⟨rfl, by simp [zsec]⟩) fun i' w' h' x' => ⟨_, rfl, hK i' w' h' ((x1.trans x2).trans x')⟩
    simp at hx; subst hx
    exact ⟨by simp [zsec], by show 0 ≤ n; omega, by show n ≤ 4096; omega, fun e => by cases e⟩
theorem s67 {x : Stp} {b6 : Nat} {f : Int} (hh : HK hk) (hm : Mem w) (hb : Box w b6 [.int .i64 f]) (hK : ∀ w', Fr w.size w w' → K (.bool (decide (x.file = f) && decide (x.what = 0))) w') : Cl Tryz.prog hk 67 [.agg x.cells, .ptr b6 0] w K := by
  apply in67 (hh.no _ _ _ (by decide) (by decide))
  unfold F67
  simp only [onA, onP]
  refine gd_t x.all (new_of hm fun w4 f4 b4 z4 => ⟨x.file, by rw [b4.ld]; rfl, f, by rw [(hb.fr f4 (hb.lt hm)).ld]; rfl, ?_⟩)
  have hK4 := hK w4 f4
  refine ifT_d (fun e => ⟨x.what, by rw [b4.ld]; rfl, ?_⟩) fun e => ?_
  · rw [decide_eq_true e, Bool.true_and] at hK4; exact hK4
  · rw [decide_eq_false e, Bool.false_and] at hK4; exact hK4
theorem s66 {l : List Stp} {v : AV} {b6 : Nat} {f : Int} (hh : HK hk) (hm : Mem w) (hl : ∀ x ∈ l, x.data.length = 64) (hll : l.length < 2 ^ 40) (hv : Rs w 69 l.length v (stpsC l)) (hb : Box w b6 [.int .i64 f]) (hK : ∀ w', Fr w.size w w' → K (.int .i64 (upto f l)) w') :
    Cl Tryz.prog hk 66 [v, .func 67 [] [.ptr b6 0]] w K := by
  apply in66 (hh.no _ _ _ (by decide) (by decide))
  unfold F66
  refine ⟨_, hv.len, ?_⟩
  refine loopP_ind (fun m lv w5 => ∃ j : Nat, j ≤ l.length ∧ m = l.length - j ∧ lv = [.int .i64 j] ∧ Fr w.size w w5 ∧ ∀ i (hi : i < l.length), i < j → (decide (l[i].file = f) && decide (l[i].what = 0)) = false) ?_ ⟨0, Nat.zero_le _, rfl, rfl, Fr.refl hm, fun i _ h => by omega⟩
  rintro m lv w5 ⟨j, hj, rfl, rfl, f5, hno⟩ R ih
  refine ⟨_, rfl, fun _ => ifT_d (fun hc => ?_) fun hc => ?_⟩
  · have hjl : j < l.length := by omega
    refine (hv.fr hm f5 (Nat.le_refl _)).at (i := (j : Int)) (by omega) (by omega) fun bb oo _ hN => ?_
    have hN : ldN 69 w5 bb oo = some (.agg l[j].cells) := by rw [hN]; exact congrArg (fun t => some (AV.agg t)) (stpsC_at hl hjl)
    refine onM_s hN ?_
    show Cl Tryz.prog hk 67 [.agg l[j].cells, .ptr b6 0] w5 _
    refine s67 hh f5.mem (hb.fr f5 (hb.lt hm)) fun w11 f11 => ⟨_, rfl, ?_⟩
    have f011 := f5.trans f11 f5.size
    cases hp : (decide (l[j].file = f) && decide (l[j].what = 0)) with
    | true =>
      refine ifT_t ?_
      have : upto f l = j := by
        unfold upto
        have : l.findIdx? (fun x => decide (x.file = f) && decide (x.what = 0)) = some j := by
          rw [List.findIdx?_eq_some_iff_getElem]
          exact ⟨hjl, hp, fun i hi => by rw [hno i (by omega) hi]; simp⟩
        rw [this]
      rw [← this]; exact hK w11 f011
    | false =>
      refine ifT_f (ih (l.length - (j + 1)) (by omega) _ _ ⟨j + 1, by omega, rfl, by rw [wi_eq (by omega) (by omega)]; rfl, f011, fun i hi hij => ?_⟩)
      by_cases h : i = j
      · subst h; exact hp
      · exact hno i hi (by omega)
  · have : upto f l = -1 := by
      unfold upto
      have : l.findIdx? (fun x => decide (x.file = f) && decide (x.what = 0)) = none := by
        rw [List.findIdx?_eq_none_iff]
        intro x hx
        obtain ⟨i, hi, rfl⟩ := List.getElem_of_mem hx
        exact hno i hi (by omega)
      rw [this]
    rw [this] at hK
    exact hK w5 f5
theorem s37 {a : Byts} (hh : HK hk) (h : Dk A I w0 w D i d k L) (hK : Od A I w0 w D i L (d.sync a) k K) : Cl Tryz.prog hk 37 [.ptr D 0, .str a] w K := by
  apply in37 (hh.no _ _ _ (by decide) (by decide))
  unfold F37
  refine s59 hh h ⟨_, _, rfl, h.new' fun b6 w7 h7 x7 => h7.wr 0 rfl (by simp) fun w8 h8 x8 => ?_⟩
  have h8 : Dk A I w0 w8 D i d k ((b6, .row [.int .i64 ((nget d.now.names a).getD 0)]) :: L) := h8
  unfold Dsk.sync at hK
  cases hg : nget d.now.names a with
  | none =>
    rw [hg] at hK
    obtain ⟨h9, x9, _⟩ := h8.drop
    exact ifT_nd (fun _ => Od.now h9 (hK.x ((x7.trans x8).trans x9)) (Nat.le_refl _) h.k27) fun h => by cases h
  | some f =>
    rw [hg] at hK h8
    refine ifT_nd (fun h => absurd rfl h) fun _ => ?_
    simp only [Option.getD_some] at hK h8 ⊢
    simp only [onP]
    refine onM_s (h8.ow.ld 0 rfl rfl) ?_
    have hbx : ∀ {w : AW} {Lx : Obs}, Ow A I w0 w Lx → (b6, Ob.row [.int .i64 f]) ∈ Lx → Box w b6 [.int .i64 f] := fun st hp => (st.box _ hp rfl).1
    refine s66 hh h8.ow.mem h8.sd (by have := h.V.steps; have := h.k27; omega) h8.rs (hbx h8.ow (by unfold dkL; simp)) fun w13 f13 => ⟨_, rfl, ?_⟩
    obtain ⟨h13, x13⟩ := h8.fr f13
    refine h13.new' fun b15 w16 h16 x16 => h16.wr 0 rfl (by simp) fun w17 h17 x17 => ?_
    have h17 : Dk A I w0 w17 D i d k ((b15, .row [.int .i64 (upto f d.steps)]) :: (b6, .row [.int .i64 f]) :: L) := h17
    refine s68 (P := fun w => Box w b6 [.int .i64 f] ∧ Box w b15 [.int .i64 (upto f d.steps)]) (so := fun i x => if x.what = 1 ∨ x.what = 2 then decide (x.file = f) else decide ((i : Int) ≤ upto f d.steps)) hh h17 (fun st hp => ⟨(st.box _ (hp (b6, .row [.int .i64 f]) (by simp)) rfl).1, (st.box _ (hp (b15, .row [.int .i64 (upto f d.steps)]) (by simp)) rfl).1⟩) ?_ fun i' w' h' x' => ⟨_, rfl, ?_⟩
    · intro j x w' hj hx hm' ⟨q8, q17⟩ K' hK'
      show Cl Tryz.prog hk 69 [.int .i64 (j : Int), .agg x.cells, .ptr b6 0, .ptr b15 0] w' K'
      apply in69 (hh.no _ _ _ (by decide) (by decide))
      unfold F69
      simp only [onA, onP]
      refine gd_t x.all (new_of hm' fun w6 f6 b6' z6 => ⟨x.what, by rw [b6'.ld]; rfl, ?_⟩)
      have hK6 : K' (.bool (if x.what = 1 ∨ x.what = 2 then decide (x.file = f) else decide ((j : Int) ≤ upto f d.steps))) w6 := hK' w6 f6
      have q8' := q8.fr f6 (q8.lt hm')
      have q17' := q17.fr f6 (q17.lt hm')
      refine ifT_d (fun e1 => ⟨x.file, by rw [b6'.ld]; rfl, f, by rw [q8'.ld]; rfl, ?_⟩) fun e1 => ⟨x.what, by rw [b6'.ld]; rfl, ifT_d (fun e2 => ⟨x.file, by rw [b6'.ld]; rfl, f, by rw [q8'.ld]; rfl, ?_⟩) fun e2 => ⟨_, by rw [q17'.ld]; rfl, ?_⟩⟩
      · rw [if_pos (.inl e1)] at hK6; exact hK6
      · rw [if_pos (.inr e2)] at hK6; exact hK6
      · rw [if_neg (by simp [e1, e2])] at hK6; exact hK6
    · obtain ⟨h18, x18, _⟩ := h'.drop
      obtain ⟨h19, x19, _⟩ := h18.drop
      exact hK i' w' h19 (((((((x7.trans x8).trans x13).trans x16).trans x17).trans x').trans x18).trans x19)
theorem s77 {a : Byts} (hh : HK hk) (h : Dk A I w0 w D i d k L) (hK : ∀ v w', Fr w.size w w' → Ga rU (fz A (dkU D i L)) w w' v (d.read a).1 → K (.tup [v, .int .i64 (d.read a).2]) w') : Cl Tryz.prog hk 77 [.ptr D 0, .str a] w K := by
  apply in77 (hh.no _ _ _ (by decide) (by decide))
  unfold F77
  refine s59 hh h ⟨_, _, rfl, ?_⟩
  have hm := h.ow.mem
  unfold Dsk.read at hK
  cases hg : nget d.now.names a with
  | none => rw [hg] at hK; exact ifT_nd (fun _ => hK .nilslice w (Fr.refl hm) Ga.nil) fun h => by cases h
  | some f =>
    rw [hg] at hK
    refine ifT_nd (fun h => absurd rfl h) fun _ => ?_
    simp only [Option.getD_some, onP] at hK ⊢
    refine ⟨d.down, h.ow.ld 0 rfl rfl, ?_⟩
    cases hd : d.down with
    | true => rw [hd, if_pos rfl] at hK; exact ifT_t (hK .nilslice w (Fr.refl hm) Ga.nil)
    | false =>
      rw [hd] at hK
      simp only [Bool.false_eq_true, if_false] at hK
      obtain ⟨v, hlk, hsl⟩ := h.f2.look f
      refine ifT_f (onM_s (h.ow.ld 0 rfl rfl) (onM_s ((h.ow.look 4 rfl (h.f2.like _)).trans hlk) ⟨_, hsl.len', ?_⟩))
      have hlen := (h.V.now f).1
      have hl64 := (h.V.now f).2
      have pv : Pv (fz A (dkU D i L)) w := h.ow.P
      generalize d.now.files f = l at *
      refine loopP_ind (fun m lv w16 => ∃ (i1 : Nat) (out : AV), i1 ≤ l.length ∧ m = l.length - i1 ∧ lv = [out, .int .i64 i1] ∧ Ow (fz A (dkU D i L)) [] w w16 [] ∧ Xw [] w [] w16 ∧ Ga rU (fz (fz A (dkU D i L)) []) w w16 out (l.take i1).flatten) ?_ ⟨0, .nilslice, Nat.zero_le _, rfl, rfl, pv.st, Xw.refl, by rw [List.take_zero]; exact Ga.nil⟩
      rintro m lv w16 ⟨i1, out, hi, rfl, rfl, so16, x16, hg16⟩ R ih
      have hs16 := hsl.inn.y x16
      refine ⟨_, _, rfl, fun _ => ifT_d (fun hc => ?_) fun hc => ?_⟩
      · have hil : i1 < l.length := by omega
        have hx64 : (l[i1]).length = 64 := hl64 _ (List.getElem_mem hil)
        refine hs16.at hil fun bb oo cs hcs _ hN => ?_
        obtain ⟨rfl, _⟩ := hcs
        refine onM_s hN (so16.new' fun b22 w23 so23 x23 => ?_)
        simp only [onA]
        have hcl : (cellsOfBytes l[i1]).length = 64 := by rw [cellsOfBytes_length, hx64]
        have hz64 : z64.length = 64 := by rw [z64_eq, cellsOfBytes_length]; simp [zsec]
        refine gd_t (ok_bytes _) (gd_t (by rw [hcl]; rfl) (so23.put 0 rfl (by rw [hcl, hz64]; omega) fun w25 so25 x25 => ?_))
        rw [listPut_all (by rw [hz64, hcl])] at so25
        have so25 : Ow (fz A (dkU D i L)) [] w w25 [(b22, .row (cellsOfBytes l[i1]))] := so25
        refine onM_s (v := .slice b22 (0 + 0 * 1) (64 - 0) (64 - 0) none) rfl ?_
        obtain ⟨so26, x26, hA26, hb26⟩ := so25.drop
        have hb26 : Box w25 b22 (cellsOfBytes l[i1]) := hb26
        have hrx : (rL rU).rd (fz (fz A (dkU D i L)) []) w25 [.slice b22 0 64 64 none] l[i1] := Box.sl hb26 hA26 hx64.symm (Chk.bytes.2 rfl)
        have hg25 : Ga rU (fz (fz A (dkU D i L)) []) w w25 out (l.take i1).flatten := ((Ga.x x23 so16 hg16).x' x25 so23).x' x26 so25
        have htl : (l.take i1).flatten.length ≤ 4096 * 64 := by
          rw [List.length_flatten]
          have : ∀ (l : List Byts), (∀ s ∈ l, s.length = 64) → (l.map List.length).sum = l.length * 64 := fun l h => by
            induction l with
            | nil => rfl
            | cons a l ih => rw [List.map_cons, List.sum_cons, ih fun s hs => h s (List.mem_cons_of_mem _ hs), h a List.mem_cons_self, List.length_cons]; omega
          rw [this _ fun s hs => hl64 s (List.mem_of_mem_take hs)]
          have : (l.take i1).length ≤ 4096 := by simp; omega
          omega
        refine Ow.app (r := rU) (bytes := 1) so26 hg25 hrx (by decide) so26.new (by omega) (by omega) fun out' w28 so28 x28 hg28 => ?_
        refine ih (l.length - (i1 + 1)) (by omega) _ _ ⟨i1 + 1, out', by omega, rfl, by rw [wi_eq (by omega) (by omega)]; rfl, so28, (((x16.trans x23.xw).trans x25.xw).trans x26.xw).trans x28, ?_⟩
        have e : l.take (i1 + 1) = l.take i1 ++ [l[i1]] := (List.take_append_getElem hil).symm
        rw [e, List.flatten_append, show [l[i1]].flatten = l[i1] by simp]
        exact hg28
      · have : i1 = l.length := by omega
        subst this
        rw [List.take_length] at hg16
        exact hK out w16 so16.fr hg16.out
end
end Go.Proofs.YthpjoogmmjikmaaGreatDoor
