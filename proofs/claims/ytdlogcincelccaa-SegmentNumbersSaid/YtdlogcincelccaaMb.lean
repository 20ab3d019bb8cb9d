/-
 What the disk's functions do, over memory, with its own blocks (the second part).
 No condition beyond those that each theorem names.
-/
import Derived.Test.YtdlogcincelccaaMa
import Derived.Test.YtdlogcincelccaaSxr
import Derived.Test.YtdlogcincelccaaSxy
import Derived.Test.YtdlogcincelccaaSxu
set_option linter.unusedSimpArgs false
open Go.Sx
set_option linter.unusedVariables false
namespace Go.Proofs.Ytdlogcincelccaa
section
variable {hk : Hook} {A B : Nat → Prop} {I : List Nat} {w0 w w' : AW} {D : Nat} {i i' : DI} {d d' : Dsk} {k k' : Nat} {L L' : Obs} {K : AV → AW → Prop}
theorem s34 {l : List Stp} {lv : AV} (hh : HK hk) (h : Dk A I w0 w D i d k L) (hl : ∀ x ∈ l, x.V) (hkk : k + l.length < 2 ^ 27) (hlv : (rL rStp).rd (fz A (dkU D i L)) w [lv] l)
  (hK : Od A I w0 w D i L (d.more l) (k + l.length) K) : Cl Try.prog hk 34 [.ptr D 0, lv] w K := by
 apply in34 (hh.no _ _ _ (by decide) (by decide))
 unfold F34
 refine s55 hh h fun i3 w3 h3 x3 => ⟨_, rfl, ?_⟩
 unfold Dsk.more at hK
 by_cases he : d.stopped.2 = 0
 rotate_left
 ·simp only [ne_eq, he, not_false_eq_true, if_true] at hK
  exact ifT_nd (fun _ => hK i3 w3 (h3.le (by omega) hkk) x3) fun h => absurd h he
 simp only [ne_eq, he, not_true_eq_false, if_false] at hK
 refine ifT_nd (fun h => absurd he h) fun _ => ?_
 have hlv3 := hlv.x x3
 refine ⟨_, hlv3.len', ?_⟩
 generalize d.stopped.1 = d1 at *
 refine loopP_ind (fun m lvs w8 => ∃ (j : Nat) (i8 : DI), j ≤ l.length ∧ m = l.length - j ∧ lvs = [.int .i64 j] ∧ Dk A I w0 w8 D i8 { d1 with steps := d1.steps ++ l.take j, now := (l.take j).foldl FS.does d1.now } (k + j) L ∧ Xt (dkU D i3 L) w3 (dkU D i8 L) w8) ?_
  ⟨0, i3, Nat.zero_le _, rfl, rfl, by simpa using h3, Xt.refl⟩
 rintro m lvs w8 ⟨j, i8, hj, rfl, rfl, h8, x8⟩ R ih
 have hlv8 := hlv3.x x8
 refine ⟨_, rfl, fun _ => ifT_d (fun hc => ?_) fun hc => ?_⟩
 ·have hjl : j < l.length := by omega
  have hxV := hl _ (List.getElem_mem hjl)
  have hx64 := hxV.1
  have hx69 := Stp.length hx64
  refine hlv8.at hjl fun bb oo cs hcs _ hN => ?_
  obtain ⟨rfl, _⟩ := hcs
  refine onM_s hN (h8.new' fun b13 w14 h14 x14 => ?_)
  simp only [onA, onP]
  refine gd_t (Stp.all _) (gd_t (by rw [hx69]; rfl) (h14.wr 0 rfl (by rw [zstep_length, hx69]; omega) fun w16 h16 x16 => ?_))
  rw [listPut_all (by rw [zstep_length, hx69])] at h16
  have h16 : Dk A I w0 w16 D i8 { d1 with steps := d1.steps ++ l.take j, now := (l.take j).foldl FS.does d1.now } (k + j) ((b13, .row l[j].cells) :: L) := h16
  refine onM_s (h16.ow.ld 0 rfl rfl) (onM_s (h16.ow.ldN 6 rfl (by rw [hx69]; rfl) (by rw [List.drop_zero, List.take_of_length_le (by omega)])) ?_)
  simp only []
  refine gd_t (Stp.all _) (gd_t (by rw [hx69]; rfl) (h16.new' fun b22 w23 h23 x23 => ?_))
  rw [listPut_all (by rw [zstep_length, hx69])] at h23
  refine ⟨h23.ow.ldN 7 rfl (by rw [hx69]; rfl) (by rw [List.drop_zero, List.take_of_length_le (by omega)]), h23.ow.ld 0 rfl rfl, ?_⟩
  obtain ⟨h24, x24, _, hb24⟩ := h23.drop
  have hb24 : Box w23 b22 l[j].cells := hb24
  have hput := h24.app (x := l[j]) hxV (hb24.rs hx69) (by omega) (K := fun v' w' => onP (.ptr D 0) fun b_26 o_27 => gd (okCell v') (onM (w'.putCells b_26 (o_27 + 5) [v']) fun w_28 => onP (.ptr D 0) fun b_29 o_30 => ∃ x_31 : AV, ∃ x_32 : AV, Sx.ldN 2 w_28 b_29 (o_30 + 3) = some (.agg [x_31, x_32]) ∧ onM (Sx.ldN 69 w_28 b13 0) fun x_33 => Cl Try.prog hk 46 [(.agg [x_31, x_32]), x_33] w_28 fun r_34 w_35 => r_34 = .tup [] ∧ R [(.int .i64 (wi ((j : Int) + 1)))] w_35)) fun sv2 w25 hok hp => ?_
  ·exact hput
  refine gd_t hok (hp _ fun i28 w28 en ef ee h28 x28 => ?_)
  refine ⟨_, _, h28.ow.ldN 0 rfl rfl rfl, onM_s (h28.ow.ldN 6 rfl (by rw [hx69]; rfl) (by rw [List.drop_zero, List.take_of_length_le (by omega)])) ?_⟩
  have hFV := (h28.V.now l[j].file).1
  refine s46 (a := 3) (b := 4) (s := (l.take j).foldl FS.does d1.now) hh h28.ow rfl rfl (by decide) h28.f2 hx64 ⟨hxV.2.1, by have := hxV.2.2.1; omega⟩ (by have : (((l.take j).foldl FS.does d1.now).files l[j].file).length ≤ 4096 := hFV; omega) fun w35 es' st35 x35 hF35 => ⟨rfl, ?_⟩
  have htk : l.take (j + 1) = l.take j ++ [l[j]] := (List.take_append_getElem hjl).symm
  let i35 : DI := { i28 with e2 := es' }
  have x35 : Xt (dkU D i28 ((b13, .row l[j].cells) :: L)) w28 (dkU D i35 ((b13, .row l[j].cells) :: L)) w35 := x35
  have hV35 : Dsk.V { d1 with steps := d1.steps ++ l.take j ++ [l[j]], now := ((l.take j).foldl FS.does d1.now).does l[j] } (k + j + 1) := ⟨h28.V.steps, h28.V.sv, h28.V.safe, FS.V.does h28.V.now hxV, h28.V.last⟩
  have h35 : Dk A I w0 w35 D i35 { d1 with steps := d1.steps ++ l.take j ++ [l[j]], now := ((l.take j).foldl FS.does d1.now).does l[j] } (k + j + 1) ((b13, .row l[j].cells) :: L) :=
   ⟨st35, h28.st, h28.f1.x x35, hF35, hV35, h28.k27⟩
  obtain ⟨h36, x36, _⟩ := h35.drop
  refine ih (l.length - (j + 1)) (by omega) _ _ ⟨j + 1, i35, by omega, rfl, by rw [wi_eq (by omega) (by omega)]; rfl, ?_, ((((((x8.trans x14).trans x16).trans x23).trans x24).trans x28).trans x35).trans x36⟩
  rw [htk, List.foldl_append, ← List.append_assoc]
  exact h36
 ·have : j = l.length := by omega
  subst this
  rw [List.take_length] at h8
  exact hK i8 w8 h8 (x3.trans x8)
def Tells (hk : Hook) (P : AW → Prop) (fv : AV) (so : Nat → Stp → Bool) : Prop :=
 ∀ (i : Nat) (x : Stp) (w : AW), i < 2 ^ 40 → x.data.length = 64 → Mem w → P w → ∀ K' : AV → AW → Prop, (∀ w'', Fr w.size w w'' → K' (.bool (so i x)) w'') → Cv Try.prog hk fv [.int .i64 (i : Int), .agg x.cells] w K'
theorem settleL_snoc (so : Nat → Stp → Bool) (x : Stp) : ∀ (l : List Stp) (i : Nat) (s : FS), settleL so i (l ++ [x]) s = if so (i + l.length) x then (((settleL so i l s).1).does x, (settleL so i l s).2) else ((settleL so i l s).1, (settleL so i l s).2 ++ [x])
  | [], i, s => by
    simp only [List.nil_append, settleL, List.length_nil, Nat.add_zero]
  | a :: l, i, s => by
    simp only [List.cons_append, settleL, List.length_cons, settleL_snoc so x l]
    rw [show i + 1 + l.length = i + (l.length + 1) by omega]
    split <;> split <;> simp [*]
theorem s62 {P : AW → Prop} {fv : AV} {so : Nat → Stp → Bool} (hh : HK hk) (h : Dk A I w0 w D i d k L) (hP : ∀ {w Lx}, Ow A I w0 w Lx → (∀ p ∈ L, p ∈ Lx) → P w) (hso : Tells hk P fv so)
    (hK : Od A I w0 w D i L (d.settle so) k K) : Cl Try.prog hk 62 [.ptr D 0, fv] w K := by
  apply in62 (hh.no _ _ _ (by decide) (by decide))
  unfold F62
  refine s55 hh h fun i3 w3 h3 x3 => ⟨_, rfl, ?_⟩
  unfold Dsk.settle at hK
  by_cases he : d.stopped.2 = 0
  rotate_left
  · simp only [ne_eq, he, not_false_eq_true, if_true] at hK
    exact ifT_nd (fun _ => hK i3 w3 h3 x3) fun h => absurd h he
  simp only [ne_eq, he, not_true_eq_false, if_false] at hK
  refine ifT_nd (fun h => absurd he h) fun _ => ?_
  generalize d.stopped.1 = d1 at *
  simp only [onP]
  refine onM_s (h3.ow.ld 0 rfl rfl) ⟨_, h3.rs.len, ?_⟩
  have hV3 := h3.V
  have hsl := hV3.steps
  have h27 := h3.k27
  obtain ⟨h3r, x3r⟩ := h3.room
  refine loopP_ind (fun m lvs w11 => ∃ (j : Nat) (left : AV) (lf : Nat) (lo : Ob) (i11 : DI), j ≤ d1.steps.length ∧ m = d1.steps.length - j ∧ lvs = [left, .int .i64 j] ∧ i11.sv = i3.sv ∧ Dk A I w0 w11 D i11 { d1 with safe := (settleL so 0 (d1.steps.take j) d1.safe).1 } k ((lf, lo) :: L)
      ∧ Sv 69 lo left (stpsC (settleL so 0 (d1.steps.take j) d1.safe).2) ∧ Xt (dkU D i3 L) w3 (dkU D i11 ((lf, lo) :: L)) w11) ?_
    ⟨0, .nilslice, 0, .none, i3, Nat.zero_le _, rfl, rfl, rfl, by simpa [settleL] using h3r, by rw [List.take_zero]; exact Sv.nil, x3r⟩
  rintro m lvs w11 ⟨j, left, lf, lo, i11, hj, rfl, rfl, esv, h11, hsv, x11⟩ R ih
  obtain ⟨vS, vL, vN⟩ := settleL_V (so := so) (i := 0) (l := d1.steps.take j) hV3.safe fun x hx => hV3.sv x (List.mem_of_mem_take hx)
  have vL64 : ∀ x ∈ (settleL so 0 (d1.steps.take j) d1.safe).2, x.data.length = 64 := fun x hx => (vL x hx).1
  have hgl := stpsC_length vL64
  have hvN : (settleL so 0 (d1.steps.take j) d1.safe).2.length ≤ k := by
    have : (d1.steps.take j).length ≤ d1.steps.length := by simp; omega
    omega
  refine ⟨_, _, rfl, fun _ => ifT_d (fun hc => ?_) fun hc => ?_⟩
  · have hjl : j < d1.steps.length := by omega
    have hxV := hV3.sv _ (List.getElem_mem hjl)
    have hx64 := hxV.1
    have hx69 := Stp.length hx64
    have hrs11 : Rs w11 69 d1.steps.length i3.sv (stpsC d1.steps) := by rw [← esv]; exact h11.rs
    refine hrs11.at (i := (j : Int)) (by omega) (by omega) fun bb oo _ hN => ?_
    have hN : ldN 69 w11 bb oo = some (.agg d1.steps[j].cells) := by rw [hN]; exact congrArg (fun t => some (AV.agg t)) (stpsC_at (fun x hx => (hV3.sv x hx).1) hjl)
    refine onM_s hN (h11.new' fun b17 w18 h18 x18 => ?_)
    simp only [onA]
    refine gd_t (Stp.all _) (gd_t (by rw [hx69]; rfl) (h18.wr 0 rfl (by rw [zstep_length, hx69]; omega) fun w20 h20 x20 => ?_))
    rw [listPut_all (by rw [zstep_length, hx69])] at h20
    have h20 : Dk A I w0 w20 D i11 { d1 with safe := (settleL so 0 (d1.steps.take j) d1.safe).1 } k ((b17, .row d1.steps[j].cells) :: (lf, lo) :: L) := h20
    have hld : ∀ {w i d}, Dk A I w0 w D i d k ((b17, .row d1.steps[j].cells) :: (lf, lo) :: L) → ldN 69 w b17 0 = some (.agg d1.steps[j].cells) := fun h => h.ow.ldN 6 rfl (by rw [hx69]; rfl) (by rw [List.drop_zero, List.take_of_length_le (by omega)])
    refine onM_s (hld h20) ?_
    refine hso j d1.steps[j] w20 (by omega) hx64 h20.ow.mem (hP h20.ow fun p hp => ?_) _ fun w23 f23 => ⟨_, rfl, ?_⟩
    · unfold dkL; simp [hp]
    obtain ⟨h23, x23⟩ := h20.fr f23
    have htk : d1.steps.take (j + 1) = d1.steps.take j ++ [d1.steps[j]] := (List.take_append_getElem hjl).symm
    have hsnoc := settleL_snoc so d1.steps[j] (d1.steps.take j) 0 d1.safe
    have hjt : 0 + (d1.steps.take j).length = j := by simp; omega
    rw [hjt, ← htk] at hsnoc
    have x23' := (x11.trans x18).trans (x20.trans x23)
    cases hs : so j d1.steps[j] with
    | true =>
      rw [hs, if_pos rfl] at hsnoc
      refine ifT_t ⟨_, _, h23.ow.ldN 0 rfl rfl rfl, onM_s (hld h23) ?_⟩
      have hFV := (h23.V.safe d1.steps[j].file).1
      refine s46 (a := 1) (b := 2) (s := (settleL so 0 (d1.steps.take j) d1.safe).1) hh h23.ow rfl rfl (by decide) h23.f1 hx64 ⟨hxV.2.1, by have := hxV.2.2.1; omega⟩ (by have : ((settleL so 0 (d1.steps.take j) d1.safe).1.files d1.steps[j].file).length ≤ 4096 := hFV; omega) fun w31 es' st31 x31 hF31 => ⟨rfl, ?_⟩
      let i31 : DI := { i11 with e1 := es' }
      have x31 : Xt (dkU D i11 ((b17, .row d1.steps[j].cells) :: (lf, lo) :: L)) w23 (dkU D i31 ((b17, .row d1.steps[j].cells) :: (lf, lo) :: L)) w31 := x31
      have h31 : Dk A I w0 w31 D i31 { d1 with safe := (settleL so 0 (d1.steps.take j) d1.safe).1.does d1.steps[j] } k ((b17, .row d1.steps[j].cells) :: (lf, lo) :: L) :=
        ⟨st31, h23.st, hF31, h23.f2.x x31, ⟨h23.V.steps, h23.V.sv, FS.V.does vS hxV, h23.V.now, h23.V.last⟩, h27⟩
      obtain ⟨h32, x32, _⟩ := h31.drop
      refine ih (d1.steps.length - (j + 1)) (by omega) _ _ ⟨j + 1, left, lf, lo, i31, by omega, rfl, by rw [wi_eq (by omega) (by omega)]; rfl, esv, by rw [hsnoc]; exact h32, by rw [hsnoc]; exact hsv, (x23'.trans x31).trans x32⟩
    | false =>
      rw [hs, if_neg (by simp)] at hsnoc
      refine ifT_f (onM_s (hld h23) ?_)
      refine gd_t (Stp.all _) (gd_t (by rw [hx69]; rfl) (h23.new' fun b34 w35 h35 x35 => ?_))
      rw [listPut_all (by rw [zstep_length, hx69])] at h35
      obtain ⟨h36, x36, _, hb36⟩ := h35.drop
      have hb36 : Box w35 b34 d1.steps[j].cells := hb36
      obtain ⟨h37, x37, _⟩ := h36.drop
      refine h37.accL 0 rfl hsv (by decide) (hb36.rs hx69) (by rw [hgl, Nat.mul_div_cancel _ (by decide)]; omega) (by rw [hgl, Nat.mul_div_cancel _ (by decide)]; omega) fun left' lf' lo' w37 h38 x38 hsv' => ?_
      have e : stpsC (settleL so 0 (d1.steps.take j) d1.safe).2 ++ d1.steps[j].cells = stpsC ((settleL so 0 (d1.steps.take j) d1.safe).2 ++ [d1.steps[j]]) := by rw [stpsC_append]; simp [stpsC]
      rw [e] at hsv'
      refine ih (d1.steps.length - (j + 1)) (by omega) _ _ ⟨j + 1, left', lf', lo', i11, by omega, rfl, by rw [wi_eq (by omega) (by omega)]; rfl, esv, by rw [hsnoc]; exact h38, by rw [hsnoc]; exact hsv', (((x23'.trans x35).trans x36).trans x37).trans x38⟩
  · have : j = d1.steps.length := by omega
    subst this
    rw [List.take_length] at h11 hsv vL hvN
    refine gd_t hsv.ok (h11.stepsTo hsv hvN vL fun i2 w40 h40 x40 => hK i2 w40 h40 ((x3.trans x11).trans x40))
theorem s56 {a : Byts} {n : Int} (hh : HK hk) (h : Dk A I w0 w D i d k L) (hkk : k + 1 < 2 ^ 27) (hK : Od A I w0 w D i L (d.cut a n) (k + 1) K) : Cl Try.prog hk 56 [.ptr D 0, .str a, .int .i64 n] w K := by
  apply in56 (hh.no _ _ _ (by decide) (by decide))
  unfold F56
  refine s32 hh h ⟨_, _, rfl, ?_⟩
  unfold Dsk.cut at hK
  cases hg : nget d.now.names a with
  | none => rw [hg] at hK; exact ifT_nd (fun _ => Od.now h hK (by omega) hkk) fun h => by cases h
  | some f =>
    rw [hg] at hK
    refine ifT_nd (fun h => absurd rfl h) fun _ => ?_
    simp only [Option.getD_some] at hK ⊢
    obtain ⟨v, hlk, hsl⟩ := h.f2.look f
    refine ifT_d (fun hn => ?_) fun hn => ?_
    · rw [if_pos (.inl hn)] at hK; exact Od.now h hK (by omega) hkk
    simp only [onP]
    refine onM_s (h.ow.ld 0 rfl rfl) (onM_s ((h.ow.look 4 rfl (h.f2.like _)).trans hlk) ⟨_, hsl.len', ifT_d (fun hlt => ?_) fun hlt => ?_⟩)
    · rw [if_pos (.inr hlt)] at hK; exact Od.now h hK (by omega) hkk
    rw [if_neg (by omega)] at hK
    have hnl := (h.V.now f).1
    refine h.new' fun b w1 h1 x1 => ?_
    obtain ⟨h2, x2, hA, hb⟩ := h1.drop
    have hst : stepC (.int .i64 2) (.int .i64 f) (.int .i64 n) z64 (.str []) (.str []) = Stp.cells ⟨2, f, n, zsec, [], []⟩ := by rw [z64_eq]; rfl
    have hb : Box w1 b (stepC (.int .i64 2) (.int .i64 f) (.int .i64 n) z64 (.str []) (.str [])) := hb
    rw [hst] at hb
    refine s34 (l := [⟨2, f, n, zsec, [], []⟩]) hh h2 (fun x hx => ?_) (by simpa using hkk) (Box.rd1 hb hA ⟨rfl, by simp [zsec]⟩) fun i' w' h' x' => ⟨_, rfl, hK i' w' h' ((x1.trans x2).trans x')⟩
    simp at hx; subst hx
    exact ⟨by simp [zsec], by show 0 ≤ n; omega, by show n ≤ 4096; omega, fun e => by cases e⟩
theorem s61 {x : Stp} {b6 : Nat} {f : Int} (hh : HK hk) (hm : Mem w) (hb : Box w b6 [.int .i64 f]) (hK : ∀ w', Fr w.size w w' → K (.bool (decide (x.file = f) && decide (x.what = 0))) w') : Cl Try.prog hk 61 [.agg x.cells, .ptr b6 0] w K := by
 apply in61 (hh.no _ _ _ (by decide) (by decide))
 unfold F61
 simp only [onA, onP]
 refine gd_t x.all (new_of hm fun w4 f4 b4 z4 => ⟨x.file, by rw [b4.ld]; rfl, f, by rw [(hb.fr f4 (hb.lt hm)).ld]; rfl, ?_⟩)
 have hK4 := hK w4 f4
 refine ifT_d (fun e => ⟨x.what, by rw [b4.ld]; rfl, ?_⟩) fun e => ?_
 ·rw [decide_eq_true e, Bool.true_and] at hK4; exact hK4
 ·rw [decide_eq_false e, Bool.false_and] at hK4; exact hK4
theorem s60 {l : List Stp} {v : AV} {b6 : Nat} {f : Int} (hh : HK hk) (hm : Mem w) (hl : ∀ x ∈ l, x.data.length = 64) (hll : l.length < 2 ^ 40) (hv : Rs w 69 l.length v (stpsC l)) (hb : Box w b6 [.int .i64 f]) (hK : ∀ w', Fr w.size w w' → K (.int .i64 (upto f l)) w') :
    Cl Try.prog hk 60 [v, .func 61 [] [.ptr b6 0]] w K := by
  apply in60 (hh.no _ _ _ (by decide) (by decide))
  unfold F60
  refine ⟨_, hv.len, ?_⟩
  refine loopP_ind (fun m lv w5 => ∃ j : Nat, j ≤ l.length ∧ m = l.length - j ∧ lv = [.int .i64 j] ∧ Fr w.size w w5 ∧ ∀ i (hi : i < l.length), i < j → (decide (l[i].file = f) && decide (l[i].what = 0)) = false) ?_ ⟨0, Nat.zero_le _, rfl, rfl, Fr.refl hm, fun i _ h => by omega⟩
  rintro m lv w5 ⟨j, hj, rfl, rfl, f5, hno⟩ R ih
  refine ⟨_, rfl, fun _ => ifT_d (fun hc => ?_) fun hc => ?_⟩
  · have hjl : j < l.length := by omega
    refine (hv.fr hm f5 (Nat.le_refl _)).at (i := (j : Int)) (by omega) (by omega) fun bb oo _ hN => ?_
    have hN : ldN 69 w5 bb oo = some (.agg l[j].cells) := by rw [hN]; exact congrArg (fun t => some (AV.agg t)) (stpsC_at hl hjl)
    refine onM_s hN ?_
    show Cl Try.prog hk 61 [.agg l[j].cells, .ptr b6 0] w5 _
    refine s61 hh f5.mem (hb.fr f5 (hb.lt hm)) fun w11 f11 => ⟨_, rfl, ?_⟩
    have f011 := f5.trans f11 f5.size
    cases hp : (decide (l[j].file = f) && decide (l[j].what = 0)) with
    | true =>
      refine ifT_t ?_
      have : upto f l = j := by
        unfold upto
        have : l.findIdx? (fun x => decide (x.file = f) && decide (x.what = 0)) = some j := by
          rw [List.findIdx?_eq_some_iff_getElem]
          exact ⟨hjl, hp, fun i hi => by rw [hno i (by omega) hi]; simp⟩
        rw [this]
      rw [← this]; exact hK w11 f011
    | false =>
      refine ifT_f (ih (l.length - (j + 1)) (by omega) _ _ ⟨j + 1, by omega, rfl, by rw [wi_eq (by omega) (by omega)]; rfl, f011, fun i hi hij => ?_⟩)
      by_cases h : i = j
      · subst h; exact hp
      · exact hno i hi (by omega)
  · have : upto f l = -1 := by
      unfold upto
      have : l.findIdx? (fun x => decide (x.file = f) && decide (x.what = 0)) = none := by
        rw [List.findIdx?_eq_none_iff]
        intro x hx
        obtain ⟨i, hi, rfl⟩ := List.getElem_of_mem hx
        exact hno i hi (by omega)
      rw [this]
    rw [this] at hK
    exact hK w5 f5
theorem s44 {a : Byts} (hh : HK hk) (h : Dk A I w0 w D i d k L) (hK : Od A I w0 w D i L (d.sync a) k K) : Cl Try.prog hk 44 [.ptr D 0, .str a] w K := by
  apply in44 (hh.no _ _ _ (by decide) (by decide))
  unfold F44
  refine s32 hh h ⟨_, _, rfl, h.new' fun b6 w7 h7 x7 => h7.wr 0 rfl (by simp) fun w8 h8 x8 => ?_⟩
  have h8 : Dk A I w0 w8 D i d k ((b6, .row [.int .i64 ((nget d.now.names a).getD 0)]) :: L) := h8
  unfold Dsk.sync at hK
  cases hg : nget d.now.names a with
  | none =>
    rw [hg] at hK
    obtain ⟨h9, x9, _⟩ := h8.drop
    exact ifT_nd (fun _ => Od.now h9 (hK.x ((x7.trans x8).trans x9)) (Nat.le_refl _) h.k27) fun h => by cases h
  | some f =>
    rw [hg] at hK h8
    refine ifT_nd (fun h => absurd rfl h) fun _ => ?_
    simp only [Option.getD_some] at hK h8 ⊢
    simp only [onP]
    refine onM_s (h8.ow.ld 0 rfl rfl) ?_
    have hbx : ∀ {w : AW} {Lx : Obs}, Ow A I w0 w Lx → (b6, Ob.row [.int .i64 f]) ∈ Lx → Box w b6 [.int .i64 f] := fun st hp => (st.box _ hp rfl).1
    refine s60 hh h8.ow.mem h8.sd (by have := h.V.steps; have := h.k27; omega) h8.rs (hbx h8.ow (by unfold dkL; simp)) fun w13 f13 => ⟨_, rfl, ?_⟩
    obtain ⟨h13, x13⟩ := h8.fr f13
    refine h13.new' fun b15 w16 h16 x16 => h16.wr 0 rfl (by simp) fun w17 h17 x17 => ?_
    have h17 : Dk A I w0 w17 D i d k ((b15, .row [.int .i64 (upto f d.steps)]) :: (b6, .row [.int .i64 f]) :: L) := h17
    refine s62 (P := fun w => Box w b6 [.int .i64 f] ∧ Box w b15 [.int .i64 (upto f d.steps)]) (so := fun i x => if x.what = 1 ∨ x.what = 2 then decide (x.file = f) else decide ((i : Int) ≤ upto f d.steps)) hh h17 (fun st hp => ⟨(st.box _ (hp (b6, .row [.int .i64 f]) (by simp)) rfl).1, (st.box _ (hp (b15, .row [.int .i64 (upto f d.steps)]) (by simp)) rfl).1⟩) ?_ fun i' w' h' x' => ⟨_, rfl, ?_⟩
    · intro j x w' hj hx hm' ⟨q8, q17⟩ K' hK'
      show Cl Try.prog hk 63 [.int .i64 (j : Int), .agg x.cells, .ptr b6 0, .ptr b15 0] w' K'
      apply in63 (hh.no _ _ _ (by decide) (by decide))
      unfold F63
      simp only [onA, onP]
      refine gd_t x.all (new_of hm' fun w6 f6 b6' z6 => ⟨x.what, by rw [b6'.ld]; rfl, ?_⟩)
      have hK6 : K' (.bool (if x.what = 1 ∨ x.what = 2 then decide (x.file = f) else decide ((j : Int) ≤ upto f d.steps))) w6 := hK' w6 f6
      have q8' := q8.fr f6 (q8.lt hm')
      have q17' := q17.fr f6 (q17.lt hm')
      refine ifT_d (fun e1 => ⟨x.file, by rw [b6'.ld]; rfl, f, by rw [q8'.ld]; rfl, ?_⟩) fun e1 => ⟨x.what, by rw [b6'.ld]; rfl, ifT_d (fun e2 => ⟨x.file, by rw [b6'.ld]; rfl, f, by rw [q8'.ld]; rfl, ?_⟩) fun e2 => ⟨_, by rw [q17'.ld]; rfl, ?_⟩⟩
      · rw [if_pos (.inl e1)] at hK6; exact hK6
      · rw [if_pos (.inr e2)] at hK6; exact hK6
      · rw [if_neg (by simp [e1, e2])] at hK6; exact hK6
    · obtain ⟨h18, x18, _⟩ := h'.drop
      obtain ⟨h19, x19, _⟩ := h18.drop
      exact hK i' w' h19 (((((((x7.trans x8).trans x13).trans x16).trans x17).trans x').trans x18).trans x19)
theorem s27 {n : Int} (hh : HK hk) (h : Dk A I w0 w D i d k L) (hK : Od A I w0 w D i L (if n < 0 then (d, 2) else ({ d with arm := wi (imin n 4611686018427387904 + 1) }, 0)) k K) : Cl Try.prog hk 27 [.ptr D 0, .int .i64 n] w K := by
 apply in27 (hh.no _ _ _ (by decide) (by decide))
 unfold F27
 refine s45 hh (h.ow.ld 0 rfl rfl) ⟨false, rfl, ifT_f (ifT_d (fun h0 => ?_) fun h0 => ?_)⟩
 ·rw [if_pos h0] at hK; exact Od.now h hK (Nat.le_refl _) h.k27
 ·rw [if_neg h0] at hK
  simp only [onP, be]
  refine s48 hh (h.put (d' := { d with arm := wi (imin n 4611686018427387904 + 1) }) (by simp) rfl rfl rfl rfl ⟨h.V.steps, h.V.sv, h.V.safe, h.V.now, h.V.last⟩ h.k27 fun w' h' x' => ⟨rfl, hK i w' h' x'⟩)
theorem s26 {a : Byts} (hh : HK hk) (h : Dk A I w0 w D i d k L) (hK : ∀ v w', Fr w.size w w' → Ga rU (fz A (dkU D i L)) w w' v (d.read a).1 → K (.tup [v, .int .i64 (d.read a).2]) w') : Cl Try.prog hk 26 [.ptr D 0, .str a] w K := by
  apply in26 (hh.no _ _ _ (by decide) (by decide))
  unfold F26
  refine s32 hh h ⟨_, _, rfl, ?_⟩
  have hm := h.ow.mem
  unfold Dsk.read at hK
  cases hg : nget d.now.names a with
  | none => rw [hg] at hK; exact ifT_nd (fun _ => hK .nilslice w (Fr.refl hm) Ga.nil) fun h => by cases h
  | some f =>
    rw [hg] at hK
    refine ifT_nd (fun h => absurd rfl h) fun _ => ?_
    simp only [Option.getD_some, onP] at hK ⊢
    refine ⟨d.down, h.ow.ld 0 rfl rfl, ?_⟩
    cases hd : d.down with
    | true => rw [hd, if_pos rfl] at hK; exact ifT_t (hK .nilslice w (Fr.refl hm) Ga.nil)
    | false =>
      rw [hd] at hK
      simp only [Bool.false_eq_true, if_false] at hK
      obtain ⟨v, hlk, hsl⟩ := h.f2.look f
      refine ifT_f (onM_s (h.ow.ld 0 rfl rfl) (onM_s ((h.ow.look 4 rfl (h.f2.like _)).trans hlk) ⟨_, hsl.len', ?_⟩))
      have hlen := (h.V.now f).1
      have hl64 := (h.V.now f).2
      have pv : Pv (fz A (dkU D i L)) w := h.ow.P
      generalize d.now.files f = l at *
      refine loopP_ind (fun m lv w16 => ∃ (i1 : Nat) (out : AV), i1 ≤ l.length ∧ m = l.length - i1 ∧ lv = [out, .int .i64 i1] ∧ Ow (fz A (dkU D i L)) [] w w16 [] ∧ Xw [] w [] w16 ∧ Ga rU (fz (fz A (dkU D i L)) []) w w16 out (l.take i1).flatten) ?_ ⟨0, .nilslice, Nat.zero_le _, rfl, rfl, pv.st, Xw.refl, by rw [List.take_zero]; exact Ga.nil⟩
      rintro m lv w16 ⟨i1, out, hi, rfl, rfl, so16, x16, hg16⟩ R ih
      have hs16 := hsl.inn.y x16
      refine ⟨_, _, rfl, fun _ => ifT_d (fun hc => ?_) fun hc => ?_⟩
      · have hil : i1 < l.length := by omega
        have hx64 : (l[i1]).length = 64 := hl64 _ (List.getElem_mem hil)
        refine hs16.at hil fun bb oo cs hcs _ hN => ?_
        obtain ⟨rfl, _⟩ := hcs
        refine onM_s hN (so16.new' fun b22 w23 so23 x23 => ?_)
        simp only [onA]
        have hcl : (cellsOfBytes l[i1]).length = 64 := by rw [cellsOfBytes_length, hx64]
        have hz64 : z64.length = 64 := by rw [z64_eq, cellsOfBytes_length]; simp [zsec]
        refine gd_t (ok_bytes _) (gd_t (by rw [hcl]; rfl) (so23.put 0 rfl (by rw [hcl, hz64]; omega) fun w25 so25 x25 => ?_))
        rw [listPut_all (by rw [hz64, hcl])] at so25
        have so25 : Ow (fz A (dkU D i L)) [] w w25 [(b22, .row (cellsOfBytes l[i1]))] := so25
        refine onM_s (v := .slice b22 (0 + 0 * 1) (64 - 0) (64 - 0) none) rfl ?_
        obtain ⟨so26, x26, hA26, hb26⟩ := so25.drop
        have hb26 : Box w25 b22 (cellsOfBytes l[i1]) := hb26
        have hrx : (rL rU).rd (fz (fz A (dkU D i L)) []) w25 [.slice b22 0 64 64 none] l[i1] := Box.sl hb26 hA26 hx64.symm (Chk.bytes.2 rfl)
        have hg25 : Ga rU (fz (fz A (dkU D i L)) []) w w25 out (l.take i1).flatten := ((Ga.x x23 so16 hg16).x' x25 so23).x' x26 so25
        have htl : (l.take i1).flatten.length ≤ 4096 * 64 := by
          rw [List.length_flatten]
          have : ∀ (l : List Byts), (∀ s ∈ l, s.length = 64) → (l.map List.length).sum = l.length * 64 := fun l h => by
            induction l with
            | nil => rfl
            | cons a l ih => rw [List.map_cons, List.sum_cons, ih fun s hs => h s (List.mem_cons_of_mem _ hs), h a List.mem_cons_self, List.length_cons]; omega
          rw [this _ fun s hs => hl64 s (List.mem_of_mem_take hs)]
          have : (l.take i1).length ≤ 4096 := by simp; omega
          omega
        refine Ow.app (r := rU) (bytes := 1) so26 hg25 hrx (by decide) so26.new (by omega) (by omega) fun out' w28 so28 x28 hg28 => ?_
        refine ih (l.length - (i1 + 1)) (by omega) _ _ ⟨i1 + 1, out', by omega, rfl, by rw [wi_eq (by omega) (by omega)]; rfl, so28, (((x16.trans x23.xw).trans x25.xw).trans x26.xw).trans x28, ?_⟩
        have e : l.take (i1 + 1) = l.take i1 ++ [l[i1]] := (List.take_append_getElem hil).symm
        rw [e, List.flatten_append, show [l[i1]].flatten = l[i1] by simp]
        exact hg28
      · have : i1 = l.length := by omega
        subst this
        rw [List.take_length] at hg16
        exact hK out w16 so16.fr hg16.out
end
end Go.Proofs.Ytdlogcincelccaa
/-
 Put and New of the disk, over memory, with its own blocks.
 No condition beyond those that each theorem names.
-/
set_option linter.unusedSimpArgs false
open Go.Sx
set_option linter.unusedVariables false
namespace Go.Proofs.Ytdlogcincelccaa
theorem listPut_step (a b c n t : AV) {cs : List AV} (h : cs.length = 64) : listPut (stepC a b c z64 n t) 3 cs = stepC a b c cs n t := by
 have hz : z64.length = 64 := by rw [z64_eq, cellsOfBytes_length]; simp [zsec]
 show listPut (a :: b :: c :: (z64 ++ [n, t])) 3 cs = a :: b :: c :: (cs ++ [n, t])
 simp only [listPut, List.take_succ_cons, List.take_zero, List.cons_append, List.nil_append]
 rw [h, show 3 + 64 = 64 + 1 + 1 + 1 by omega]
 simp only [List.drop_succ_cons]
 rw [List.drop_left' hz]
section
variable {hk : Hook} {A B : Nat → Prop} {I : List Nat} {w0 w w' : AW} {D : Nat} {i i' : DI} {d d' : Dsk} {k k' : Nat} {L L' : Obs} {K : AV → AW → Prop}
theorem s31 (hh : HK hk) (st : Ow A I w0 w L) (hK : ∀ m1 m2 w', Ow A I w0 w' ((m2, .map []) :: (m1, .map []) :: L) → Xt (ids L) w (m2 :: m1 :: ids L) w' → K (.agg [.map m1, .map m2]) w') : Cl Try.prog hk 31 [] w K := by
 apply in31 (hh.no _ _ _ (by decide) (by decide))
 unfold F31
 refine st.new' fun b w1 st1 x1 => st1.newMap' fun m1 w3 st3 x3 => st3.newMap' fun m2 w5 st5 x5 => st5.put 2 rfl (by simp) fun w6 st6 x6 => ⟨_, _, st6.ldN 2 rfl rfl rfl, ?_⟩
 obtain ⟨st7, x7⟩ := st6.front 2 rfl
 obtain ⟨st8, x8, _⟩ := st7.drop
 exact hK m1 m2 w6 st8 (((((x1.trans x3).trans x5).trans x6).trans x7).trans x8)
theorem s8 (hh : HK hk) (st : Ow A I w0 w L) (hK : ∀ D i w', Dk A I w0 w' D i Dsk.none 0 L → Xt (ids L) w (dkU D i L) w' → K (.ptr D 0) w') : Cl Try.prog hk 8 [] w K := by
 apply in8 (hh.no _ _ _ (by decide) (by decide))
 unfold F8
 refine s31 hh st fun n1 f1 w1 st1 x1 => ⟨_, _, rfl, ?_⟩
 refine s31 hh st1 fun n2 f2 w5 st5 x5 => ⟨_, _, rfl, gd_t rfl (st5.new' fun D w9 st9 x9 => ?_)⟩
 obtain ⟨st11, x11⟩ := st9.room.front 2 rfl
 obtain ⟨st12, x12⟩ := st11.front 3 rfl
 obtain ⟨st13, x13⟩ := st12.front 4 rfl
 obtain ⟨st14, x14⟩ := st13.front 5 rfl
 obtain ⟨st15, x15⟩ := st14.front 5 rfl
 let i : DI := ⟨n1, f1, n2, f2, 0, .none, .nilslice, [], []⟩
 have xx : Xt (ids L) w (dkU D i L) w9 := (((((((x1.trans x5).trans x9).trans x11).trans x12).trans x13).trans x14).trans x15)
 exact hK D i w9 ⟨st15, Sv.nil, FEn.none, FEn.none, Dsk.V.none, by decide⟩ xx
theorem s9 {a data : Byts} {at_ : Int} {dv : AV} (hh : HK hk) (h : Dk A I w0 w D i d k L) (hkk : k + 2 < 2 ^ 27) (hd : RsB w dv data) (hK : Od A I w0 w D i L (d.put a at_ data) (k + 2) K) : Cl Try.prog hk 9 [.ptr D 0, .str a, .int .i64 at_, dv] w K := by
  apply in9 (hh.no _ _ _ (by decide) (by decide))
  unfold F9
  refine s32 hh h ⟨_, _, rfl, ?_⟩
  unfold Dsk.put at hK
  have hnowl := fun f => (h.V.now f).1
  -- the steps
  refine join_of (fun lv w9 => lv = [] ∧ w9 = w ∧ data.length = 64 ∧ 0 ≤ at_ ∧ at_ < 4096 ∧ Od A I w0 w D i L (match nget d.now.names a with
      | some f => d.more [⟨1, f, at_, data, [], []⟩]
      | Option.none => if (d.more [⟨0, d.last + 1, 0, zsec, a, []⟩, ⟨1, d.last + 1, at_, data, [], []⟩]).2 ≠ 0 then d.more [⟨0, d.last + 1, 0, zsec, a, []⟩, ⟨1, d.last + 1, at_, data, [], []⟩] else ({ (d.more [⟨0, d.last + 1, 0, zsec, a, []⟩, ⟨1, d.last + 1, at_, data, [], []⟩]).1 with last := d.last + 1 }, 0)) (k + 2) K) ?_ ?_
  · rintro lv w9 ⟨rfl, rfl, hdl, ha0, ha1, hK⟩
    refine ⟨rfl, fun _ => ?_⟩
    have hs2p : ∃ b o, s2p 64 dv = some (.ptr b o) ∧ ldN 64 w9 b o = some (.agg (cellsOfBytes data)) := by
      rcases hd with ⟨rfl, h2, _⟩ | ⟨b, o, cap, ex, all, rfl, h2, h3, h4⟩
      · omega
      · refine ⟨b, o, ?_, ?_⟩
        · simp only [s2p, hdl]; rfl
        · simp only [ldN, h2, Option.bind_some]
          rw [takeCells_some (by omega), h4, hdl]; rfl
    obtain ⟨b, o, h1, h2⟩ := hs2p
    rw [atP_iff]
    refine ⟨b, o, h1, onM_s h2 ?_⟩
    simp only [onA, onP]
    have hcl : (cellsOfBytes data).length = 64 := by rw [cellsOfBytes_length, hdl]
    refine gd_t (by rw [hcl]; rfl) (h.new' fun b15 w16 h16 x16 => ?_)
    rw [listPut_step _ _ _ _ _ hcl]
    have hst : stepC (.int .i64 1) (.int .i64 ((nget d.now.names a).getD 0)) (.int .i64 at_) (cellsOfBytes data) (.str []) (.str []) = Stp.cells ⟨1, (nget d.now.names a).getD 0, at_, data, [], []⟩ := rfl
    rw [hst]
    have h69 : (Stp.cells ⟨1, (nget d.now.names a).getD 0, at_, data, [], []⟩).length = 69 := Stp.length hdl
    refine gd_t (Stp.all _) (gd_t (by rw [h69]; rfl) (h16.wr 0 rfl (by rw [zstep_length, h69]; omega) fun w17 h17 x17 => ?_))
    rw [listPut_all (by rw [zstep_length, h69])] at h17
    have h17 : Dk A I w0 w17 D i d k ((b15, .row (Stp.cells ⟨1, (nget d.now.names a).getD 0, at_, data, [], []⟩)) :: L) := h17
    cases hg : nget d.now.names a with
    | some f =>
      rw [hg] at hK h17 h69
      refine ifT_d (fun _ => ?_) fun h => absurd rfl h
      simp only [Option.getD_some] at hK h17 h69 ⊢
      refine onM_s (h17.ow.ldN 6 rfl (by rw [h69]; rfl) (by rw [List.drop_zero, List.take_of_length_le (by omega)])) ?_
      simp only []
      refine gd_t (Stp.all _) (gd_t (by rw [h69]; rfl) (h17.new' fun b20 w21 h21 x21 => ?_))
      rw [listPut_all (by rw [zstep_length, h69])] at h21
      obtain ⟨h22, x22, hA22, hb22⟩ := h21.drop
      obtain ⟨h23, x23, _⟩ := h22.drop
      have hb22 : Box w21 b20 (Stp.cells ⟨1, f, at_, data, [], []⟩) := hb22
      have hone : (rL rStp).rd (fz A (dkU D i L)) w21 [.slice b20 0 1 1 none] [⟨1, f, at_, data, [], []⟩] := (Box.rd1 (r := rStp) (y := ⟨1, f, at_, data, [], []⟩) hb22 hA22 ⟨rfl, hdl⟩).x x23
      refine s34 (l := [⟨1, f, at_, data, [], []⟩]) hh h23 (fun x hx => ?_) (by simp; omega) hone fun i' w' h' x' => ⟨_, rfl, hK i' w' (h'.le (by simp) hkk) (((((x16.trans x17).trans x21).trans x22).trans x23).trans x')⟩
      simp at hx; subst hx
      exact ⟨hdl, ha0, by show at_ ≤ 4096; omega, fun _ => ha1⟩
    | none =>
      rw [hg] at hK h17 h69
      refine ifT_d (fun h => by cases h) fun _ => ?_
      simp only [Option.getD_none] at hK h17 h69 ⊢
      have hlast := h.V.last
      refine ⟨d.last, h17.ow.ld 0 rfl rfl, ?_⟩
      rw [wi_eq (show -9223372036854775808 ≤ d.last + 1 by omega) (by omega)]
      have hput : listPut (Stp.cells ⟨1, 0, at_, data, [], []⟩) (0 + 1) [.int .i64 (d.last + 1)] = Stp.cells ⟨1, d.last + 1, at_, data, [], []⟩ := rfl
      have h69' : (Stp.cells ⟨1, d.last + 1, at_, data, [], []⟩).length = 69 := Stp.length hdl
      refine h17.wr 0 rfl (by rw [h69]; simp) fun w28 h28 x28 => ?_
      rw [hput] at h28
      have h28 : Dk A I w0 w28 D i d k ((b15, .row (Stp.cells ⟨1, d.last + 1, at_, data, [], []⟩)) :: L) := h28
      refine ⟨d.last + 1, h28.ow.ld 6 rfl rfl, onM_s (h28.ow.ldN 6 rfl (by rw [h69']; rfl) (by rw [List.drop_zero, List.take_of_length_le (by omega)])) ?_⟩
      simp only []
      refine gd_t (Stp.all _) (gd_t (by rw [h69']; rfl) (h28.new' fun b32 w33 h33 x33 => ?_))
      have e33 : listPut (stepC (.int .i64 0) (.int .i64 (d.last + 1)) (.int .i64 0) z64 (.str a) (.str []) ++ stepC (.int .i64 0) (.int .i64 0) (.int .i64 0) z64 (.str []) (.str [])) 69 (Stp.cells ⟨1, d.last + 1, at_, data, [], []⟩) = stpsC [⟨0, d.last + 1, 0, zsec, a, []⟩, ⟨1, d.last + 1, at_, data, [], []⟩] := by
        have e1 : stepC (.int .i64 0) (.int .i64 (d.last + 1)) (.int .i64 0) z64 (.str a) (.str []) = Stp.cells ⟨0, d.last + 1, 0, zsec, a, []⟩ := by rw [z64_eq]; rfl
        have l1 : (Stp.cells ⟨0, d.last + 1, 0, zsec, a, []⟩).length = 69 := Stp.length (by simp [zsec])
        rw [e1]
        simp only [listPut]
        rw [List.take_left' l1, List.drop_eq_nil_of_le (by rw [List.length_append, l1, zstep_length, h69']; omega), List.append_nil]
        simp [stpsC]
      rw [e33] at h33
      obtain ⟨h34, x34, hA34, hb34⟩ := h33.drop
      obtain ⟨h35, x35, _⟩ := h34.drop
      have hb34 : Box w33 b32 (stpsC [⟨0, d.last + 1, 0, zsec, a, []⟩, ⟨1, d.last + 1, at_, data, [], []⟩]) := hb34
      have htwo : (rL rStp).rd (fz A (dkU D i L)) w33 [.slice b32 0 2 2 none] [⟨0, d.last + 1, 0, zsec, a, []⟩, ⟨1, d.last + 1, at_, data, [], []⟩] :=
        (Box.sl (r := rStp) (n := 2) (cap := 2) hb34 hA34 rfl (hcap := Nat.le_refl 2) (hc := Chk.stps.2 ⟨rfl, fun x hx => by simp at hx; rcases hx with rfl | rfl <;> simp [zsec, hdl]⟩)).x x35
      have x335 := (((((x16.trans x17).trans x28).trans x33).trans x34).trans x35)
      refine s34 (l := [⟨0, d.last + 1, 0, zsec, a, []⟩, ⟨1, d.last + 1, at_, data, [], []⟩]) hh h35 (fun x hx => ?_) (by simp; omega) htwo fun i' w' h' x' => ⟨_, rfl, ?_⟩
      · simp at hx
        rcases hx with rfl | rfl
        · exact ⟨by simp [zsec], Int.le_refl 0, by show (0 : Int) ≤ 4096; omega, fun e => by cases e⟩
        · exact ⟨hdl, ha0, by show at_ ≤ 4096; omega, fun _ => ha1⟩
      · have xall := x335.trans x'
        by_cases he : (d.more [⟨0, d.last + 1, 0, zsec, a, []⟩, ⟨1, d.last + 1, at_, data, [], []⟩]).2 = 0
        · rw [if_neg (by simpa using he)] at hK
          refine ifT_nd (fun h => absurd he h) fun _ => ?_
          have hml : (d.more [⟨0, d.last + 1, 0, zsec, a, []⟩, ⟨1, d.last + 1, at_, data, [], []⟩]).1.last = d.last := by
            unfold Dsk.more
            have := (stopped_same d).2.2.2.1
            split <;> exact this
          refine ⟨(d.more [⟨0, d.last + 1, 0, zsec, a, []⟩, ⟨1, d.last + 1, at_, data, [], []⟩]).1.last, h'.ow.ld 0 rfl rfl, ?_⟩
          rw [hml, wi_eq (show -9223372036854775808 ≤ d.last + 1 by omega) (by omega)]
          refine h'.put (d' := { (d.more [⟨0, d.last + 1, 0, zsec, a, []⟩, ⟨1, d.last + 1, at_, data, [], []⟩]).1 with last := d.last + 1 }) (by simp) rfl rfl rfl rfl ⟨h'.V.steps, h'.V.sv, h'.V.safe, h'.V.now, by simp only [List.length_cons, List.length_nil]; omega⟩ h'.k27 fun w42 h42 x42 => ?_
          exact hK i' w42 h42 (xall.trans x42)
        · rw [if_pos (by simpa using he)] at hK
          exact ifT_nd (fun _ => hK i' w' h' xall) fun h => absurd h he
  · intro J hJ
    have same : ∀ {e : Int}, Od A I w0 w D i L (d, e) (k + 2) K → K (.int .i64 e) w := fun {e} hK => Od.now h hK (by omega) hkk
    refine ifT_d (fun e => by split at e <;> cases e) fun _ => ?_
    -- what is wrong
    refine join_of (fun lv w44 => w44 = w ∧ ∃ b : Bool, lv = [.bool b] ∧ (b = true ↔ ((!named a) = true ∨ data.length ≠ 64 ∨ at_ < 0 ∨ ((d.now.files ((nget d.now.names a).getD 0)).length : Int) < at_ ∨ (nget d.now.names a = Option.none ∧ 0 < at_)))) ?_ ?_
    · rintro lv w44 ⟨rfl, b, rfl, hb⟩
      refine ⟨b, rfl, fun _ => ?_⟩
      cases b with
      | true => rw [if_pos (hb.1 rfl)] at hK; exact ifT_t (same hK)
      | false =>
        have hb' := mt hb.2 (by simp)
        rw [if_neg hb'] at hK
        have m1 : data.length = 64 := Classical.byContradiction fun h => hb' (.inr (.inl h))
        have m2 : 0 ≤ at_ := Classical.byContradiction fun h => hb' (.inr (.inr (.inl (by omega))))
        have m3 : at_ ≤ ((d.now.files ((nget d.now.names a).getD 0)).length : Int) := Classical.byContradiction fun h => hb' (.inr (.inr (.inr (.inl (by omega)))))
        have hl := hnowl ((nget d.now.names a).getD 0)
        refine ifT_f (ifT_d (fun e => ?_) fun e => ?_)
        · rw [if_pos (.inl e)] at hK; exact same hK
        cases hg : nget d.now.names a with
        | some f =>
          rw [hg] at hK
          rw [if_neg (by simp [e])] at hK
          refine ifT_d (fun h => by cases h) fun _ => hJ _ _ ⟨rfl, rfl, m1, m2, by omega, by rw [hg]; exact hK⟩
        | none =>
          rw [hg] at hK
          refine ifT_d (fun _ => ?_) fun h => absurd rfl h
          simp only [onP]
          have hnl : (nEnts d.now.names).length = d.now.names.length := by simp [nEnts]
          refine onM_s (h.ow.ld 0 rfl rfl) ⟨_, h.ow.len 3 rfl, ifT_d (fun h2 => ?_) fun h2 => ?_⟩
          · rw [if_pos (.inr ⟨rfl, by omega⟩)] at hK; exact same hK
          · rw [if_neg (by intro h; rcases h with h | ⟨_, h⟩; exact e h; omega)] at hK
            exact hJ _ _ ⟨rfl, rfl, m1, m2, by omega, by rw [hg]; exact hK⟩
    · intro J2 hJ2
      refine s33 hh ⟨_, rfl, ?_⟩
      cases hn : named a with
      | false => exact ifT_t (hJ2 _ _ ⟨rfl, true, rfl, fun _ => .inl (by rw [hn]; rfl), fun _ => rfl⟩)
      | true =>
        refine ifT_f ⟨_, hd.len, ifT_nd (fun h64 => hJ2 _ _ ⟨rfl, true, rfl, fun _ => .inr (.inl fun e => h64 (by omega)), fun _ => rfl⟩) fun h64 => ?_⟩
        have h64' : data.length = 64 := by omega
        refine ifT_d (fun hneg => hJ2 _ _ ⟨rfl, true, rfl, fun _ => .inr (.inr (.inl hneg)), fun _ => rfl⟩) fun hneg => ?_
        simp only [onP]
        obtain ⟨v, hlk, hsl⟩ := h.f2.look ((nget d.now.names a).getD 0)
        refine onM_s (h.ow.ld 0 rfl rfl) (onM_s ((h.ow.look 4 rfl (h.f2.like _)).trans hlk) ⟨_, hsl.len', ifT_d (fun hlt => hJ2 _ _ ⟨rfl, true, rfl, fun _ => .inr (.inr (.inr (.inl hlt))), fun _ => rfl⟩) fun hlt => ?_⟩)
        have hcl : ((!named a) = true ∨ data.length ≠ 64 ∨ at_ < 0 ∨ ((d.now.files ((nget d.now.names a).getD 0)).length : Int) < at_ ∨ (nget d.now.names a = Option.none ∧ 0 < at_)) ↔ (nget d.now.names a = Option.none ∧ 0 < at_) := by
          refine ⟨fun h => ?_, fun h => .inr (.inr (.inr (.inr h)))⟩
          rcases h with h | h | h | h | h
          · rw [hn] at h; cases h
          · exact absurd h64' h
          · exact absurd h hneg
          · exact absurd h hlt
          · exact h
        by_cases hs : (nget d.now.names a).isSome = true
        · rw [if_pos hs]
          refine ifT_d (fun h => by cases h) fun _ => hJ2 _ _ ⟨rfl, false, rfl, fun h => (by cases h), fun h => ?_⟩
          have := (hcl.1 h).1
          rw [this] at hs; cases hs
        · rw [if_neg hs]
          have hno : nget d.now.names a = Option.none := by
            cases hg : nget d.now.names a with
            | none => rfl
            | some f => rw [hg] at hs; exact absurd rfl hs
          refine ifT_d (fun _ => hJ2 _ _ ⟨rfl, _, rfl, fun h => ?_, fun h => ?_⟩) fun h => absurd rfl h
          · exact hcl.2 ⟨hno, of_decide_eq_true h⟩
          · exact decide_eq_true (hcl.1 h).2
end
end Go.Proofs.Ytdlogcincelccaa
/-
 What a law of chapter 7 asks of the disk besides, over memory.
 No condition beyond those that each theorem names.
-/
set_option linter.unusedSimpArgs false
open Go.Sx
set_option linter.unusedVariables false
namespace Go.Proofs.Ytdlogcincelccaa
theorem repl_eq (n : Nat) (z : AV) : repl n [z] = List.replicate n z := by
 induction n with
 | zero => rfl
 | succ n ih => show [z] ++ repl n [z] = _; rw [ih]; rfl
theorem boxB {w : AW} {b n : Nat} {s : Byts} {ex : Option Nat} (h : Box w b (cellsOfBytes s)) (hl : s.length = n) (hx : ex = none ∨ ex = some 1 := by simp) : RsB w (.slice b 0 n n ex) s := by
 subst hl
 exact BS.rs (n0 := 0) (.inr ⟨b, ex, rfl, hx, Nat.zero_le _, h⟩)
section
variable {hk : Hook} {A B : Nat → Prop} {I : List Nat} {w0 w w' : AW} {D : Nat} {i i' : DI} {d d' : Dsk} {k k' : Nat} {L L' : Obs} {K : AV → AW → Prop}
end
end Go.Proofs.Ytdlogcincelccaa
/-
 Crash and Copy of the disk, over memory, with its own blocks.
 No condition beyond those that each theorem names.
-/
set_option linter.unusedSimpArgs false
open Go.Sx
set_option linter.unusedVariables false
namespace Go.Proofs.Ytdlogcincelccaa
section
variable {hk : Hook} {A B : Nat → Prop} {I : List Nat} {w0 w w' : AW} {D : Nat} {i i' : DI} {d d' : Dsk} {k k' : Nat} {L L' : Obs} {K : AV → AW → Prop}
theorem own_or (h : Ow A I w0 w L) {b : Nat} {o : Ob} (hb : o.is w b) (h1 : w0.size ≤ b ∨ b ∈ I) (h2 : b ∉ ids L) (hA : A b) (hz : b ≠ 0) : Ow A I w0 w ((b, o) :: L) :=
 ⟨h.mem, h.pos, h.size, h.old, h.new, fun p hp hr => by
  rcases List.mem_cons.1 hp with rfl | hp
  ·exact ⟨hb, h1, hA, hz⟩
  ·exact h.box p hp hr, nd_cons h.nd fun _ => h2⟩
theorem ow_clone {es : List (AV × AV)} (st : Ow A I w0 w L) : ∃ w', w' = w.push (.map es 0) ∧ Ow A I w0 w' ((w.size, .map es) :: L) ∧ Xt (ids L) w (w.size :: ids L) w' :=
 ⟨_, rfl, st.push (p := (w.size, .map es)) rfl (Fr.push st.mem fun cs f own d e => (by cases e)) (Nat.le_refl _) ⟨0, by simp⟩⟩
set_option maxRecDepth 100000 in
theorem s65 {a n : Nat} {es : List (AV × AV)} (hh : HK hk) (st : Ow A I w0 w L) (ha : nth L a = some (n, .map es)) (hK : ∀ m w', Ow A I w0 w' ((m, .map es) :: L) → Xt (ids L) w (m :: ids L) w' → K (.map m) w') : Cl Try.prog hk 65 [.map n] w K := by
 apply in65 (hh.no _ _ _ (by decide) (by decide))
 unfold F65
 obtain ⟨cl, hg⟩ := (st.box _ (nth_mem ha) rfl).1
 obtain ⟨_, rfl, a1, a2⟩ := ow_clone (es := es) st
 exact ⟨false, by kernel_rfl, ifT_f (Cl_ext (hh.no _ _ _ (by decide) (by decide)) Try.func70 rfl (ext_clone hg) (onM_s (v := .map w.size) (by kernel_rfl) (hK _ _ a1 a2)))⟩
set_option maxRecDepth 100000 in
theorem s66 {a n : Nat} {es : List (AV × AV)} (hh : HK hk) (st : Ow A I w0 w L) (ha : nth L a = some (n, .map es)) (hK : ∀ m w', Ow A I w0 w' ((m, .map es) :: L) → Xt (ids L) w (m :: ids L) w' → K (.map m) w') : Cl Try.prog hk 66 [.map n] w K := by
 apply in66 (hh.no _ _ _ (by decide) (by decide))
 unfold F66
 obtain ⟨cl, hg⟩ := (st.box _ (nth_mem ha) rfl).1
 obtain ⟨_, rfl, a1, a2⟩ := ow_clone (es := es) st
 exact ⟨false, by kernel_rfl, ifT_f (Cl_ext (hh.no _ _ _ (by decide) (by decide)) Try.func70 rfl (ext_clone hg) (onM_s (v := .map w.size) (by kernel_rfl) (hK _ _ a1 a2)))⟩
theorem s47 {a b n f : Nat} {es es2 : List (AV × AV)} (hh : HK hk) (st : Ow A I w0 w L) (ha : nth L a = some (n, .map es)) (hb : nth L b = some (f, .map es2))
  (hK : ∀ n' f' w', Ow A I w0 w' ((f', .map es2) :: (n', .map es) :: L) → Xt (ids L) w (f' :: n' :: ids L) w' → K (.agg [.map n', .map f']) w') : Cl Try.prog hk 47 [.agg [.map n, .map f]] w K := by
 apply in47 (hh.no _ _ _ (by decide) (by decide))
 unfold F47
 refine gd_t rfl (st.new' fun b2 w3 st3 x3 => st3.new' fun b4 w5 st5 x5 => ?_)
 refine onM_s (st5.ld 1 rfl rfl) (onM_s (st5.ld 1 rfl rfl) ?_)
 refine s65 (a := a + 2) hh st5 ha fun n' w9 st9 x9 => ⟨st9.ld 2 rfl rfl, ?_⟩
 refine s66 (a := b + 3) hh st9 hb fun f' w11 st11 x11 => gd_t rfl (gd_t rfl (gd_t rfl ?_))
 refine st11.put 2 rfl (by simp) fun w12 st12 x12 => ⟨_, _, st12.ldN 2 rfl rfl rfl, ?_⟩
 obtain ⟨st13, x13⟩ := st12.front 2 rfl
 obtain ⟨st14, x14, _⟩ := st13.drop
 obtain ⟨st15, x15⟩ := st14.front 2 rfl
 obtain ⟨st16, x16, _⟩ := st15.drop
 exact hK n' f' w12 st16 (((((((x3.trans x5).trans x9).trans x11).trans x12).trans x13).trans x14).trans (x15.trans x16))
end
end Go.Proofs.Ytdlogcincelccaa
/-
 Crash of the disk, over memory, with its own blocks.
 No condition beyond those that each theorem names.
-/
set_option linter.unusedSimpArgs false
open Go.Sx
set_option linter.unusedVariables false
namespace Go.Proofs.Ytdlogcincelccaa
section
variable {hk : Hook} {A B : Nat → Prop} {I : List Nat} {w0 w w' : AW} {D : Nat} {i i' : DI} {d d' : Dsk} {k k' : Nat} {L L' : Obs} {K : AV → AW → Prop}
theorem lookR_int {z : AV} {m : AV} {i : Int} : lookR (.int .i64) z false w m (.int .i64 i) = lookS z false w m (.int .i64 i) := rfl
theorem kvSetR_int {m v : AV} {i : Int} : kvSetR (.int .i64) w m (.int .i64 i) v = kvSet w m (.int .i64 i) v := rfl
theorem mapAt_of {r cl : Nat} {es : List (AV × AV)} (hg : w.get r = some (.map es cl)) : mapAt w r = some (es, cl) := by unfold mapAt; rw [hg]; rfl
theorem look_of {r cl : Nat} {es : List (AV × AV)} {k z : AV} {ok : Bool} (hg : w.get r = some (.map es cl)) (hk : (es.all fun e => likeK k e.1) = true) : lookS z ok w (.map r) k = lookV z ok (lookM k es) := by
 have hm := mapAt_of hg
 simp only [lookS, mapOf, hm, Option.map_some, Option.bind_some, hk, guardO, cond_true]
 cases lookM k es <;> rfl
theorem s18 {keep : List Bool} {kv : AV} (hh : HK hk) (h : Dk A I w0 w D i d k L) (hkl : keep.length < 2 ^ 62) (hkv : (rL rT).rd (fz B (dkU D i L)) w [kv] keep) (hK : Od A I w0 w D i L (d.crash keep, 0) k K) : Cl Try.prog hk 18 [.ptr D 0, kv] w K := by
  apply in18 (hh.no _ _ _ (by decide) (by decide))
  unfold F18
  have hV := h.V
  have h27 := h.k27
  have hsl := hV.steps
  refine s45 hh (h.ow.ld 0 rfl rfl) ⟨false, rfl, ifT_f ?_⟩
  simp only [onP]
  refine onM_s (h.ow.ld 0 rfl rfl) ⟨_, h.rs.len, ?_⟩
  refine loopP_ind (fun m lvs w11 => ∃ (j : Nat) (i11 : DI), j ≤ d.steps.length ∧ m = d.steps.length - j ∧ lvs = [.int .i64 j] ∧ i11.sv = i.sv ∧ Dk A I w0 w11 D i11 { d with safe := keepL keep 0 (d.steps.take j) d.safe } k L ∧ Xt (dkU D i L) w (dkU D i11 L) w11) ?_
    ⟨0, i, Nat.zero_le _, rfl, rfl, rfl, by simpa [keepL] using h, Xt.refl⟩
  rintro m lvs w11 ⟨j, i11, hj, rfl, rfl, esv, h11, x11⟩ R ih
  have vS := keepL_V keep (i := 0) (l := d.steps.take j) hV.safe fun x hx => hV.sv x (List.mem_of_mem_take hx)
  refine ⟨_, rfl, fun _ => ifT_d (fun hc => ?_) fun hc => ?_⟩
  · have hjl : j < d.steps.length := by omega
    have hxV := hV.sv _ (List.getElem_mem hjl)
    have hx64 := hxV.1
    have hx69 := Stp.length hx64
    have hrs11 : Rs w11 69 d.steps.length i.sv (stpsC d.steps) := by rw [← esv]; exact h11.rs
    refine hrs11.at (i := (j : Int)) (by omega) (by omega) fun bb oo _ hN => ?_
    have hN : ldN 69 w11 bb oo = some (.agg d.steps[j].cells) := by rw [hN]; exact congrArg (fun t => some (AV.agg t)) (stpsC_at (fun x hx => (hV.sv x hx).1) hjl)
    refine onM_s hN (h11.new' fun b16 w17 h17 x17 => ?_)
    simp only [onA]
    refine gd_t (Stp.all _) (gd_t (by rw [hx69]; rfl) (h17.wr 0 rfl (by rw [zstep_length, hx69]; omega) fun w19 h19 x19 => ?_))
    rw [listPut_all (by rw [zstep_length, hx69])] at h19
    have h19 : Dk A I w0 w19 D i11 { d with safe := keepL keep 0 (d.steps.take j) d.safe } k ((b16, .row d.steps[j].cells) :: L) := h19
    have x19' := (x11.trans x17).trans x19
    have hkv19 := hkv.x x19'
    have htk : d.steps.take (j + 1) = d.steps.take j ++ [d.steps[j]] := (List.take_append_getElem hjl).symm
    have hsn := keepL_snoc keep d.steps[j] (d.steps.take j) 0 d.safe
    have htl : (d.steps.take j).length = j := by simp; omega
    rw [← htk, htl, Nat.zero_add] at hsn
    have skip : keep.getD j false = false → R [.int .i64 (wi ((j : Int) + 1))] w19 := fun hf => by
      rw [hf] at hsn
      simp only [Bool.false_eq_true, if_false] at hsn
      obtain ⟨h20, x20, _⟩ := h19.drop
      exact ih (d.steps.length - (j + 1)) (by omega) _ _ ⟨j + 1, i11, by omega, rfl, by rw [wi_eq (by omega) (by omega)]; rfl, esv, by rw [hsn]; exact h20, x19'.trans x20⟩
    refine ⟨_, hkv19.len', ifT_d (fun hc2 => ?_) fun hc2 => skip ?_⟩
    · have hjk : j < keep.length := by omega
      have hgd : keep.getD j false = keep[j] := by simp [List.getD_eq_getElem?_getD, hjk]
      refine hkv19.at1 rfl hjk fun bk ok a ha hld => ⟨keep[j], ?_, ?_⟩
      · have ha : [a] = [AV.bool keep[j]] := ha
        rw [hld]; injection ha with ha; rw [ha]
      cases hb : keep[j] with
      | false => exact ifT_f (skip (by rw [hgd, hb]))
      | true =>
        rw [hgd, hb, if_pos rfl] at hsn
        have hld : ldN 69 w19 b16 0 = some (.agg d.steps[j].cells) := h19.ow.ldN 6 rfl (by rw [hx69]; rfl) (by rw [List.drop_zero, List.take_of_length_le (by omega)])
        refine ifT_t ⟨_, _, h19.ow.ldN 0 rfl rfl rfl, onM_s hld ?_⟩
        refine s46 (a := 1) (b := 2) (s := keepL keep 0 (d.steps.take j) d.safe) hh h19.ow rfl rfl (by decide) h19.f1 hx64 ⟨hxV.2.1, by have := hxV.2.2.1; omega⟩ (by have := (vS d.steps[j].file).1; omega) fun w31 es' st31 x31 hF31 => ⟨rfl, ?_⟩
        let i31 : DI := { i11 with e1 := es' }
        have x31 : Xt (dkU D i11 ((b16, .row d.steps[j].cells) :: L)) w19 (dkU D i31 ((b16, .row d.steps[j].cells) :: L)) w31 := x31
        have h31 : Dk A I w0 w31 D i31 { d with safe := (keepL keep 0 (d.steps.take j) d.safe).does d.steps[j] } k ((b16, .row d.steps[j].cells) :: L) :=
          ⟨st31, h19.st, hF31, h19.f2.x x31, ⟨hV.steps, hV.sv, FS.V.does vS hxV, hV.now, hV.last⟩, h27⟩
        obtain ⟨h32, x32, _⟩ := h31.drop
        exact ih (d.steps.length - (j + 1)) (by omega) _ _ ⟨j + 1, i31, by omega, rfl, by rw [wi_eq (by omega) (by omega)]; rfl, esv, by rw [hsn]; exact h32, (x19'.trans x31).trans x32⟩
    · simp [List.getD_eq_getElem?_getD, List.getElem?_eq_none (show keep.length ≤ j by omega)]
  · have : j = d.steps.length := by omega
    subst this
    rw [List.take_length] at h11 vS
    clear ih R
    unfold Dsk.crash at hK
    simp only [] at hK
    generalize keepL keep 0 d.steps d.safe = s1 at *
    refine h11.newMap' fun m31 w32 h32 x32 => ?_
    have hm32 := h32.ow.mem
    have hbx := h32.ow.box
    have nd := h32.ow.nd
    have gD : Box w32 D (({ d with safe := s1 } : Dsk).cells i11.n1 i11.f1 i11.n2 i11.f2 i11.sv) := (hbx _ (nth_mem (i := 0) rfl) rfl).1
    obtain ⟨cl, gn⟩ := (hbx (i11.n1, .map (nEnts s1.names)) (nth_mem (i := 1) rfl) rfl).1
    obtain ⟨clf, gf⟩ := (hbx (i11.f1, .map i11.e1) (nth_mem (i := 2) rfl) rfl).1
    obtain ⟨⟨clm, gm⟩, o1, o2, o3⟩ := hbx (m31, .map []) (nth_mem (i := 6) rfl) rfl
    have gn : w32.get i11.n1 = some (.map (nEnts s1.names) cl) := gn
    have gf : w32.get i11.f1 = some (.map i11.e1 clf) := gf
    have gm : w32.get m31 = some (.map [] clm) := gm
    have uq : ∀ {a : Nat} {p : Nat × Ob}, a ≠ 6 → nth (dkL D i11 { d with safe := s1 } ((m31, .map []) :: L)) a = some p → p.2.re = true → p.1 ≠ m31 := fun ha hp hr e => ha (Obs.uniq nd hp (j := 6) (q := (m31, .map [])) rfl hr rfl e)
    have neD : D ≠ m31 := uq (a := 0) (by decide) rfl rfl
    have nen : i11.n1 ≠ m31 := uq (a := 1) (by decide) rfl rfl
    have nef : i11.f1 ≠ m31 := uq (a := 2) (by decide) rfl rfl
    have lD : D < w32.size := gD.lt hm32
    have ln : i11.n1 < w32.size := hm32.lt _ _ gn
    have lf : i11.f1 < w32.size := hm32.lt _ _ gf
    have lm : m31 < w32.size := hm32.lt _ _ gm
    refine onM_s (h32.ow.ld 0 rfl rfl) ?_
    have hn1m := mapAt_of gn
    unfold rangeK
    simp only [hn1m]
    show onM (some (nEnts s1.names, cl)) _
    refine onM_s rfl ?_
    have fI : Fr w32.size w32 (w32.push (.mapIter (some i11.n1) (nEnts s1.names) cl (nEnts s1.names) none)) := Fr.push hm32 fun cs f own d e => by cases e
    have gI : (w32.push (.mapIter (some i11.n1) (nEnts s1.names) cl (nEnts s1.names) none)).get w32.size = some (.mapIter (some i11.n1) (nEnts s1.names) cl (nEnts s1.names) none) := by simp
    have zI : (w32.push (.mapIter (some i11.n1) (nEnts s1.names) cl (nEnts s1.names) none)).size = w32.size + 1 := by simp
    generalize w32.push (.mapIter (some i11.n1) (nEnts s1.names) cl (nEnts s1.names) none) = w37 at *
    let U := dkU D i11 ((m31, .map []) :: L)
    refine loopP_ind (fun m lv w40 => ∃ (rest : List (AV × AV)) (last : Option AV) (dn : List Int) (es : List (AV × AV)) (cl' : Nat), m = rest.length ∧ lv = [] ∧ Mem w40 ∧ w32.size < w40.size ∧ (∀ c, c < w32.size → c ≠ m31 → w40.get c = w32.get c) ∧ w40.get m31 = some (.map es cl') ∧ w40.get w32.size = some (.mapIter (some i11.n1) (nEnts s1.names) cl rest last)
        ∧ FEn (fz A U) w32 es (fun k => if k ∈ dn then s1.files k else []) ∧ (∀ e ∈ rest, e ∈ nEnts s1.names) ∧ (∀ e ∈ nEnts s1.names, e ∈ rest ∨ ∃ k ∈ dn, e.2 = .int .i64 k) ∧ ∀ k ∈ dn, k ∈ s1.names.map (·.2)) ?_
      ⟨nEnts s1.names, none, [], [], clm, rfl, rfl, fI.mem, by omega, fun c hc _ => fI.old c hc, (fI.old _ lm).trans gm, gI, FEn.none, fun _ h => h, fun e he => .inl he, by simp⟩
    rintro m lv w40 ⟨rest, last, dn, es, cl', rfl, rfl, hm40, z40, g40, gm40, hi40, hF40, hr1, hr2, hr3⟩ R ih
    refine ⟨rfl, fun _ => ?_⟩
    refine join_of (fun lv w42 => ∃ c : Bool, lv = [.bool c] ∧ match c with
      | false => rest = [] ∧ w42 = w40
      | true => ∃ (i : Int) (kk : AV) (rest' : List (AV × AV)), (kk, AV.int .i64 i) ∈ rest ∧ (∀ e ∈ rest, e = (kk, AV.int .i64 i) ∨ e ∈ rest') ∧ (∀ e ∈ rest', e ∈ rest) ∧ rest'.length < rest.length ∧ Ch [w32.size] w40 w42 ∧ w42.size = w40.size ∧ w42.get w32.size = some (.mapIter (some i11.n1) (nEnts s1.names) cl rest' (some (.tup [kk, .int .i64 i])))) ?_ ?_
    · rintro lv w42 ⟨c, rfl, hcc⟩
      refine ⟨c, rfl, fun _ => ?_⟩
      cases c with
      | true =>
        obtain ⟨i0, kk, rest', p1, p2, p3, p4, c42, z42, g42⟩ := hcc
        have o42 : ∀ c, c < w32.size → w42.get c = w40.get c := fun c hc => c42.old c (by omega) (by simp; omega)
        have gg : ∀ c, c < w32.size → c ≠ m31 → w42.get c = w32.get c := fun c hc hn => (o42 c hc).trans (g40 c hc hn)
        have gm42 : w42.get m31 = some (.map es cl') := (o42 _ lm).trans gm40
        refine ifT_t ?_
        unfold entryK
        rw [g42]
        simp only []
        refine onM_s (mapAt_of ((gg _ ln nen).trans gn)) (gd_t (by simp) ?_)
        obtain ⟨v, hlk, hsl'⟩ := h32.f1.look i0
        have bD : Box w42 D (({ d with safe := s1 } : Dsk).cells i11.n1 i11.f1 i11.n2 i11.f2 i11.sv) := (gg _ lD neD).trans gD
        refine onM_s (v := .map i11.f1) (by rw [bD.ld]; rfl) ?_
        rw [lookR_int, look_of ((gg _ lf nef).trans gf) (h32.f1.like _)]
        refine onM_s hlk ?_
        rw [kvSetR_int]
        refine kvSet_of c42.mem gm42 (hF40.like _) fun w52 t52 z52 g52 => ?_
        have hi : i0 ∈ s1.names.map (·.2) := by
          obtain ⟨y, hy, e⟩ := List.mem_map.1 (hr1 _ p1)
          cases e
          exact List.mem_map_of_mem hy
        refine ih _ p4 _ _ ⟨rest', _, i0 :: dn, _, _, rfl, rfl, t52.ch.mem, by omega, fun c hc hn => (t52.ch.old _ (by omega) (by simpa using hn)).trans (gg c hc hn), g52, (t52.ch.old _ (by omega) (by simp; omega)).trans g42, ?_, fun e he => hr1 _ (p3 e he), fun e he => ?_, fun k hk => ?_⟩
        · have : (fun k => if k ∈ i0 :: dn then s1.files k else []) = updF (fun k => if k ∈ dn then s1.files k else []) i0 (s1.files i0) := by
            funext k
            unfold updF
            by_cases hki : k = i0
            · subst hki; simp
            · simp [hki]
          rw [this]; exact hF40.set hsl'
        · rcases hr2 e he with h | ⟨k, hk, e'⟩
          · rcases p2 e h with rfl | h
            · exact .inr ⟨i0, List.mem_cons_self, rfl⟩
            · exact .inl h
          · exact .inr ⟨k, List.mem_cons_of_mem _ hk, e'⟩
        · rcases List.mem_cons.1 hk with rfl | hk
          · exact hi
          · exact hr3 k hk
      | false =>
        obtain ⟨rfl, e42⟩ := hcc
        rw [e42]
        refine ifT_f ?_
        have hheld : (fun k => if k ∈ dn then s1.files k else []) = heldF s1 := by
          funext k
          unfold heldF
          by_cases hkn : k ∈ s1.names.map (·.2)
          · obtain ⟨y, hy, e⟩ := List.mem_map.1 hkn
            have := hr2 (.str y.1, .int .i64 y.2) (List.mem_map_of_mem (f := fun x : Byts × Int => (AV.str x.1, AV.int .i64 x.2)) hy)
            rcases this with h | ⟨k', hk', e'⟩
            · cases h
            · cases e'
              have hk'' : k ∈ dn := by rw [← e]; exact hk'
              rw [if_pos hk'', if_pos hkn]
          · rw [if_neg hkn, if_neg (fun hk => hkn (hr3 k hk))]
        rw [hheld] at hF40
        -- the disk is as it was, and the map is filled
        obtain ⟨st0, x0⟩ := h32.ow.perm (L' := (m31, .map []) :: dkL D i11 { d with safe := s1 } L) dkL_mid.symm
        have hnm : m31 ∉ ids (dkL D i11 { d with safe := s1 } L) := nd_head st0.nd rfl
        obtain ⟨st1, _⟩ := Ow.spoil (M := [(m31, .map [])]) (w' := w40) st0 (by omega) hm40 fun c hc hn => g40 c hc fun e => hn (by rw [e]; exact List.mem_cons_self)
        have st2 := own_or st1 (o := .map es) ⟨cl', gm40⟩ o1 hnm o2 o3
        obtain ⟨st3, _⟩ := st2.perm (L' := dkL D i11 { d with safe := s1 } ((m31, .map es) :: L)) dkL_mid
        have mU : m31 ∈ U := ids_mem (p := (m31, .map [])) (nth_mem (i := 6) rfl) (L := dkL D i11 { d with safe := s1 } ((m31, .map []) :: L)) rfl
        have x40 : Xt (dkU D i11 ((m31, .map []) :: L)) w32 (dkU D i11 ((m31, .map es) :: L)) w40 :=
          ⟨⟨fun c f all a b e => ⟨a, b, e.congr (g40 c (e.lt hm32).1 fun q => a (by rw [q]; exact mU)) (g40 f (by have := e.lt hm32; omega) fun q => b (by rw [q]; exact mU))⟩⟩, fun c a b => ⟨b, g40 c a fun q => b (by rw [q]; exact mU)⟩, by omega⟩
        have hF := hF40.x x40
        have hFV : FS.V ⟨s1.names, heldF s1⟩ := fun f => by
          simp only [heldF]
          split
          · exact vS f
          · simp
        have f2' := h32.f2.x x40
        -- its files are the held ones
        refine st3.put 0 rfl (by simp [Dsk.cells]) fun w55 st55 x55 => ?_
        obtain ⟨st56, x56⟩ := st55.front 2 rfl
        obtain ⟨st57, x57⟩ := st56.forget
        obtain ⟨st58, x58⟩ := st57.front 5 rfl
        obtain ⟨st59, x59⟩ := st58.front 2 rfl
        obtain ⟨st60, x60⟩ := st59.front 2 rfl
        let i2 : DI := { i11 with f1 := m31, e1 := es }
        let d2 : Dsk := { d with safe := ⟨s1.names, heldF s1⟩ }
        have st60 : Ow A I w0 w55 (dkL D i2 d2 L) := st60
        have x60 : Xt (dkU D i11 ((m31, .map es) :: L)) w40 (dkU D i2 L) w55 := ((((x55.trans x56).trans x57).trans x58).trans x59).trans x60
        refine ⟨_, _, st60.ldN 0 rfl rfl rfl, ?_⟩
        refine s47 (a := 1) (b := 2) hh st60 rfl rfl fun n2' f2n w61 st61 x61 => ⟨_, _, rfl, gd_t rfl ?_⟩
        refine st61.put 2 rfl (by simp [Dsk.cells]) fun w66 st66 x66 => ?_
        obtain ⟨st67, x67⟩ := st66.front 5 rfl
        obtain ⟨st68, x68⟩ := st67.forget
        obtain ⟨st69, x69⟩ := st68.front 5 rfl
        obtain ⟨st70, x70⟩ := st69.forget
        obtain ⟨st71, x71⟩ := st70.front 1 rfl
        obtain ⟨st72, x72⟩ := st71.front 4 rfl
        obtain ⟨st73, x73⟩ := st72.front 4 rfl
        obtain ⟨st74, x74⟩ := st73.front 4 rfl
        let i3 : DI := { i2 with n2 := n2', f2 := f2n, e2 := es }
        let d3 : Dsk := { d with safe := ⟨s1.names, heldF s1⟩, now := ⟨s1.names, heldF s1⟩ }
        have st74 : Ow A I w0 w66 (dkL D i3 d3 L) := st74
        have x74 : Xt (dkU D i2 L) w55 (dkU D i3 L) w66 := (((((((((x61.trans x66).trans x67).trans x68).trans x69).trans x70).trans x71).trans x72).trans x73).trans x74)
        refine st74.put 0 rfl (by simp [Dsk.cells]) fun w69 st75 x75 => ?_
        let i4 : DI := { i3 with sv := .nilslice }
        let d4 : Dsk := { d3 with steps := [] }
        have st75 : Ow A I w0 w69 (dkL D i4 d4 L) := st75
        have x75 : Xt (dkU D i3 L) w66 (dkU D i4 L) w69 := x75
        have xx : Xt (dkU D i11 ((m31, .map es) :: L)) w40 (dkU D i4 L) w69 := (x60.trans x74).trans x75
        have h75 : Dk A I w0 w69 D i4 d4 k L := ⟨st75, Sv.nil, hF.x xx, hF.x xx, ⟨Nat.zero_le _, fun x hx => (by cases hx), hFV, hFV, hV.last⟩, h27⟩
        refine h75.put (o := 7) (d' := { d4 with down := false }) (by simp) rfl rfl rfl rfl ⟨Nat.zero_le _, fun x hx => (by cases hx), hFV, hFV, hV.last⟩ h27 fun w72 h76 x76 => ?_
        refine s48 hh (h76.put (o := 8) (d' := { d4 with down := false, arm := 0 }) (by simp) rfl rfl rfl rfl ⟨Nat.zero_le _, fun x hx => (by cases hx), hFV, hFV, hV.last⟩ h27 fun w76 h77 x77 => ⟨rfl, ?_⟩)
        refine s48 hh (h77.put (o := 9) (d' := { d4 with down := false, arm := 0, fault := 0 }) (by simp) rfl rfl rfl rfl ⟨Nat.zero_le _, fun x hx => (by cases hx), hFV, hFV, hV.last⟩ h27 fun w80 h78 x78 => ⟨rfl, ?_⟩)
        exact hK i4 w80 h78 (((((x11.trans x32).trans x40).trans xx).trans x76).trans (x77.trans x78))
    · intro J hJ
      refine nextK_of hm40 hi40 (mapAt_of ((g40 _ ln nen).trans gn)) (fun hr => hJ _ _ ⟨false, rfl, hr, rfl⟩) fun kk v rest' p1 p2 p3 p4 w42 c42 z42 g42 => ?_
      obtain ⟨y, hy, e⟩ := List.mem_map.1 (hr1 _ p1)
      cases e
      exact hJ _ _ ⟨true, rfl, y.2, _, rest', p1, p2, p3, p4, c42, z42, g42⟩
end
end Go.Proofs.Ytdlogcincelccaa
/-
 Bytes of frames and sectors, over memory.
 No condition beyond those that each theorem names.
-/
set_option linter.unusedSimpArgs false
open Go.Sx
set_option linter.unusedVariables false
set_option linter.unusedSimpArgs false
namespace Go.Proofs.Ytdlogcincelccaa
theorem appendA_eq {w : AW} {s : AV} {n : Nat} (h : n < 2 ^ 40) : appendA Try.prog w 23 (some 3) s (.int .i64 (n : Int)) = appS 1 1 w s (.str (List.replicate n 0)) := by
 have e1 : Sx.elemOf Try.prog 23 = some 5 := by kernel_rfl
 have e2 : szOf Try.prog 5 = some 1 := by kernel_rfl
 have e3 : bytesOf Try.prog 5 = some 1 := by kernel_rfl
 have e4 : zeroOf Try.prog 5 = some (.int .u8 0) := by kernel_rfl
 have hr : repl n (AV.cells (.int .u8 0)) = cellsOfBytes (List.replicate n 0) := by
  show repl n [.int .u8 0] = _
  rw [repl_eq]; simp [cellsOfBytes]
 have e5 : appSrc Try.prog w 5 1 1 (some 3) (.int .i64 (n : Int)) = some (n, cellsOfBytes (List.replicate n 0)) := by
  have hu : Try.prog.underlying 3 = some (.int .i64) := by kernel_rfl
  simp only [appSrc, hu, Option.bind_some]
  show Sx.madeCells Try.prog 5 1 (.int .i64 (Int.ofNat n)) = _
  unfold Sx.madeCells
  simp only [e4, Option.bind_some]
  have e6 : Nat.blt n (2 ^ 40) = true := by rw [Nat.blt_eq]; exact h
  have e7 : Nat.blt (n * 1) Sx.room = true := by rw [Nat.blt_eq]; unfold Sx.room; omega
  rw [e6, e7, hr]; rfl
 unfold appendA appS
 simp only [e1, e2, e3, e4, Option.bind_some, e5]
 have e8 : srcCells w 1 (.str (List.replicate n 0)) = some (n, cellsOfBytes (List.replicate n 0)) := by
  simp [srcCells, guardO]
 rw [e8]
 simp only [Option.bind_some]
 have e9 : okSrc (.int .i64 (n : Int)) (cellsOfBytes (List.replicate n 0)) = okSrc (.str (List.replicate n 0)) (cellsOfBytes (List.replicate n 0)) := rfl
 rw [e9]
 cases s <;> rfl
theorem Bhd.str (w : AW) (s : Byts) : Bhd w 1 s.length (.str s) (cellsOfBytes s) := ⟨by simp [srcCells, guardO], by rw [cellsOfBytes_length]; omega, ok_bytes _⟩
theorem boxGa {A : Nat → Prop} {w0 w : AW} {b n : Nat} {ex : Option Nat} {s : Byts} (hb : Box w b (cellsOfBytes s)) (hl : s.length = n) (h0 : w0.size ≤ b) (hA : A b) (hz : b ≠ 0) (hex : ex = none ∨ ex = some 1 := by simp) : Ga rU A w0 w (.slice b 0 n n ex) s := by
 refine ⟨fun c h => by cases h; exact hA, _, .inr ⟨b, b, n, ex, b, false, rfl, ?_, hex, ⟨h0, hA⟩, hz, hb, AW.root?_iff.2 ⟨_, hb, rfl⟩⟩, Chk.bytes.2 rfl⟩
 show n * 1 = _
 rw [cellsOfBytes_length]; omega
def be4 (n : Nat) : Byts := [UInt8.ofNat (n / 2 ^ 24), UInt8.ofNat (n / 2 ^ 16), UInt8.ofNat (n / 2 ^ 8), UInt8.ofNat n]
def frame (b : Byts) : Byts := be4 b.length ++ b
theorem frame_length (b : Byts) : (frame b).length = 4 + b.length := by simp [frame, be4]; omega
def sector (b : Byts) (i : Nat) : Byts := UInt8.ofNat ((b.drop (i * 62)).take 62).length :: 0 :: ((b.drop (i * 62)).take 62 ++ List.replicate (62 - ((b.drop (i * 62)).take 62).length) 0)
theorem sector_length (b : Byts) (i : Nat) : (sector b i).length = 64 := by simp [sector]; omega
section
variable {hk : Hook} {A B : Nat → Prop} {I : List Nat} {w0 w w' : AW} {D : Nat} {i i' : DI} {d d' : Dsk} {k k' : Nat} {L L' : Obs} {K : AV → AW → Prop}
theorem shr_u64 {n k : Nat} (hk : k ≤ 24) : shiftA .shr .u64 (n : Int) (k : Int) = some (.int .u64 ((n / 2 ^ k : Nat) : Int)) := by
 unfold shiftA
 rw [if_neg (by omega)]
 have : min ((k : Int).toNat) (IntKind.bits .u64) = k := by
  show min (k : Int).toNat 64 = k
  omega
 simp only [this]
 congr 2
 rw [Int.fdiv_eq_ediv_of_nonneg _ (by exact_mod_cast Nat.zero_le _)]
 push_cast; rfl
theorem u8_cell (n : Nat) : AV.int .u8 (IntKind.wrap .u8 (n : Int)) = .int .u8 ((UInt8.ofNat n).toNat : Int) := by
 congr 1
set_option maxRecDepth 20000 in
theorem s69 {n : Nat} (hh : HK hk) (pv : Pv A w) (hK : ∀ b w', Fr w.size w w' → w.size ≤ b → Box w' b (cellsOfBytes (be4 n)) → K (.slice b 0 4 4 none) w') : Cl Try.prog hk 69 [.nilslice, .int .u64 (n : Int), .int .i64 4] w K := by
 apply in69 (hh.no _ _ _ (by decide) (by decide))
 unfold F69
 refine ⟨0, rfl, 0, rfl, onM_s (v := 0) rfl (onM_s (v := 4) rfl (gd_t rfl (pv.st.new' fun b7 w8 st8 x8 => onE_s (v := .int .i64 0) (w := w8) (by kernel_rfl) ?_)))⟩
 have st8 : Ow A [] w w8 [(b7, .row [.int .u8 0, .int .u8 0, .int .u8 0, .int .u8 0])] := st8
 have hb7 : w.size ≤ b7 := by
  rcases (st8.box _ List.mem_cons_self rfl).2.1 with h | h
  ·exact h
  ·cases h
 intro R hR
 have step : ∀ (j : Nat) (cs : List AV) (w13 : AW), j < 4 → cs.length = 4 → Ow A [] w w13 [(b7, .row cs)] → (∀ w', Ow A [] w w' [(b7, .row (listPut cs j [.int .u8 ((UInt8.ofNat (n / 2 ^ (8 * (3 - j)))).toNat : Int)]))] → R [.slice b7 0 (j + 1) 4 none, .int .i64 ((j + 1 : Nat) : Int)] w') → R [.slice b7 0 j 4 none, .int .i64 (j : Int)] w13 := by
  intro j cs w13 hj hl st hn
  refine hR _ _ ⟨_, _, rfl, fun _ => ifT_d (fun _ => ?_) fun hc => absurd hc (by omega)⟩
  unfold be
  have e : wi (8 * wi (wi (4 - 1) - (j : Int))) = ((8 * (3 - j) : Nat) : Int) := by
   rw [wi_eq (x := 4 - 1) (by omega) (by omega), wi_eq (x := _ - _) (by omega) (by omega), wi_eq (by omega) (by omega)]; omega
  rw [e]
  refine ⟨_, shr_u64 (by omega), ?_⟩
  rw [u8_cell]
  refine st.new' fun b18 w19 st19 x19 => ?_
  have hb : Box w19 b18 [.int .u8 ((UInt8.ofNat (n / 2 ^ (8 * (3 - j)))).toNat : Int)] := (st19.box _ List.mem_cons_self rfl).1
  refine st19.appIn 1 (m := 1) rfl (Rs.src (hb.rs rfl)) (by omega) hl fun w21 st21 x21 => ?_
  have := hn w21 (st21.drop).1
  rw [wi_eq (by omega) (by omega)]
  exact this
 refine step 0 _ _ (by decide) rfl st8 fun w1 st1 => step 1 _ _ (by decide) rfl st1 fun w2 st2 => step 2 _ _ (by decide) rfl st2 fun w3 st3 => step 3 _ _ (by decide) rfl st3 fun w4 st4 => ?_
 refine hR _ _ ⟨_, _, rfl, fun _ => ifT_d (fun hc => absurd hc (by decide)) fun hc => ?_⟩
 have hb : Box w4 b7 _ := (st4.box _ List.mem_cons_self rfl).1
 refine hK b7 w4 st4.fr hb7 ?_
 simpa [be4, cellsOfBytes, listPut] using hb
theorem s40 {v : AV} {s : Byts} (hh : HK hk) (pv : Pv A w) (h : RsB w v s) (hs : s.length ≤ 65536) (hK : ∀ v' w', Fr w.size w w' → Ga rU A w w' v' (frame s) → K (.tup [v', .int .i64 0]) w') : Cl Try.prog hk 40 [v] w K := by
 apply in40 (hh.no _ _ _ (by decide) (by decide))
 unfold F40
 refine ⟨_, h.len, ifT_d (fun hc => absurd hc (by omega)) fun _ => ⟨_, h.len, ?_⟩⟩
 have e : IntKind.wrap .u32 ((s.length : Nat) : Int) = ((s.length : Nat) : Int) := by
  show ((s.length : Nat) : Int) % 4294967296 = _
  omega
 rw [e]
 apply in57 (hh.no _ _ _ (by decide) (by decide))
 unfold F57
 have e : IntKind.wrap .u64 ((s.length : Nat) : Int) = ((s.length : Nat) : Int) := by
  show ((s.length : Nat) : Int) % 18446744073709551616 = _
  omega
 rw [e]
 refine s69 hh pv fun b w4 f4 hb4 bx4 => ?_
 have hpos := pv.pos
 have hg : Ga rU (fz A []) w w4 (.slice b 0 4 4 none) (be4 s.length) := (boxGa bx4 rfl hb4 (pv.new _ hb4) (by omega)).inn
 have st4 := (pv.st.call f4).1
 have h4 : Rs w4 1 s.length v (cellsOfBytes s) := Rs.fr h pv.mem f4 (Nat.le_refl _)
 refine Ow.appSrc (r := rU) (l' := s) st4 hg h4.src (Chk.bytes.2 rfl) (by decide) (fun c hc => pv.new c (by have := f4.size; omega)) (by simp [be4]; omega) (by simp [be4]; omega) fun v' w6 st6 x6 hg6 => ?_
 exact hK v' w6 st6.fr hg6.out
set_option maxRecDepth 20000 in
theorem s58 {n : Nat} (hh : HK hk) (pv : Pv A w) (hn : 0 < n) (h40 : n < 2 ^ 40) (hK : ∀ w', Ow A [] w w' [(w.size, .row (cellsOfBytes (List.replicate n 0)))] → K (.slice w.size 0 0 n (some 1)) w') : Cl Try.prog hk 58 [.nilslice, .int .i64 (n : Int)] w K := by
 apply in58 (hh.no _ _ _ (by decide) (by decide))
 unfold F58
 refine ifT_d (fun hc => absurd hc (by omega)) fun _ => ⟨0, by kernel_rfl, 0, rfl, ?_⟩
 have e : wi ((n : Int) - wi (0 - 0)) = (n : Int) := by
  rw [show wi (0 - 0) = 0 from by decide, wi_eq (by omega) (by omega)]; omega
 rw [e]
 refine ifT_d (fun _ => ?_) fun hc => absurd hc (by omega)
 refine ⟨0, by kernel_rfl, onM_s (v := .nilslice) rfl ?_⟩
 rw [appendA_eq h40]
 have hx := Bhd.str w (List.replicate n 0)
 rw [List.length_replicate] at hx
 have f1 : Fr w.size w (newCells w (cellsOfBytes (List.replicate n 0))) := Fr.push pv.mem fun cs' f own d e => by cases e; exact Nat.le_refl _
 have b1 : Box (newCells w (cellsOfBytes (List.replicate n 0))) w.size (cellsOfBytes (List.replicate n 0)) := by simp [Box, newCells, cellsAO]
 refine onE_s (v := .slice w.size 0 n n (some 1)) (w := newCells w (cellsOfBytes (List.replicate n 0))) ?_ ⟨0, rfl, onM_s (v := .slice w.size 0 0 n (some 1)) ?_ (hK _ (pv.st.push (p := (w.size, .row _)) rfl f1 (Nat.le_refl _) b1).1)⟩
 ·have e1 : Nat.ble (n * 1) Sx.room = true := by rw [Nat.ble_eq]; unfold Sx.room; omega
  have e2 : Nat.blt n (2 ^ 62) = true := by rw [Nat.blt_eq]; omega
  simp only [appS, hx.read, Option.bind_some, beq_ff (show n ≠ 0 by omega), cond_false, hx.ok, guardO, e1, e2, Bool.and_self, cond_true]
  rfl
 ·have e1 : okB 0 0 n n = true := by simp [okB]
  simp only [slS, boundA]
  show guardO (okB 0 0 n n && okEx (some 1) 1 && _) _ = _
  rw [e1]; rfl
end
end Go.Proofs.Ytdlogcincelccaa
/-
 Bytes put together and cloned, and sectors told one after the other, over memory.
 No condition beyond those that each theorem names.
-/
set_option linter.unusedSimpArgs false
open Go.Sx
set_option linter.unusedVariables false
set_option linter.unusedSimpArgs false
namespace Go.Proofs.Ytdlogcincelccaa
section
variable {hk : Hook} {A B : Nat → Prop} {I : List Nat} {w0 w w' : AW} {D : Nat} {i i' : DI} {d d' : Dsk} {k k' : Nat} {L L' : Obs} {K : AV → AW → Prop}
theorem s41 {c : Nat} {v1 v2 : AV} {s1 s2 : Byts} (hh : HK hk) (pv : Pv A w) (hc : Box w c [v1, v2]) (h1 : RsB w v1 s1) (h2 : RsB w v2 s2) (hs : 0 < s2.length) (hl : s1.length + s2.length < 2 ^ 30)
  (hK : ∀ w', Fr w.size w w' → Box w' w.size (cellsOfBytes (s1 ++ s2)) → K (.slice w.size 0 (s1 ++ s2).length (s1 ++ s2).length (some 1)) w') : Cl Try.prog hk 41 [.slice c 0 2 2 none] w K := by
 apply in41 (hh.no _ _ _ (by decide) (by decide))
 unfold F41
 refine ⟨2, rfl, ?_⟩
 intro R hR
 have hcl := hc.lt pv.mem
 have g0 : ld w c 0 = some v1 := by rw [hc.ld]; rfl
 have g1 : ld w c 1 = some v2 := by rw [hc.ld]; rfl
 refine hR _ _ ⟨_, _, rfl, fun _ => ifT_d (fun _ => idx0 (k := 0) (by decide) (onM_s g0 ⟨_, h1.len, ?_⟩)) fun hc => absurd hc (by decide)⟩
 have e1 : wi (0 + ((s1.length : Nat) : Int)) = ((s1.length : Nat) : Int) := by rw [wi_eq (by omega) (by omega)]; omega
 rw [e1]
 refine ifT_d (fun hx => absurd hx (by omega)) fun _ => ?_
 refine hR _ _ ⟨_, _, rfl, fun _ => ifT_d (fun _ => idx0 (k := 1) (by decide) (onM_s g1 ⟨_, h2.len, ?_⟩)) fun hc => absurd hc (by decide)⟩
 have e2 : wi (((s1.length : Nat) : Int) + ((s2.length : Nat) : Int)) = ((s1.length + s2.length : Nat) : Int) := by rw [wi_eq (by omega) (by omega)]; omega
 rw [e2]
 refine ifT_d (fun hx => absurd hx (by omega)) fun _ => ?_
 refine hR _ _ ⟨_, _, rfl, fun _ => ifT_d (fun hc => absurd hc (by decide)) fun _ => ?_⟩
 refine s58 hh pv (by omega) (by omega) fun w12 st12 => ⟨2, rfl, ?_⟩
 have f12 := st12.fr
 intro R2 hR2
 have hb12 := hc.fr f12 hcl
 have g0 : ld w12 c 0 = some v1 := by rw [hb12.ld]; rfl
 have r1 : Rs w12 1 s1.length v1 (cellsOfBytes s1) := Rs.fr h1 pv.mem f12 (Nat.le_refl _)
 refine hR2 _ _ ⟨_, _, rfl, fun _ => ifT_d (fun _ => idx0 (k := 0) (by decide) (onM_s g0 ?_)) fun hc => absurd hc (by decide)⟩
 refine st12.appIn 0 rfl r1.src (by omega) (by rw [cellsOfBytes_length, List.length_replicate]) fun w23 st23 x23 => ?_
 have f23 := st23.fr
 have hb23 := hc.fr f23 hcl
 have g1 : ld w23 c 1 = some v2 := by rw [hb23.ld]; rfl
 have r2 : Rs w23 1 s2.length v2 (cellsOfBytes s2) := Rs.fr h2 pv.mem f23 (Nat.le_refl _)
 refine hR2 _ _ ⟨_, _, rfl, fun _ => ifT_d (fun _ => idx0 (k := 1) (by decide) (onM_s g1 ?_)) fun hc => absurd hc (by decide)⟩
 refine st23.appIn 0 rfl r2.src (by omega) (by simp [listPut, cellsOfBytes]) fun w33 st33 x33 => ?_
 refine hR2 _ _ ⟨_, _, rfl, fun _ => ifT_d (fun hc => absurd hc (by decide)) fun _ => ?_⟩
 have hb : Box w33 w.size _ := (st33.box _ List.mem_cons_self rfl).1
 have e3 : listPut (listPut (cellsOfBytes (List.replicate (s1.length + s2.length) 0)) 0 (cellsOfBytes s1)) (0 + s1.length) (cellsOfBytes s2) = cellsOfBytes (s1 ++ s2) := by
  have hz : cellsOfBytes (List.replicate (s1.length + s2.length) 0) = cellsOfBytes (List.replicate s1.length 0) ++ cellsOfBytes (List.replicate s2.length 0) := by unfold cellsOfBytes; rw [← List.replicate_append_replicate, List.map_append]
  have l1 : (cellsOfBytes s1).length = s1.length := cellsOfBytes_length _
  have l2 : (cellsOfBytes s2).length = s2.length := cellsOfBytes_length _
  have hp : listPut (cellsOfBytes (List.replicate (s1.length + s2.length) 0)) 0 (cellsOfBytes s1) = cellsOfBytes s1 ++ cellsOfBytes (List.replicate s2.length 0) := by
   rw [hz]
   simp only [listPut, List.take_zero, List.nil_append, Nat.zero_add, l1]
   rw [List.drop_left' (by rw [cellsOfBytes_length, List.length_replicate])]
  rw [hp]
  simp only [listPut, Nat.zero_add, l2]
  rw [List.take_left' l1, List.drop_of_length_le (by rw [List.length_append, l1, cellsOfBytes_length, List.length_replicate]; omega), List.append_nil]
  simp [cellsOfBytes]
 have hb : Box w33 w.size (cellsOfBytes (s1 ++ s2)) := by rw [← e3]; exact hb
 have := hK w33 st33.fr hb
 rw [List.length_append] at this
 have e4 : (0 + s1.length + s2.length) = s1.length + s2.length := by omega
 rw [e4]
 exact this
theorem s49 {v : AV} {s : Byts} (hh : HK hk) (pv : Pv A w) (h : (rL rU).rd B w [v] s) (hs : s.length < 2 ^ 30) (hK : ∀ v' w', Fr w.size w w' → Ga rU A w w' v' s → K v' w') : Cl Try.prog hk 49 [v] w K := by
 apply in49 (hh.no _ _ _ (by decide) (by decide))
 unfold F49
 obtain ⟨all, g1, g2⟩ := h.rs
 rcases g1 with ⟨rfl, h2, h3⟩ | ⟨b, o, cap, ex, al, rfl, q1, q2, q3⟩
 ·have : s = [] := by simpa using h2
  subst this
  exact ⟨true, by kernel_rfl, ifT_t (hK _ _ (Fr.refl pv.mem) Ga.nil)⟩
 ·refine ⟨false, by kernel_rfl, ifT_f (pv.st.new' fun b2 w3 st3 x3 => ?_)⟩
  have g1 : Rs w 1 s.length (.slice b o s.length cap ex) all := .inr ⟨b, o, cap, ex, al, rfl, q1, q2, q3⟩
  have hb : Box w3 b2 (cellsOfBytes []) := (st3.box _ List.mem_cons_self rfl).1
  have hge : w.size ≤ b2 := by
   rcases (st3.box _ List.mem_cons_self rfl).2.1 with h | h
   ·exact h
   ·cases h
  have hpos := pv.pos
  obtain ⟨st4, x4, _⟩ := st3.drop
  have hg : Ga rU (fz A []) w w3 (.slice b2 0 0 0 none) [] := (boxGa hb rfl hge (pv.new _ hge) (by omega)).inn
  have g3 : Rs w3 1 s.length (.slice b o s.length cap ex) all := Rs.fr g1 pv.mem st3.fr (Nat.le_refl _)
  have hsz := st3.fr.size
  refine Ow.appSrc (r := rU) (l' := s) st4 hg g3.src (Chk.bytes.2 (Chk.bytes.1 g2)) (by decide) (fun c hc => pv.new c (by omega)) (by simp; omega) (by simp; omega) fun v' w6 st6 x6 hg6 => ?_
  exact hK v' w6 st6.fr (by simpa using hg6.out)
theorem s59 {y bv : AV} {c1 c2 : Nat} {b : Byts} {fr : Nat} (hh : HK hk) (P : Nat → AW → Prop)
  (hP : ∀ j w, P j w → Mem w ∧ 0 < w.size ∧ Box w c2 [bv] ∧ (rL rU).rd (fun _ => True) w [bv] b) (hc1 : Box w c1 [.int .i64 (fr : Int)]) (h0 : P fr w) (hl : b.length < 2 ^ 30) (hfr : fr < 2 ^ 30)
  (hstep : ∀ j w w' xv, P j w → j * 62 < b.length → Fr w.size w w' → Ga rU (fun c => w.size ≤ c) w w' xv (sector b j) → Cv Try.prog hk y [.int .i64 (j : Int), xv] w' fun r w2 => r = .bool true ∧ P (j + 1) w2 ∨ r = .bool false ∧ K (.tup []) w2)
  (hend : ∀ j w, P j w → b.length ≤ j * 62 → (j = fr ∨ (j - 1) * 62 < b.length) → K (.tup []) w) : Cl Try.prog hk 59 [y, .ptr c1 0, .ptr c2 0] w K := by
 apply in59 (hh.no _ _ _ (by decide) (by decide))
 unfold F59
 simp only [onP]
 refine ⟨(fr : Int), by rw [hc1.ld]; rfl, ?_⟩
 refine loopP_ind (fun m l w8 => ∃ j : Nat, m = b.length + fr + 1 - j ∧ j ≤ b.length + fr ∧ fr ≤ j ∧ l = [.int .i64 j] ∧ P j w8 ∧ (j = fr ∨ (j - 1) * 62 < b.length)) ?_ ⟨fr, rfl, by omega, Nat.le_refl _, rfl, h0, .inl rfl⟩
 rintro m l w8 ⟨j, rfl, hj, hjf, rfl, hp, hjj⟩ R ih
 obtain ⟨hm, hpos, hb2, hrd⟩ := hP j w8 hp
 have pv : Pv (fun c => w8.size ≤ c) w8 := ⟨hm, hpos, fun _ h => h⟩
 have hld : ld w8 c2 0 = some bv := by rw [hb2.ld]; rfl
 refine ⟨_, rfl, fun _ => onM_s hld ⟨_, hrd.len', ?_⟩⟩
 have hj2 : j < 2 ^ 31 := by omega
 rw [show wi ((j : Int) * 62) = ((j * 62 : Nat) : Int) by rw [wi_eq (by omega) (by omega)]; push_cast; rfl]
 refine ifT_d (fun hc => ?_) fun hc => hend j w8 hp (by omega) hjj
 have hc : j * 62 < b.length := by omega
 refine onM_s hld (onM_s hld ⟨_, hrd.len', ?_⟩)
 have emin : imin ((b.length : Nat) : Int) (wi (wi ((j : Int) + 1) * 62)) = ((min b.length ((j + 1) * 62) : Nat) : Int) := by
  rw [wi_eq (x := (j : Int) + 1) (by omega) (by omega), wi_eq (by omega) (by omega)]
  unfold imin
  split <;> omega
 rw [emin]
 obtain ⟨part, hsl, hpart⟩ := hrd.cut (i := j * 62) (j := min b.length ((j + 1) * 62)) (by omega) (by omega) (.inl rfl) (.inl rfl)
 have epart : (b.take (min b.length ((j + 1) * 62))).drop (j * 62) = (b.drop (j * 62)).take 62 := by
  rw [List.drop_take]
  by_cases h : b.length ≤ (j + 1) * 62
  ·rw [Nat.min_eq_left h, List.take_of_length_le (by simp), List.take_of_length_le (by simp; omega)]
  ·rw [Nat.min_eq_right (by omega)]; congr 1; omega
 rw [epart] at hpart
 generalize hpt : (b.drop (j * 62)).take 62 = pt at hpart
 have hptl : pt.length ≤ 62 := by rw [← hpt]; simp; omega
 refine onM_s hsl ⟨_, hpart.len', ?_⟩
 rw [u8_cell]
 refine pv.st.new' fun b23 w24 st24 x24 => ?_
 have hb23 : Box w24 b23 (cellsOfBytes [UInt8.ofNat pt.length, 0]) := (st24.box _ List.mem_cons_self rfl).1
 have hge : w8.size ≤ b23 := by
  rcases (st24.box _ List.mem_cons_self rfl).2.1 with h | h
  ·exact h
  ·cases h
 obtain ⟨st25, x25, _⟩ := st24.drop
 have hg : Ga rU (fz (fun c => w8.size ≤ c) []) w8 w24 (.slice b23 0 2 2 none) [UInt8.ofNat pt.length, 0] := (boxGa hb23 rfl hge hge (by omega)).inn
 have hsz24 := st24.fr.size
 have hpart24 : RsB w24 part pt := RsB.fr hpart.rsB hm st24.fr (Nat.le_refl _)
 refine Ow.appSrc (r := rU) (l' := pt) st25 hg (Rs.src hpart24) (Chk.bytes.2 rfl) (by decide) (fun c hc => by have := st25.fr.size; omega) (by simp; omega) (by simp; omega) fun s26 w26 st26 x26 hg26 => ?_
 have hr26 := hg26.rd (by decide)
 refine ⟨_, hr26.len', ?_⟩
 have e64 : wi (64 - (([UInt8.ofNat pt.length, 0] ++ pt).length : Int)) = ((62 - pt.length : Nat) : Int) := by
  rw [wi_eq (by simp; omega) (by simp; omega)]; simp; omega
 rw [e64, appendA_eq (by omega)]
 have hbs := Bhd.str w26 (List.replicate (62 - pt.length) 0)
 refine Ow.appSrc (r := rU) (l' := List.replicate (62 - pt.length) 0) st26 hg26 hbs (Chk.bytes.2 rfl) (by decide) (fun c hc => by have := st26.fr.size; omega) (by simp; omega) (by simp; omega) fun x28 w29 st29 x29 hg29 => ?_
 have esec : [UInt8.ofNat pt.length, 0] ++ pt ++ List.replicate (62 - pt.length) 0 = sector b j := by
  unfold sector; rw [hpt]; simp
 rw [esec] at hg29
 refine Cv_mono (fun r w2 h => ?_) (hstep j w8 w29 x28 hp hc st29.fr hg29.out)
 rcases h with ⟨rfl, h⟩ | ⟨rfl, h⟩
 ·exact ⟨true, rfl, ifT_f (ih (b.length + fr + 1 - (j + 1)) (by omega) _ _ ⟨j + 1, rfl, by omega, by omega, by rw [wi_eq (by omega) (by omega)]; rfl, h, .inr (by simpa using hc)⟩)⟩
 ·exact ⟨false, rfl, ifT_t h⟩
end
end Go.Proofs.Ytdlogcincelccaa
/-
 A segment's calls, over memory (the first part).
 No condition beyond those that each theorem names.
-/
set_option linter.unusedSimpArgs false
open Go.Sx
set_option linter.unusedVariables false
set_option linter.unusedSimpArgs false
namespace Go.Proofs.Ytdlogcincelccaa
def segC (D : Nat) (nm : Byts) (bv ev : AV) (br : Bool) : List AV := [.ptr D 0, .str nm, bv, ev, .bool br]
def puts (nm b : Byts) : Nat → Nat → Dsk → Dsk × Int
 | 0, _, d => (d, 0)
 | m + 1, i, d => if (d.put nm i (sector b i)).2 ≠ 0 then d.put nm i (sector b i) else puts nm b m (i + 1) (d.put nm i (sector b i)).1
def nsec (b : Byts) : Nat := (b.length + 61) / 62
theorem take_one {w : AW} {d : Nat} (h : w.get d = some .deferred) : takeAll w [d] = some (w.set d .gone) := by simp only [takeAll]; rw [h]
theorem loop_of {w : AW} {l : Nat} {r : LoopA} (h : w.get l = some (LoopA.ob r)) : loopAt w l = some r := by unfold loopAt; rw [h]; rfl
theorem ob_no {r : LoopA} : ∀ cs f own d, LoopA.ob r ≠ .cells cs f own d := fun _ _ _ _ h => by unfold LoopA.ob at h; cases h
theorem busy_no {r : LoopA} : ∀ cs f own d, busyOb r ≠ .cells cs f own d := fun _ _ _ _ h => ob_no _ _ _ _ h
theorem ready_eq {R0 : LoopA} (h1 : R0.st = .ready) (h2 : R0.pending = none) : ({ ({ R0 with st := .busy } : LoopA) with st := if (jumpOf .normal).isNone then .ready else .done, pending := jumpOf .normal } : LoopA) = R0 := by
 obtain ⟨a, b, c, d, e, f, g, i⟩ := R0
 simp only at h1 h2
 subst h1; subst h2; rfl
section
variable {hk : Hook} {A B : Nat → Prop} {I : List Nat} {w0 w w' : AW} {D S : Nat} {i i' : DI} {d d' : Dsk} {k k' : Nat} {L L' : Obs} {K : AV → AW → Prop} {nm bs : Byts} {es : List Int} {bv ev : AV} {br : Bool}
set_option maxRecDepth 20000 in
theorem s39 (hh : HK hk) (h0 : ld w S 0 = some (.ptr D 0)) (h4 : ld w S 4 = some (.bool br)) (hK : K (.int .i64 (if br then 4 else 0)) w) : Cl Try.prog hk 39 [.ptr S 0] w K := by
 apply in39 (hh.no _ _ _ (by decide) (by decide))
 unfold F39
 refine ⟨false, by kernel_rfl, ifT_f ?_⟩
 simp only [onP]
 refine onM_s (v := .ptr D 0) h0 ⟨false, by kernel_rfl, ifT_f ⟨br, h4, ?_⟩⟩
 cases br
 ·exact ifT_f hK
 ·exact ifT_t hK
theorem s43 {e : Int} (hh : HK hk) (h0 : e = 0 → K (.int .i64 0) w) (h1 : e ≠ 0 → onM (w.putCells S 4 [.bool true]) fun w' => K (.int .i64 e) w') : Cl Try.prog hk 43 [.ptr S 0, .int .i64 e] w K := by
 apply in43 (hh.no _ _ _ (by decide) (by decide))
 unfold F43
 refine ifT_nd (fun h => ?_) fun h => ?_
 ·simp only [onP, Nat.zero_add]; exact h1 h
 ·subst h; exact h0 rfl
theorem s42 {v : AV} {fr : Int} (hh : HK hk) (h : Dk A I w0 w D i d k L) (hv : okCell v = true) (hK : ∀ c1 c2 w', Dk A I w0 w' D i d k ((c1, .row [.int .i64 fr]) :: (c2, .row [v]) :: L) → Xt (dkU D i L) w (dkU D i ((c1, .row [.int .i64 fr]) :: (c2, .row [v]) :: L)) w' → K (.func 59 [] [.ptr c1 0, .ptr c2 0]) w') : Cl Try.prog hk 42 [v, .int .i64 fr] w K := by
 apply in42 (hh.no _ _ _ (by decide) (by decide))
 unfold F42
 exact gd_t hv (h.new' fun c2 w3 h3 x3 => h3.new' fun c1 w5 h5 x5 => hK c1 c2 w5 h5 (x3.trans x5))
theorem rd_any {w : AW} {v : AV} {s : Byts} {U : List Nat} {n : Nat} (h : (rL rU).rd (fun c => n ≤ c) w [v] s) (hU : ∀ c ∈ U, c < n) : (rL rU).rd (fz (fun _ => True) U) w [v] s :=
 h.xa ⟨fun c f all a b e => ⟨⟨trivial, fun hx => by have := hU c hx; omega⟩, ⟨trivial, fun hx => by have := hU f hx; omega⟩, e⟩⟩
set_option maxRecDepth 20000 in
theorem s16 {body : Byts} {dv : AV} {ef : Nat} {eo : Ob} (hh : HK hk) (h : Dk A [] w0 w D i d k ((S, .row (segC D nm bv ev false)) :: (ef, eo) :: L)) (hbs : (rL rU).rd (fz A (dkU D i ((S, .row (segC D nm bv ev false)) :: (ef, eo) :: L))) w [bv] bs)
  (hes : Sv 1 eo ev (es.map (AV.int .i64))) (hd : ∀ (w' : AW) (b2 b4 b6 : Nat), Dk A [] w0 w' D i d k ((b6, .row [.int .i64 0]) :: (b4, .row [.int .i64 0]) :: (b2, .row [.ptr S 0]) :: (S, .row (segC D nm bv ev false)) :: (ef, eo) :: L) → Xt (dkU D i ((S, .row (segC D nm bv ev false)) :: (ef, eo) :: L)) w (dkU D i ((b6, .row [.int .i64 0]) :: (b4, .row [.int .i64 0]) :: (b2, .row [.ptr S 0]) :: (S, .row (segC D nm bv ev false)) :: (ef, eo) :: L)) w' → RsB w' dv body) (hbl : body.length ≤ 65536) (hfull : bs.length + (4 + body.length) ≤ 253952) (hel : es.length < 2 ^ 26) (hkk : k + 10000 < 2 ^ 27)
  (hK : (puts nm (bs ++ frame body) (nsec (bs ++ frame body) - bs.length / 62) (bs.length / 62) d).2 = 0 → ∀ i' w' bv' ev' ef' eo', Dk A [] w0 w' D i' (puts nm (bs ++ frame body) (nsec (bs ++ frame body) - bs.length / 62) (bs.length / 62) d).1 (k + 10000) ((S, .row (segC D nm bv' ev' false)) :: (ef', eo') :: L) →
   Xt (dkU D i ((S, .row (segC D nm bv ev false)) :: (ef, eo) :: L)) w (dkU D i' ((S, .row (segC D nm bv' ev' false)) :: (ef', eo') :: L)) w' →
   (rL rU).rd (fz A (dkU D i' ((S, .row (segC D nm bv' ev' false)) :: (ef', eo') :: L))) w' [bv'] (bs ++ frame body) → Sv 1 eo' ev' ((es ++ [((bs ++ frame body).length : Int)]).map (AV.int .i64)) → K (.tup [.int .i64 es.length, .int .i64 0]) w')
  (hE : (puts nm (bs ++ frame body) (nsec (bs ++ frame body) - bs.length / 62) (bs.length / 62) d).2 ≠ 0 → ∀ i' w', Dk A [] w0 w' D i' (puts nm (bs ++ frame body) (nsec (bs ++ frame body) - bs.length / 62) (bs.length / 62) d).1 (k + 10000) ((S, .row (segC D nm bv ev true)) :: (ef, eo) :: L) →
   Xt (dkU D i ((S, .row (segC D nm bv ev false)) :: (ef, eo) :: L)) w (dkU D i' ((S, .row (segC D nm bv ev true)) :: (ef, eo) :: L)) w' → K (.tup [.int .i64 0, .int .i64 (puts nm (bs ++ frame body) (nsec (bs ++ frame body) - bs.length / 62) (bs.length / 62) d).2]) w') :
  Cl Try.prog hk 16 [.ptr S 0, dv] w K := by
 apply in16 (hh.no _ _ _ (by decide) (by decide))
 unfold F16
 have hfl := frame_length body
 have hal : (bs ++ frame body).length = bs.length + (4 + body.length) := by rw [List.length_append, hfl]
 refine gd_t rfl (h.new' fun b2 w3 h3 x3 => h3.new' fun b4 w5 h5 x5 => h5.new' fun b6 w7 h7 x7 => ?_)
 have x07 := (x3.trans x5).trans x7
 refine onM_s (v := .ptr S 0) (h7.ow.ld 8 rfl rfl) ?_
 refine s39 (D := D) (br := false) hh (h7.ow.ld 9 rfl rfl) (h7.ow.ld 9 rfl rfl) ⟨0, rfl, ifT_f ?_⟩
 refine s40 hh h7.ow.P (hd w7 b2 b4 b6 h7 x07) hbl fun v18 w17 f17 hg17 => ⟨_, _, rfl, ifT_f ?_⟩
 obtain ⟨h17, x17⟩ := h7.fr f17
 have hfr17 := hg17.rd (by decide)
 refine onM_s (v := .ptr S 0) (h17.ow.ld 8 rfl rfl) ?_
 simp only [onP]
 have x017 := x07.trans x17
 refine onM_s (v := bv) (h17.ow.ld 9 rfl rfl) ⟨_, hbs.len', _, hfr17.len', ?_⟩
 rw [hfl]
 refine ifT_d (fun hc => ?_) fun _ => ?_
 ·rw [wi_eq (by omega) (by omega)] at hc; omega
 refine onM_s (v := .ptr S 0) (h17.ow.ld 8 rfl rfl) ?_
 simp only [onP]
 refine onM_s (v := bv) (h17.ow.ld 9 rfl rfl) (gd_t hbs.ok1 (gd_t hfr17.ok1 (h17.new' fun b38 w39 h39 x39 => ?_)))
 have x039 := x017.trans x39
 have hb38 : Box w39 b38 [bv, v18] := (h39.ow.box (b38, .row [bv, v18]) (nth_mem (i := 6) rfl) rfl).1
 refine s41 hh h39.ow.P hb38 (hbs.x x039).rsB (hfr17.x x39).rsB (by rw [hfl]; omega) (by rw [hfl]; omega) fun w41 f41 hbAB => ?_
 obtain ⟨h41, x41⟩ := h39.push f41 hbAB (Nat.le_refl _)
 have x041 := x039.trans x41
 refine onM_s (v := .ptr S 0) (h41.ow.ld 10 rfl rfl) ?_
 simp only [onP]
 refine onM_s (v := bv) (h41.ow.ld 11 rfl rfl) ⟨_, hbs.len', ?_⟩
 have efr : wi (Int.tdiv ((bs.length : Nat) : Int) 62) = ((bs.length / 62 : Nat) : Int) := by
  rw [show Int.tdiv ((bs.length : Nat) : Int) 62 = ((bs.length / 62 : Nat) : Int) from rfl, wi_eq (by omega) (by omega)]
 rw [efr]
 refine s42 hh h41 rfl fun c1 c2 w48 h48 x48 => ?_
 have x048 := x041.trans x48
 generalize hfrn : bs.length / 62 = fr at *
 generalize hall : bs ++ frame body = all at *
 have hnl : nsec all ≤ 4096 := by unfold nsec; omega
 have hfn : fr ≤ nsec all := by unfold nsec; omega
 have hm48 := h48.ow.mem
 intro R0 hst hpend hY
 obtain ⟨h49, x49⟩ := h48.pushObj (o := .deferred) (fun _ _ _ _ h => by cases h)
 obtain ⟨h50, x50⟩ := h49.pushObj (o := LoopA.ob R0) ob_no
 rw [show (w48.push .deferred).size = w48.size + 1 from rfl] at h50 x50
 have x050 := (x048.trans x49).trans x50
 show Cl Try.prog hk 59 [.yield (w48.size + 1), .ptr c1 0, .ptr c2 0] _ _
 let LM : AO → Bool → Obs := fun o e => (w48.size + 1, .obj o) :: (w48.size, .obj .deferred) :: (c1, .row [.int .i64 (fr : Int)]) :: (c2, .row [.slice w39.size 0 all.length all.length (some 1)]) :: (w39.size, .row (cellsOfBytes all)) :: (b38, .row [bv, v18]) :: (b6, .row [.int .i64 0]) :: (b4, .row [.int .i64 0]) :: (b2, .row [.ptr S 0]) :: (S, .row (segC D nm bv ev e)) :: (ef, eo) :: L
 have hc1 : Box ((w48.push .deferred).push (LoopA.ob R0)) c1 [.int .i64 (fr : Int)] := (h50.ow.box (c1, _) (nth_mem (i := 8) rfl) rfl).1
 refine s59 (fr := fr) (b := all) (bv := .slice w39.size 0 all.length all.length (some 1)) hh (fun j wx => ∃ i' d', Dk A [] w0 wx D i' d' (k + 2 * (j - fr)) (LM (LoopA.ob R0) false) ∧ Xt (dkU D i ((S, .row (segC D nm bv ev false)) :: (ef, eo) :: L)) w (dkU D i' (LM (LoopA.ob R0) false)) wx ∧ fr ≤ j ∧ j ≤ nsec all ∧ puts nm all (nsec all - fr) fr d = puts nm all (nsec all - j) j d')
  (fun j wx ⟨i', d', hdk, _⟩ => ⟨hdk.ow.mem, hdk.ow.P0.pos, (hdk.ow.box (c2, _) (nth_mem (i := 9) rfl) rfl).1, Box.sl (hdk.ow.box (w39.size, .row (cellsOfBytes all)) (nth_mem (i := 10) rfl) rfl).1 trivial rfl (Chk.bytes.2 rfl)⟩)
  hc1 ⟨i, d, by rw [Nat.sub_self]; exact h50, x050, Nat.le_refl _, hfn, rfl⟩ (by omega) (by omega) ?_ ?_
 ·rintro j wj wj' xv ⟨i', d', hdk, hx, hj1, hj2, hpe⟩ hlt hf hg
  have hjn : j < nsec all := by unfold nsec; omega
  obtain ⟨m, hm⟩ : ∃ m, nsec all - j = m + 1 := ⟨nsec all - j - 1, by omega⟩
  rw [hm] at hpe
  have hpe' : puts nm all (nsec all - fr) fr d = if (d'.put nm j (sector all j)).2 ≠ 0 then d'.put nm j (sector all j) else puts nm all m (j + 1) (d'.put nm j (sector all j)).1 := hpe
  obtain ⟨hk', xk⟩ := hdk.fr hf
  have hrd := rd_any (U := dkU D i' (LM (LoopA.ob R0) false)) (hg.rd (by decide)) fun c hc => hdk.ow.ids_lt hc
  have hl' : loopAt wj' (w48.size + 1) = some R0 := loop_of (hk'.ow.box (w48.size + 1, .obj (LoopA.ob R0)) (nth_mem (i := 6) rfl) rfl).1.1
  refine hY _ _ wj' _ hl' ⟨hl', fun wb hwb => ?_⟩
  subst hwb
  obtain ⟨hb, xb⟩ := hk'.setObj 0 (o2 := busyOb R0) rfl busy_no
  have hb : Dk A [] w0 _ D i' d' (k + 2 * (j - fr)) (LM (busyOb R0) false) := hb
  refine onM_s (v := .ptr S 0) (hb.ow.ld 14 rfl rfl) (onM_s (v := .ptr S 0) (hb.ow.ld 14 rfl rfl) ?_)
  simp only [onP]
  refine onM_s (v := .ptr D 0) (hb.ow.ld 15 rfl rfl) (onM_s (v := .ptr S 0) (hb.ow.ld 14 rfl rfl) ?_)
  simp only [onP]
  refine ⟨nm, hb.ow.ld 15 rfl rfl, ?_⟩
  refine s9 hh hb (by omega) (hrd.x xb).rsB ?_
  intro i2 w65 h65 x65
  have xx := ((hx.trans xk).trans xb).trans x65
  refine ⟨_, rfl, h65.ow.ld 14 rfl rfl, ?_⟩
  refine s43 hh (fun he => ⟨0, rfl, ifT_f ?_⟩) fun he => ?_
  ·rw [if_neg (by simpa using he)] at hpe'
   refine ⟨{ R0 with st := .busy }, loop_of (h65.ow.box (w48.size + 1, .obj (busyOb R0)) (nth_mem (i := 6) rfl) rfl).1.1, .inl ⟨rfl, ?_⟩⟩
   rw [ready_eq hst hpend]
   obtain ⟨h66, x66⟩ := h65.setObj 0 (o2 := LoopA.ob R0) rfl ob_no
   exact ⟨i2, _, by rw [show k + 2 * (j + 1 - fr) = k + 2 * (j - fr) + 2 by omega]; exact h66, xx.trans x66, by omega, by omega, by rw [hpe', show nsec all - (j + 1) = m by omega]⟩
  ·rw [if_pos he] at hpe'
   rw [hpe'] at hE
   refine h65.wr 9 rfl (by simp [segC]) fun w4' h66 x66 => ⟨_, rfl, ifT_nd (fun _ => ?_) fun h => absurd h he⟩
   refine h66.wr 7 rfl (by simp) fun w70 h70 x70 => h70.wr 6 rfl (by simp) fun w71 h71 x71 => ?_
   refine ⟨{ R0 with st := .busy }, loop_of (h71.ow.box (w48.size + 1, .obj (busyOb R0)) (nth_mem (i := 6) rfl) rfl).1.1, .inr ⟨rfl, ?_⟩⟩
   obtain ⟨h72, x72⟩ := h71.setObj 0 (o2 := LoopA.ob { ({ R0 with st := .busy } : LoopA) with st := .done, pending := some .ret }) rfl ob_no
   refine ⟨_, loop_of (h72.ow.box (w48.size + 1, .obj _) (nth_mem (i := 6) rfl) rfl).1.1, by simp, ?_⟩
   obtain ⟨h73, x73⟩ := h72.setObj 0 (o2 := LoopA.ob { ({ ({ R0 with st := .busy } : LoopA) with st := .done, pending := some .ret } : LoopA) with st := .exhausted }) rfl ob_no
   have hdd := (h73.ow.box (w48.size, .obj .deferred) (nth_mem (i := 7) rfl) rfl).1.1
   obtain ⟨h74, x74⟩ := h73.setObj 1 (o2 := .gone) rfl (fun _ _ _ _ h => by cases h)
   refine onM_s (take_one hdd) ⟨0, h74.ow.ld 13 rfl rfl, _, h74.ow.ld 12 rfl rfl, ?_⟩
   obtain ⟨h75, x75, _⟩ := h74.drop
   obtain ⟨h76, x76, _⟩ := h75.drop
   obtain ⟨h77, x77, _⟩ := h76.drop
   obtain ⟨h78, x78, _⟩ := h77.drop
   obtain ⟨h79, x79, _⟩ := h78.drop
   obtain ⟨h80, x80, _⟩ := h79.drop
   obtain ⟨h81, x81, _⟩ := h80.drop
   obtain ⟨h82, x82, _⟩ := h81.drop
   obtain ⟨h83, x83, _⟩ := h82.drop
   have y1 := (((((xx.trans x66).trans x70).trans x71).trans x72).trans x73).trans x74
   have y2 := (((((((x75.trans x76).trans x77).trans x78).trans x79).trans x80).trans x81).trans x82).trans x83
   exact hE he i2 _ (h83.le (by omega) hkk) (y1.trans y2)
 ·rintro j wj ⟨i', d', hdk, hx, hj1, hj2, hpe⟩ hge hor
  obtain rfl : j = nsec all := by unfold nsec at hj2 ⊢; omega
  rw [Nat.sub_self] at hpe
  have hpe : puts nm all (nsec all - fr) fr d = (d', 0) := hpe
  rw [hpe] at hK
  refine ⟨R0, loop_of (hdk.ow.box (w48.size + 1, .obj (LoopA.ob R0)) (nth_mem (i := 6) rfl) rfl).1.1, by rw [hst]; simp, ?_⟩
  rw [hpend]
  obtain ⟨h51, x51⟩ := hdk.setObj 0 (o2 := LoopA.ob { R0 with st := .exhausted, pending := none }) rfl ob_no
  refine onM_s (v := .ptr S 0) (h51.ow.ld 14 rfl rfl) (onM_s (v := .ptr S 0) (h51.ow.ld 14 rfl rfl) (onM_s (v := .ptr S 0) (h51.ow.ld 14 rfl rfl) ?_))
  simp only [onP]
  refine onM_s (v := ev) (h51.ow.ld 15 rfl rfl) ⟨_, rfl, h51.new' fun b80 w81 h81 x81 => ⟨h81.ow.ld 16 rfl rfl, h81.ow.ld 15 rfl rfl, h81.ow.ld 15 rfl rfl, h81.ow.ld 15 rfl rfl, ?_⟩⟩
  have hb80 : Box w81 b80 [.int .i64 (all.length : Int)] := (h81.ow.box (b80, .row [.int .i64 (all.length : Int)]) (nth_mem (i := 6) rfl) rfl).1
  have hml : (es.map (AV.int .i64)).length = es.length := List.length_map _
  refine h81.accL 11 rfl hes (by decide) (hb80.rs rfl) (by rw [hml]; omega) (by rw [hml]; omega) fun ev' ef' eo' w83 h83 x83 hes' => ⟨h83.ow.ld 15 rfl rfl, h83.ow.ld 15 rfl rfl, ?_⟩
  refine gd_t rfl (h83.wr 10 rfl (by simp [segC]) fun w86 h86 x86 => ⟨h86.ow.ld 15 rfl rfl, ?_⟩)
  refine gd_t hes'.ok (h86.wr 10 rfl (by simp [segC, listPut]) fun w89 h89 x89 => ?_)
  refine onM_s (v := .ptr S 0) (h89.ow.ld 15 rfl rfl) ?_
  simp only [onP]
  have hes2 : Sv 1 eo' ev' ((es ++ [(all.length : Int)]).map (AV.int .i64)) := by rw [List.map_append]; exact hes'
  have hrs := h89.ow.sv (i := 17) (f := ef') (o := eo') rfl hes2 (by decide) (k := es.length + 1) (by simp)
  refine onM_s (v := ev') (h89.ow.ld 16 rfl rfl) ⟨_, hrs.len, ?_⟩
  rw [show wi (((es.length + 1 : Nat) : Int) - 1) = ((es.length : Nat) : Int) by rw [wi_eq (by omega) (by omega)]; omega]
  refine h89.wr 8 rfl (by simp) fun w95 h95 x95 => h95.wr 7 rfl (by simp) fun w96 h96 x96 => ?_
  have hdd := (h96.ow.box (w48.size, .obj .deferred) (nth_mem (i := 8) rfl) rfl).1.1
  obtain ⟨h97, x97⟩ := h96.setObj 2 (o2 := .gone) rfl (fun _ _ _ _ h => by cases h)
  refine onM_s (take_one hdd) ⟨_, h97.ow.ld 14 rfl rfl, 0, h97.ow.ld 13 rfl rfl, ?_⟩
  obtain ⟨h98, x98, _⟩ := h97.drop
  obtain ⟨h99, x99, _⟩ := h98.drop
  obtain ⟨h100, x100, _⟩ := h99.drop
  obtain ⟨h101, x101, _⟩ := h100.drop
  obtain ⟨h102, x102, _⟩ := h101.drop
  obtain ⟨h103, x103, hA, hbx⟩ := h102.drop
  obtain ⟨h104, x104, _⟩ := h103.drop
  obtain ⟨h105, x105, _⟩ := h104.drop
  obtain ⟨h106, x106, _⟩ := h105.drop
  obtain ⟨h107, x107, _⟩ := h106.drop
  have hbx : Box _ w39.size (cellsOfBytes all) := hbx
  have hrd := (Box.sl (r := rU) (n := all.length) (cap := all.length) (ex := some 1) hbx hA rfl (Chk.bytes.2 rfl)).x (((x104.trans x105).trans x106).trans x107)
  have y1 := ((((((((hx.trans x51).trans x81).trans x83).trans x86).trans x89).trans x95).trans x96).trans x97).trans x98
  have y2 := ((((((((x99.trans x100).trans x101).trans x102).trans x103).trans x104).trans x105).trans x106).trans x107)
  exact hK rfl i' _ _ ev' ef' eo' (h107.le (by omega) hkk) (y1.trans y2) hrd hes2
end
end Go.Proofs.Ytdlogcincelccaa
/-
 A segment's calls, over memory (the second part).
 No condition beyond those that each theorem names.
-/
set_option linter.unusedSimpArgs false
open Go.Sx
set_option linter.unusedVariables false
set_option linter.unusedSimpArgs false
namespace Go.Proofs.Ytdlogcincelccaa
section
variable {hk : Hook} {A B : Nat → Prop} {I : List Nat} {w0 w w' : AW} {D S : Nat} {i i' : DI} {d d' : Dsk} {k k' : Nat} {L L' : Obs} {K : AV → AW → Prop} {nm bs : Byts} {es : List Int} {bv ev : AV} {br : Bool} {ef : Nat} {eo : Ob}
theorem s50 {i0 : Nat} (hh : HK hk) (h3 : 0 < i0 → ld w S 3 = some ev) (he : 0 < i0 → RsI w ev es) (hi : i0 ≤ es.length) (hi2 : i0 < 2 ^ 60) (hK : K (.int .i64 (if i0 = 0 then 0 else es.getD (i0 - 1) 0)) w) : Cl Try.prog hk 50 [.ptr S 0, .int .i64 (i0 : Int)] w K := by
 apply in50 (hh.no _ _ _ (by decide) (by decide))
 unfold F50
 refine ifT_d (fun hc => ?_) fun hc => ?_
 ·have : i0 = 0 := by omega
  rw [if_pos this] at hK; exact hK
 ·have h0 : i0 ≠ 0 := by omega
  rw [if_neg h0] at hK
  simp only [onP]
  refine onM_s (h3 (by omega)) ?_
  rw [show wi ((i0 : Int) - 1) = ((i0 - 1 : Nat) : Int) by rw [wi_eq (by omega) (by omega)]; omega]
  refine (he (by omega)).atN (by omega) fun b o hld => ⟨es[i0 - 1], hld, ?_⟩
  rw [show es.getD (i0 - 1) 0 = es[i0 - 1] by rw [List.getD_eq_getElem?_getD, List.getElem?_eq_getElem (by omega)]; rfl] at hK
  exact hK
end
end Go.Proofs.Ytdlogcincelccaa
/-
 Open of a file that is not there.
 No condition beyond those that each theorem names.
-/
set_option linter.unusedSimpArgs false
open Go.Sx
set_option linter.unusedVariables false
set_option linter.unusedSimpArgs false
namespace Go.Proofs.Ytdlogcincelccaa
section
variable {hk : Hook} {A B : Nat → Prop} {I : List Nat} {w0 w w' : AW} {D S : Nat} {i i' : DI} {d d' : Dsk} {k k' : Nat} {L L' : Obs} {K : AV → AW → Prop} {nm bs : Byts} {es : List Int} {bv ev : AV} {br : Bool} {ef : Nat} {eo : Ob}
theorem s42o {v : AV} {fr : Int} (hh : HK hk) (st : Ow A I w0 w L) (hv : okCell v = true) (hK : ∀ c1 c2 w', Ow A I w0 w' ((c1, .row [.int .i64 fr]) :: (c2, .row [v]) :: L) → Xt (ids L) w (c1 :: c2 :: ids L) w' → K (.func 59 [] [.ptr c1 0, .ptr c2 0]) w') : Cl Try.prog hk 42 [v, .int .i64 fr] w K := by
 apply in42 (hh.no _ _ _ (by decide) (by decide))
 unfold F42
 exact gd_t hv (st.new' fun c2 w3 st3 x3 => st3.new' fun c1 w5 st5 x5 => hK c1 c2 w5 st5 (x3.trans x5))
end
end Go.Proofs.Ytdlogcincelccaa
/-
 A file's bytes: clean, equal, streamed, over memory.
 No condition beyond those that each theorem names.
-/
set_option linter.unusedSimpArgs false
open Go.Sx
set_option linter.unusedVariables false
set_option linter.unusedSimpArgs false
namespace Go.Proofs.Ytdlogcincelccaa
def cleanN (b : Byts) (n : Nat) : Byts := ((List.range n).map (sector b)).flatten
def clean (b : Byts) : Byts := cleanN b (nsec b)
theorem cleanN_succ (b : Byts) (n : Nat) : cleanN b (n + 1) = cleanN b n ++ sector b n := by simp [cleanN, List.range_succ]
theorem cleanN_length (b : Byts) : ∀ n, (cleanN b n).length = n * 64
 | 0 => rfl
 | n + 1 => by rw [cleanN_succ, List.length_append, cleanN_length b n, sector_length]; omega
def streamN : Nat → Byts → Byts
  | 0, _ => []
  | m + 1, b => if b.length < 64 then [] else
    let n := if 62 < (b.getD 0 0).toNat then 0 else (b.getD 0 0).toNat
    (b.drop 2).take n ++ (if n < 62 then [] else streamN m (b.drop 64))
section
variable {hk : Hook} {A B : Nat → Prop} {I : List Nat} {w0 w w' : AW} {D S : Nat} {i i' : DI} {d d' : Dsk} {k k' : Nat} {L L' : Obs} {K : AV → AW → Prop} {nm bs : Byts} {es : List Int} {bv ev : AV} {br : Bool} {ef : Nat} {eo : Ob}
set_option maxRecDepth 20000 in
theorem s37 {b : Byts} (hh : HK hk) (pv : Pv A w) (h : (rL rU).rd B w [bv] b) (hl : b.length ≤ 2 ^ 20) (hK : ∀ v' w', Fr w.size w w' → Ga rU A w w' v' (clean b) → K v' w') : Cl Try.prog hk 37 [bv] w K := by
 apply in37 (hh.no _ _ _ (by decide) (by decide))
 unfold F37
 have hns : nsec b ≤ 2 ^ 20 := by unfold nsec; omega
 refine pv.st.new' fun b1 w2 st2 x2 => ?_
 refine s42o (fr := 0) hh st2 h.ok1 fun c1 c2 w4 st4 x4 => ?_
 intro R0 hst hpend hY
 obtain ⟨st5, x5⟩ := st4.pushObj (o := .deferred) (fun _ _ _ _ h => by cases h)
 obtain ⟨st6, x6⟩ := st5.pushObj (o := LoopA.ob R0) ob_no
 rw [show (w4.push .deferred).size = w4.size + 1 from rfl] at st6 x6
 show Cl Try.prog hk 59 [.yield (w4.size + 1), .ptr c1 0, .ptr c2 0] _ _
 let LM : AO → AV → Obs := fun o v => [(w4.size + 1, .obj o), (w4.size, .obj .deferred), (c1, .row [.int .i64 ((0 : Nat) : Int)]), (c2, .row [bv]), (b1, .row [v])]
 have st6 : Ow A [] w ((w4.push .deferred).push (LoopA.ob R0)) (LM (LoopA.ob R0) .nilslice) := st6
 have hc1 : Box ((w4.push .deferred).push (LoopA.ob R0)) c1 [.int .i64 ((0 : Nat) : Int)] := (st6.box (c1, _) (nth_mem (i := 2) rfl) rfl).1
 refine s59 (fr := 0) (b := b) (bv := bv) hh (fun j wx => ∃ v, Ow A [] w wx (LM (LoopA.ob R0) v) ∧ Ga rU (fz A (ids (LM (LoopA.ob R0) .nilslice))) w wx v (cleanN b j) ∧ j ≤ nsec b)
  (fun j wx ⟨v, st, _⟩ => ⟨st.mem, st.P0.pos, (st.box (c2, _) (nth_mem (i := 3) rfl) rfl).1, (st.arg pv.mem h).xa ⟨fun c f all _ _ e => ⟨trivial, trivial, e⟩⟩⟩) hc1 ⟨.nilslice, st6, Ga.nil, Nat.zero_le _⟩ (by omega) (by decide) ?_ ?_
 ·rintro j wj wj' xv ⟨v, st, hga, hj⟩ hlt hf hg
  have hjn : j < nsec b := by unfold nsec; omega
  obtain ⟨st', xf⟩ := st.call hf
  have hga' := Ga.x' hga xf st
  have hrd := rd_any (U := ids (LM (LoopA.ob R0) v)) (hg.rd (by decide)) fun c hc => st.ids_lt hc
  have hl' : loopAt wj' (w4.size + 1) = some R0 := loop_of (st'.box (w4.size + 1, .obj (LoopA.ob R0)) (nth_mem (i := 0) rfl) rfl).1.1
  refine hY _ _ wj' _ hl' ⟨hl', fun wb hwb => ?_⟩
  subst hwb
  obtain ⟨stb, xb⟩ := st'.setObj 0 (o2 := busyOb R0) rfl busy_no
  have stb : Ow A [] w _ (LM (busyOb R0) v) := stb
  have hgb := Ga.x' hga' xb st'
  refine onM_s (v := v) (stb.ld 4 rfl rfl) ?_
  have hlen := cleanN_length b j
  refine Ow.appSrc (r := rU) (l' := sector b j) stb hgb (Rs.src (hrd.x xb).rsB) (Chk.bytes.2 rfl) (by decide) (fun c hc => pv.new c (by have := stb.size; omega)) (by rw [hlen, sector_length]; omega) (by rw [hlen, sector_length]; omega) fun v' w13 st13 x13 hg13 => ?_
  refine gd_t (hg13.rd (by decide)).ok1 (st13.put 4 rfl (by simp) fun w14 st14 x14 => ?_)
  have hg14 := Ga.x' hg13 x14 st13
  refine ⟨{ R0 with st := .busy }, loop_of (st14.box (w4.size + 1, .obj (busyOb R0)) (nth_mem (i := 0) rfl) rfl).1.1, .inl ⟨rfl, ?_⟩⟩
  rw [ready_eq hst hpend]
  obtain ⟨st15, x15⟩ := st14.setObj 0 (o2 := LoopA.ob R0) rfl ob_no
  exact ⟨v', st15, by rw [cleanN_succ]; exact Ga.x' hg14 x15 st14, by omega⟩
 ·rintro j wx ⟨v, st, hga, hj⟩ hge hor
  obtain rfl : j = nsec b := by unfold nsec at hj ⊢; omega
  refine ⟨R0, loop_of (st.box (w4.size + 1, .obj (LoopA.ob R0)) (nth_mem (i := 0) rfl) rfl).1.1, by rw [hst]; simp, ?_⟩
  rw [hpend]
  obtain ⟨st7, x7⟩ := st.setObj 0 (o2 := LoopA.ob { R0 with st := .exhausted, pending := none }) rfl ob_no
  refine onM_s (v := v) (st7.ld 4 rfl rfl) ?_
  have hdd := (st7.box (w4.size, .obj .deferred) (nth_mem (i := 1) rfl) rfl).1.1
  obtain ⟨st8, x8⟩ := st7.setObj 1 (o2 := .gone) rfl (fun _ _ _ _ h => by cases h)
  exact onM_s (take_one hdd) (hK _ _ st8.fr (Ga.x' (Ga.x' hga x7 st) x8 st7).out)
theorem s36 {v1 v2 : AV} {a b : Byts} (hh : HK hk) (h1 : RsB w v1 a) (h2 : RsB w v2 b) (hl : a.length < 2 ^ 60) (hl2 : b.length < 2 ^ 60) (hK : K (.bool (a == b)) w) : Cl Try.prog hk 36 [v1, v2] w K := by
 apply in36 (hh.no _ _ _ (by decide) (by decide))
 unfold F36
 refine ⟨_, h1.len, _, h2.len, ifT_nd (fun hne => ?_) fun he => ⟨_, h1.len, ?_⟩⟩
 ·have : (a == b) = false := by
   rw [beq_eq_false_iff_ne]; rintro rfl; exact hne rfl
  rw [this] at hK; exact hK
 ·have he : a.length = b.length := by omega
  refine loopP_ind (fun m l w7 => ∃ j : Nat, j ≤ a.length ∧ m = a.length - j ∧ l = [.int .i64 j] ∧ w7 = w ∧ a.take j = b.take j) ?_ ⟨0, Nat.zero_le _, rfl, rfl, rfl, rfl⟩
  rintro m l w7 ⟨j, hj, rfl, rfl, rfl, heq⟩ R ih
  refine ⟨_, rfl, fun _ => ifT_d (fun hc => ?_) fun hc => ?_⟩
  ·have hja : j < a.length := by omega
   have hjb : j < b.length := by omega
   have at1 : ∀ {v : AV} {s : Byts} {K : Nat → Nat → Prop}, RsB w7 v s → ∀ hjs : j < s.length, (∀ b o, ld w7 b o = some (.int .u8 (s[j].toNat : Int)) → K b o) → atP (idxS 1 v (.int .i64 (j : Int))) K := fun {v s K} h hjs hK => by
    refine Rs.at (w := w7) (sz := 1) (n := s.length) h (i := (j : Int)) (by omega) (by omega) fun b o hf _ => hK b o ?_
    have := hf 0 (by decide)
    rw [Nat.add_zero] at this
    rw [this]; simp [cellsOfBytes, hjs]
   refine at1 h1 hja fun b1 o1 g1 => ⟨_, g1, at1 h2 hjb fun b2 o2 g2 => ⟨_, g2, ifT_nd (fun hne => ?_) fun heq2 => ?_⟩⟩
   ·have : (a == b) = false := by
     rw [beq_eq_false_iff_ne]; rintro rfl; exact hne rfl
    rw [this] at hK; exact hK
   ·have e : a[j] = b[j] := UInt8.toNat_inj.1 (by omega)
    refine ih (a.length - (j + 1)) (by omega) _ _ ⟨j + 1, by omega, rfl, by rw [wi_eq (by omega) (by omega)]; rfl, rfl, ?_⟩
    rw [← List.take_append_getElem hja, ← List.take_append_getElem hjb, heq, e]
  ·have e : a = b := by
    have h1 : a.take j = a := List.take_of_length_le (by omega)
    have h2 : b.take j = b := List.take_of_length_le (by omega)
    rw [← h1, ← h2]; exact heq
   have : (a == b) = true := by rw [e]; simp
   rw [this] at hK; exact hK
end
end Go.Proofs.Ytdlogcincelccaa
