/-
  Broken, Made, Pick, begins, Clone, Sync, Truncate, over memory.
  No condition beyond those that each theorem names.
-/
import Derived.Test.YtgobllfkiannfaaP11
set_option linter.unusedSimpArgs false
open Go.Sx
set_option linter.unusedVariables false
set_option linter.unusedSimpArgs false
namespace Go.Proofs.Ytgobllfkiannfaa
section
variable {hk : Hook} {A B : Nat → Prop} {I : List Nat} {w0 w w' : AW} {D S : Nat} {i i' : DI} {d d' : Dsk} {k k' : Nat} {L L' : Obs} {K : AV → AW → Prop} {nm bs : Byts} {E : List Nat} {bv ev : AV} {br : Bool} {ef : Nat} {eo : Ob}
theorem slS_ne {sz b o n cap : Nat} {ex : Option Nat} {lo hi mx : Option AV} {v : AV} (h : slS sz (.slice b o n cap ex) lo hi mx = some v) : v ≠ .nilslice := by
  rintro rfl
  simp only [slS, Option.bind_eq_some_iff] at h
  obtain ⟨_, _, _, _, _, _, h⟩ := h
  unfold guardO at h
  revert h
  cases (okB _ _ _ _ && okEx _ _ && _) <;> intro h <;> cases h
theorem s62 {v : AV} {es : List Int} (hh : HK hk) (hm : Mem w) (hw : 0 < w.size) (h : RsI w v es) (hv : v ≠ .nilslice) (hs : es.length < 2 ^ 30) (hK : ∀ c ex w', Fr w.size w w' → w.size ≤ c → Box w' c (es.map (AV.int .i64)) → (ex = none ∨ ex = some 1) → K (.slice c 0 es.length es.length ex) w') : Cl Try.prog hk 62 [v] w K := by
  apply in62 (hh.no _ _ _ (by decide) (by decide))
  unfold F62
  have hsl : ∃ b o n cap ex, v = .slice b o n cap ex := by
    rcases h with ⟨rfl, _⟩ | ⟨b, o, cap, ex, al, rfl, _⟩
    · exact absurd rfl hv
    · exact ⟨_, _, _, _, _, rfl⟩
  obtain ⟨b, o, n, cap, ex, rfl⟩ := hsl
  refine ⟨false, by kernel_rfl, ifT_f (new_of hm fun w3 f3 b3 z3 => ?_)⟩
  have h3 : RsI w3 (.slice b o n cap ex) es := Rs.fr h hm f3 (Nat.le_refl _)
  have hx := Rs.src h3
  by_cases hn : es.length = 0
  · have : es = [] := by simpa using hn
    subst this
    refine onE_s (v := .slice w.size 0 0 0 none) (w := w3) ?_ (hK w.size none w3 f3 (Nat.le_refl _) b3 (.inl rfl))
    simp only [appS, hx.read, Option.bind_some]; rfl
  · have f1 : Fr w3.size w3 (newCells w3 (es.map (AV.int .i64))) := Fr.push f3.mem fun cs' f own d e => by cases e; exact Nat.le_refl _
    have b1 : Box (newCells w3 (es.map (AV.int .i64))) w3.size (es.map (AV.int .i64)) := by simp [Box, newCells, cellsAO]
    refine onE_s (v := .slice w3.size 0 es.length es.length (some 1)) (w := newCells w3 (es.map (AV.int .i64))) ?_ (hK _ _ _ (f3.trans f1 (by omega)) (by omega) b1 (.inr rfl))
    have e0 : Nat.ble es.length 0 = false := by
      cases he : Nat.ble es.length 0 with
      | false => rfl
      | true => rw [Nat.ble_eq] at he; omega
    have e1 : Nat.blt ((2 * es.length + 1000) * 8) Sx.room = true := by rw [Nat.blt_eq]; unfold Sx.room; omega
    have e2 : Nat.blt es.length (2 ^ 62) = true := by rw [Nat.blt_eq]; omega
    have e4 : takeCells ([] : List AV) 0 (0 * 1) = some [] := rfl
    simp only [appS, hx.read, Option.bind_some, beq_ff hn, cond_false, hx.ok, guardO, e0, e1, e2, Bool.and_self, cond_true, growA, b3.cells, e4, List.nil_append, Nat.zero_add]
    rfl
theorem s27 (hh : HK hk) (h : Dk A I w0 w D i d k ((S, .row (segC D nm bv ev false)) :: L))
    (hK : ∀ i' w', Dk A I w0 w' D i' (d.sync nm).1 k ((S, .row (segC D nm bv ev (decide ((d.sync nm).2 ≠ 0 ∧ (d.sync nm).2 ≠ 70)))) :: L) → Xt (dkU D i ((S, .row (segC D nm bv ev false)) :: L)) w (dkU D i' ((S, .row (segC D nm bv ev (decide ((d.sync nm).2 ≠ 0 ∧ (d.sync nm).2 ≠ 70)))) :: L)) w' → K (.int .i64 (if (d.sync nm).2 = 70 then 0 else (d.sync nm).2)) w') : Cl Try.prog hk 27 [.ptr S 0] w K := by
  apply in27 (hh.no _ _ _ (by decide) (by decide))
  unfold F27
  refine s59 (D := D) (br := false) hh (h.ow.ld 6 rfl rfl) (h.ow.ld 6 rfl rfl) ⟨0, rfl, ifT_f ?_⟩
  simp only [onP]
  refine onM_s (v := .ptr D 0) (h.ow.ld 6 rfl rfl) ⟨nm, h.ow.ld 6 rfl rfl, s9 hh h ?_⟩
  generalize d.sync nm = r at *
  obtain ⟨d1, e⟩ := r
  intro i' w' h' x'
  refine ⟨e, rfl, ?_⟩
  simp only at hK h' x'
  refine ifT_d (fun he => ?_) fun he => s66 hh (fun h0 => ⟨e, by rw [h0], ?_⟩) fun h0 => ?_
  · subst he
    exact hK i' w' h' x'
  · subst h0
    exact hK i' w' h' x'
  · rw [show decide (e ≠ 0 ∧ e ≠ 70) = true by simp [h0, he], if_neg he] at hK
    exact h'.wr 0 rfl (by simp [segC]) fun w2 h2 x2 => ⟨e, rfl, hK i' w2 h2 (x'.trans x2)⟩
theorem dk_pushAcc (h : Dk A I w0 w D i d k L) (hf : Fr w.size w w') {b : Nat} {cs : List AV} (hb : Box w' b cs) (hl : w.size ≤ b) : Dk A I w0 w' D i d k ((b, .acc b cs) :: L) ∧ Xt (dkU D i L) w (dkU D i ((b, .acc b cs) :: L)) w' := by
  obtain ⟨st, x⟩ := h.ow.push (p := (b, .acc b cs)) rfl hf hl ⟨⟨b, false, hb⟩, AW.root?_iff.2 ⟨_, hb, rfl⟩⟩
  obtain ⟨st2, x2⟩ := st.perm (L' := dkL D i d ((b, .acc b cs) :: L)) dkL_mid
  have x3 : Xt (dkU D i L) w (dkU D i ((b, .acc b cs) :: L)) w' := x.trans x2
  exact ⟨h.x st2 x3, x3⟩
set_option maxRecDepth 20000 in
theorem s24 {m : Nat} (hh : HK hk) (h : Dk A [] w0 w D i d k ((S, .row (segC D nm bv ev false)) :: (ef, eo) :: L)) (hbs : (rL rU).rd (fz A (dkU D i ((S, .row (segC D nm bv ev false)) :: (ef, eo) :: L))) w [bv] bs) (hes : Sv 1 eo ev (cst E))
    (hm : m < E.length) (hE2 : E.length < 2 ^ 29) (hst : stE E m ≤ bs.length) (hl : bs.length ≤ 253952) (hkk : k + 10000 < 2 ^ 27)
    (hK : ∀ i' w' bv' ev' ef' eo', Dk A [] w0 w' D i' (trimD nm (bs.take (stE E m)) d).1 (k + 10000) ((S, .row (segC D nm bv' ev' (decide ((trimD nm (bs.take (stE E m)) d).2 ≠ 0)))) :: (ef', eo') :: L) →
      Xt (dkU D i ((S, .row (segC D nm bv ev false)) :: (ef, eo) :: L)) w (dkU D i' ((S, .row (segC D nm bv' ev' (decide ((trimD nm (bs.take (stE E m)) d).2 ≠ 0)))) :: (ef', eo') :: L)) w' →
      (rL rU).rd (fz A (dkU D i' ((S, .row (segC D nm bv' ev' (decide ((trimD nm (bs.take (stE E m)) d).2 ≠ 0)))) :: (ef', eo') :: L))) w' [bv'] (bs.take (stE E m)) → Sv 1 eo' ev' (cst (E.take m)) → K (.int .i64 (trimD nm (bs.take (stE E m)) d).2) w') :
    Cl Try.prog hk 24 [.ptr S 0, .int .i64 (m : Int)] w K := by
  apply in24 (hh.no _ _ _ (by decide) (by decide))
  unfold F24
  have hrs := h.ow.sv (i := 7) (f := ef) (o := eo) rfl hes (by decide) (k := E.length) (by rw [cst_length]; omega)
  refine s59 (D := D) (br := false) hh (h.ow.ld 6 rfl rfl) (h.ow.ld 6 rfl rfl) ⟨0, rfl, ifT_f (ifT_d (fun h => by omega) fun _ => ?_)⟩
  simp only [onP]
  refine onM_s (v := ev) (h.ow.ld 6 rfl rfl) ⟨_, hrs.len, ifT_d (fun h => by omega) fun _ => ?_⟩
  refine onM_s (v := ev) (h.ow.ld 6 rfl rfl) ⟨_, hrs.len, ifT_d (fun h => by omega) fun _ => ?_⟩
  refine onM_s (v := bv) (h.ow.ld 6 rfl rfl) ?_
  have ecst : (E.map fun n : Nat => ((n : Nat) : Int)).map (AV.int .i64) = cst E := by simp [cst]
  have hI : RsI w ev (E.map fun n : Nat => ((n : Nat) : Int)) := by
    unfold RsI
    rw [ecst, List.length_map]; exact hrs
  refine s61 (i0 := m) hh (fun _ => h.ow.ld 6 rfl rfl) (fun _ => hI) (by simp; omega) (by omega) ⟨_, rfl, h.ow.ld 6 rfl rfl, ?_⟩
  have est : (if m = 0 then (0 : Int) else (E.map fun n : Nat => ((n : Nat) : Int)).getD (m - 1) 0) = ((stE E m : Nat) : Int) := by
    unfold stE
    split
    · rfl
    · rw [List.getD_eq_getElem?_getD, List.getD_eq_getElem?_getD, List.getElem?_map, List.getElem?_eq_getElem (by omega)]; rfl
  rw [est]
  obtain ⟨v19, hc19, hr19⟩ := hbs.cut (i := 0) (j := stE E m) (Nat.zero_le _) hst (.inr ⟨rfl, rfl⟩) (.inl rfl)
  refine onM_s hc19 (s60 hh h.ow.P hr19 (by simp; omega) fun v20 w21 f21 hg21 => ?_)
  rw [List.drop_zero] at hg21
  obtain ⟨h21, x21⟩ := h.fr f21
  have hr20 := hg21.rd (by decide)
  refine gd_t hr20.ok1 (h21.wr 0 rfl (by simp [segC]) fun w24 h24 x24 => ?_)
  refine onM_s (v := ev) (h24.ow.ld 6 rfl rfl) ?_
  have hrs24 := h24.ow.sv (i := 7) (f := ef) (o := eo) rfl hes (by decide) (k := E.length) (by rw [cst_length]; omega)
  have hne : ev ≠ .nilslice := by
    rintro rfl
    rcases hes with ⟨_, h2⟩ | ⟨_, _, _, _, h2, _⟩
    · have := congrArg List.length h2
      rw [cst_length] at this
      have : E.length = 0 := this
      omega
    · cases h2
  have hcut : ∃ v28, slS 1 ev none (some (.int .i64 (m : Int))) none = some v28 ∧ v28 ≠ .nilslice ∧ RsI w24 v28 ((E.take m).map fun n : Nat => ((n : Nat) : Int)) := by
    have hI24 : RsI w24 ev (E.map fun n : Nat => ((n : Nat) : Int)) := by
      unfold RsI
      rw [ecst, List.length_map]; exact hrs24
    rcases hes with ⟨h1, _⟩ | ⟨b, n, ex, ho, rfl, hn, hex⟩
    · exact absurd h1 hne
    · have hrd := hI24.rd (A := fun _ => True) (fun b' o' n' cap' ex' he => by
        cases he
        exact ⟨Nat.le_refl _, by rcases hex with rfl | rfl <;> rfl⟩) fun _ _ _ _ _ => ⟨trivial, trivial⟩
      obtain ⟨v28, hc, hr⟩ := hrd.cut (i := 0) (j := m) (Nat.zero_le _) (by simp; omega) (.inr ⟨rfl, rfl⟩) (.inl rfl)
      refine ⟨v28, hc, slS_ne hc, ?_⟩
      have := hr.rsI
      rw [List.drop_zero, ← List.map_take] at this; exact this
  obtain ⟨v28, hc28, hn28, hr28⟩ := hcut
  refine onM_s hc28 (s62 hh h24.ow.mem h24.ow.P0.pos hr28 hn28 (by simp; omega) fun c ex w30 f30 hc b30 hex => ?_)
  have e5 : ((E.take m).map fun n : Nat => ((n : Nat) : Int)).map (AV.int .i64) = cst (E.take m) := by unfold cst; rw [List.map_map]; rfl
  rw [e5] at b30
  obtain ⟨h30, x30⟩ := dk_pushAcc h24 f30 b30 hc
  have hsv : Sv 1 (.acc c (cst (E.take m))) (.slice c 0 ((E.take m).map fun n : Nat => ((n : Nat) : Int)).length ((E.take m).map fun n : Nat => ((n : Nat) : Int)).length ex) (cst (E.take m)) :=
    .inr ⟨c, _, ex, rfl, rfl, by rw [cst_length, List.length_map, Nat.mul_one], hex⟩
  refine gd_t rfl (h30.wr 1 rfl (by simp [segC, listPut]) fun w33 h33 x33 => ?_)
  have hp : List.Perm [(c, Ob.acc c (cst (E.take m))), (S, .row (segC D nm v20 (.slice c 0 ((E.take m).map fun n : Nat => ((n : Nat) : Int)).length ((E.take m).map fun n : Nat => ((n : Nat) : Int)).length ex) false)), (ef, eo)] [(ef, eo), (S, .row (segC D nm v20 (.slice c 0 ((E.take m).map fun n : Nat => ((n : Nat) : Int)).length ((E.take m).map fun n : Nat => ((n : Nat) : Int)).length ex) false)), (c, Ob.acc c (cst (E.take m)))] :=
    (List.reverse_perm _).symm
  obtain ⟨h34, x34⟩ := h33.permL (L' := (ef, eo) :: (S, .row (segC D nm v20 (.slice c 0 ((E.take m).map fun n : Nat => ((n : Nat) : Int)).length ((E.take m).map fun n : Nat => ((n : Nat) : Int)).length ex) false)) :: (c, Ob.acc c (cst (E.take m))) :: L) (List.Perm.append_right L hp)
  obtain ⟨h35, x35⟩ := h34.forget
  have xx := (((((x21.trans x24).trans x30).trans x33).trans x34).trans x35)
  have hr35 := ((((hr20.x x24).x x30).x x33).x x34).x x35
  refine s58 hh h35 hr35 (by simp; omega) hkk fun i' w' h' x' => ?_
  exact ⟨_, rfl, hK i' w' _ _ _ _ h' (xx.trans x') (hr35.x x') hsv⟩
end
end Go.Proofs.Ytgobllfkiannfaa
