/-
  Save, over memory.
  No condition beyond those that each theorem names.
-/
import Derived.Test.YtgobllfkiannfaaPU11
import Derived.Test.YtgobllfkiannfaaWK11
set_option linter.unusedSimpArgs false
open Go.Sx
set_option linter.unusedVariables false
set_option linter.unusedSimpArgs false
namespace Go.Proofs.Ytgobllfkiannfaa
abbrev fnsC (D S b28 b7 b3 b19 b5 : Nat) : List AV := [.func 23 [] [.ptr b28 0], .func 25 [] [.ptr b28 0, .ptr b7 0], .func 27 [.ptr S 0] [], .func 28 [] [.ptr b3 0, .ptr b19 0, .ptr b5 0], .func 30 [.ptr D 0] []]
abbrev SvM (D S b33 b28 b19 b7 b5 b3 : Nat) (t nm : Byts) (bv : AV) (L : Obs) : Obs :=
  (b33, .row (fnsC D S b28 b7 b3 b19 b5)) :: (b28, .row [.ptr S 0]) :: (b19, .row [.str t]) :: (b7, .row [bv]) :: (b5, .row [.str nm]) :: (b3, .row [.ptr D 0]) :: L
section
variable {hk : Hook} {A B : Nat → Prop} {I : List Nat} {w0 w w' : AW} {D S : Nat} {i i' : DI} {d d' : Dsk} {k k' : Nat} {L L' : Obs} {K : AV → AW → Prop} {nm t b : Byts} {N : Nms} {G : Int → List Byts} {bv ev : AV} {ef : Nat} {eo : Ob}
theorem s24e (hh : HK hk) (h : Dk A [] w0 w D i d k ((S, .row (segC D nm bv ev false)) :: (ef, eo) :: L)) (hes : Sv 1 eo ev (cst [])) (hK : K (.int .i64 0) w) : Cl Try.prog hk 24 [.ptr S 0, .int .i64 0] w K := by
  apply in24 (hh.no _ _ _ (by decide) (by decide))
  unfold F24
  have hrs := h.ow.sv (i := 7) (f := ef) (o := eo) rfl hes (by decide) (k := 0) rfl
  refine s59 (D := D) (br := false) hh (h.ow.ld 6 rfl rfl) (h.ow.ld 6 rfl rfl) ⟨0, rfl, ifT_f (ifT_d (fun h => by omega) fun _ => ?_)⟩
  simp only [onP]
  refine onM_s (v := ev) (h.ow.ld 6 rfl rfl) ⟨_, hrs.len, ifT_d (fun h => by omega) fun _ => ?_⟩
  exact onM_s (v := ev) (h.ow.ld 6 rfl rfl) ⟨_, hrs.len, ifT_t hK⟩
set_option maxRecDepth 20000 in
theorem s7 (hh : HK hk) (h : Dk A [] w0 w D i d k L) (hb : (rL rU).rd (fz A (dkU D i L)) w [bv] b) (hbl : b.length ≤ 600) (hn1 : 1 ≤ nm.length) (hn2 : nm.length ≤ 63) (hkk : k + 100000 < 2 ^ 27) (hM : Md d (nm ++ [126]) N G) (hd : d.down = false) (hr : Rest d) (hN : N.length < 256) (hN0 : nget N [] = none)
    (hK : ∀ i' w' d' e, Dk A [] w0 w' D i' d' (k + 100000) L → Xt (dkU D i L) w (dkU D i' L) w' → SaveEnd d' e (nm ++ [126]) nm N G b → (Qu d → e = 0 ∧ Qu d') → K (.int .i64 e) w') : Cl Try.prog hk 7 [.ptr D 0, .str nm, bv] w K := by
  apply in7 (hh.no _ _ _ (by decide) (by decide))
  unfold F7
  have hnt : nm ++ [126] ≠ nm := fun e => by have := congrArg List.length e; simp at this
  have htn : named (nm ++ [126]) = true := by unfold named; simp; omega
  have hnn : named nm = true := by unfold named; simp; omega
  have htne : nm ++ [126] ≠ [] := by simp
  have hstr : strOp .add nm [126] = some (.str (nm ++ [126])) := by
    show (if nm.length + 1 < 2 ^ 62 then _ else _) = _
    rw [if_pos (by omega)]
  have hs0 : d.sync [] = (d, 70) := by
    have : nget d.now.names [] = none := by
      rcases hM.2 with h | ⟨f, h⟩
      · rw [h.names]; exact hN0
      · rw [h.names]
        unfold nget at hN0 ⊢
        rw [List.find?_append]
        cases hq : N.find? (fun x => decide (x.1 = [])) with
        | some y => rw [hq] at hN0; cases hN0
        | none => simp
    unfold Dsk.sync
    rw [this]
  refine gd_t rfl (h.new' fun b3 w4 h4 x4 => h4.new' fun b5 w6 h6 x6 => gd_t hb.ok1 (h6.new' fun b7 w8 h8 x8 => ?_))
  have x08 := (x4.trans x6).trans x8
  refine onM_s (v := .ptr D 0) (h8.ow.ld 8 rfl rfl) (s9 hh h8 ?_)
  rw [hs0]
  intro i11 w11 h11 x11
  have x011 := x08.trans x11
  refine ⟨70, rfl, ifT_f ⟨nm, h11.ow.ld 7 rfl rfl, ifT_d (fun h => absurd h (by simp only [Int.ofNat_eq_natCast]; omega)) fun _ => ⟨nm, h11.ow.ld 7 rfl rfl, ifT_d (fun h => absurd h (by simp only [Int.ofNat_eq_natCast]; omega)) fun _ => ?_⟩⟩⟩
  refine onM_s (v := bv) (h11.ow.ld 6 rfl rfl) ⟨_, hb.len', ifT_d (fun h => by omega) fun _ => ⟨nm, h11.ow.ld 7 rfl rfl, nm ++ [126], hstr, h11.new' fun b19 w20 h20 x20 => h20.wr 0 rfl (by simp) fun w21 h21 x21 => ?_⟩⟩
  have h21 : Dk A [] w0 w21 D i11 d k ((b19, .row [.str (nm ++ [126])]) :: (b7, .row [bv]) :: (b5, .row [.str nm]) :: (b3, .row [.ptr D 0]) :: L) := h21
  have x021 := (x011.trans x20).trans x21
  generalize ht : nm ++ [126] = t at *
  refine onM_s (v := .ptr D 0) (h21.ow.ld 9 rfl rfl) ⟨t, h21.ow.ld 6 rfl rfl, ?_⟩
  obtain ⟨o1, o2, d1, e1, ho, hM1, hq1, hok1⟩ := open_md htn hM hd hr
  refine s22 hh h21 (by omega) (by omega) (fun hne i25 w25 h25 x25 => ?_) (fun h0 S1 bs1 ev1 ef1 eo1 i25 w25 h25 x25 hbs1 hsv1 => ?_)
  · rw [ho] at hne h25 ⊢
    refine ⟨_, _, rfl, h25.new' fun b28 w29 h29 x29 => gd_t rfl (h29.wr 0 rfl (by simp) fun w30 h30 x30 => ifT_nd (fun _ => ?_) fun h => absurd h hne)⟩
    obtain ⟨h31, x31⟩ := Dk.spoilM (M := [_, _, _, _, _]) (L := L) h30 (Nat.le_refl _) h30.ow.mem fun _ _ _ => rfl
    exact hK _ _ _ _ (h31.le (by omega) hkk) ((((x021.trans x25).trans x29).trans x30).trans x31) (.inl ⟨hne, .inl hM1⟩) hq1
  · rw [ho] at h0 h25
    simp only at h0 h25
    subst h0
    obtain ⟨hd1, hr1, hst1⟩ := hok1 rfl
    have hkt : kept (d.read t).1 = (stream (d.read t).1).take (sizeE (ends (stream (d.read t).1))) := rfl
    have hek : ends (kept (d.read t).1) = ends (stream (d.read t).1) := by rw [hkt]; exact (ends_take _).1
    rw [← hek] at hsv1
    have hsz : (kept (d.read t).1).length = sizeE (ends (kept (d.read t).1)) := by rw [hek]; exact (ends_take _).2
    generalize kept (d.read t).1 = Bs at *
    refine ⟨_, _, rfl, h25.new' fun b28 w29 h29 x29 => gd_t rfl (h29.wr 0 rfl (by simp) fun w30 h30 x30 => ifT_f ?_)⟩
    obtain ⟨h31, x31⟩ := h30.permL (L' := (S1, .row (segC D t bs1 ev1 false)) :: (ef1, eo1) :: (b28, .row [.ptr S1 0]) :: (b19, .row [.str t]) :: (b7, .row [bv]) :: (b5, .row [.str nm]) :: (b3, .row [.ptr D 0]) :: L) ((List.perm_append_comm (l₁ := [(b28, Ob.row [.ptr S1 0])]) (l₂ := [(S1, .row (segC D t bs1 ev1 false)), (ef1, eo1)])).append_right _)
    refine onM_s (v := .ptr S1 0) (h31.ow.ld 8 rfl rfl) (onM_s (v := .ptr D 0) (h31.ow.ld 12 rfl rfl) (h31.new' fun b33 w34 h34 x34 => ?_))
    obtain ⟨h35, x35⟩ := h34.permL (L' := (S1, .row (segC D t bs1 ev1 false)) :: (ef1, eo1) :: SvM D S1 b33 b28 b19 b7 b5 b3 t nm bv L) ((List.perm_append_comm (l₁ := [(b33, Ob.row (fnsC D S1 b28 b7 b3 b19 b5))]) (l₂ := [(S1, .row (segC D t bs1 ev1 false)), (ef1, eo1)])).append_right _)
    have x035 := (((((x021.trans x25).trans x29).trans x30).trans x31).trans x34).trans x35
    have hbs35 := ((((hbs1.x x29).x x30).x x31).x x34).x x35
    clear hbs1 h34 h31 h30 h29 h25 h21 h20 h11 h8 h6 h4
    refine ⟨5, rfl, ?_⟩
    intro R hR
    -- an error, or the end
    have fin : ∀ (i' : DI) (w' : AW) (d' : Dsk) (e : Int) (bs ev : AV) (br : Bool) (ef : Nat) (eo : Ob), Dk A [] w0 w' D i' d' (k + 60000) ((S1, .row (segC D t bs ev br)) :: (ef, eo) :: SvM D S1 b33 b28 b19 b7 b5 b3 t nm bv L) → Xt (dkU D i L) w (dkU D i' ((S1, .row (segC D t bs ev br)) :: (ef, eo) :: SvM D S1 b33 b28 b19 b7 b5 b3 t nm bv L)) w' → SaveEnd d' e t nm N G b → (Qu d → e = 0 ∧ Qu d') → K (.int .i64 e) w' := by
      intro i' w' d' e bs ev br ef eo h1 x1 h2 h3
      obtain ⟨h4, x4⟩ := Dk.spoilM (M := [_, _, _, _, _, _, _, _]) (L := L) h1 (Nat.le_refl _) h1.ow.mem fun _ _ _ => rfl
      exact hK _ _ _ _ (h4.le (by omega) hkk) (x1.trans x4) h2 h3
    -- SyncNames
    have g4 : ∀ (i' : DI) (w' : AW) (d' : Dsk) (f : Int) (bs ev : AV) (br : Bool) (ef : Nat) (eo : Ob), Dk A [] w0 w' D i' d' (k + 50000) ((S1, .row (segC D t bs ev br)) :: (ef, eo) :: SvM D S1 b33 b28 b19 b7 b5 b3 t nm bv L) → Xt (dkU D i L) w (dkU D i' ((S1, .row (segC D t bs ev br)) :: (ef, eo) :: SvM D S1 b33 b28 b19 b7 b5 b3 t nm bv L)) w' → d'.fault = 0 → Rn d' t nm N G f b → (Qu d → Qu d') → R [.int .i64 4] w' := by
      intro i' w' d' f bs ev br ef eo h1 x1 hf hRn hq
      refine hR _ _ ⟨4, rfl, fun _ => ifT_t ?_⟩
      refine idx0 (k := 4) (by decide) (onM_s (v := .func 30 [.ptr D 0] []) (h1.ow.ld 8 rfl rfl) ?_)
      obtain ⟨d2, e2, hy, hf2, hq2, hne2, h02⟩ := names_md hnt hf hRn
      refine s30 hh h1 ?_
      rw [hy]
      intro i2 w2 h2 x2
      refine ⟨e2, rfl, ifT_nd (fun he => ?_) fun he => ?_⟩
      · exact fin i2 w2 d2 e2 _ _ _ _ _ (h2.le (by omega) (by omega)) (x1.trans x2) (.inl ⟨he, .inr ⟨f, hne2 he⟩⟩) fun q => hq2 (hq q)
      · subst he
        obtain ⟨a1, a2, a3⟩ := h02 rfl
        exact hR _ _ ⟨5, rfl, fun _ => ifT_f (fin i2 w2 d2 0 _ _ _ _ _ (h2.le (by omega) (by omega)) (x1.trans x2) (.inr ⟨rfl, hf2, a1, f, a2, a3, hRn.fN⟩) fun q => hq2 (hq q))⟩
    -- Rename
    have g3 : ∀ (i' : DI) (w' : AW) (d' : Dsk) (f : Int) (bs ev : AV) (br : Bool) (ef : Nat) (eo : Ob), Dk A [] w0 w' D i' d' (k + 40000) ((S1, .row (segC D t bs ev br)) :: (ef, eo) :: SvM D S1 b33 b28 b19 b7 b5 b3 t nm bv L) → Xt (dkU D i L) w (dkU D i' ((S1, .row (segC D t bs ev br)) :: (ef, eo) :: SvM D S1 b33 b28 b19 b7 b5 b3 t nm bv L)) w' → Fu d' t N G f b → Rest d' → (Qu d → Qu d') → R [.int .i64 3] w' := by
      intro i' w' d' f bs ev br ef eo h1 x1 hFu hRe hq
      refine hR _ _ ⟨3, rfl, fun _ => ifT_t ?_⟩
      refine idx0 (k := 3) (by decide) (onM_s (v := .func 28 [] [.ptr b3 0, .ptr b19 0, .ptr b5 0]) (h1.ow.ld 8 rfl rfl) ?_)
      obtain ⟨d2, e2, hy, hq2, hne2, h02⟩ := ren_md hnt hnn hFu hRe
      show Cl Try.prog hk 28 [.ptr b3 0, .ptr b19 0, .ptr b5 0] w' _
      apply in28 (hh.no _ _ _ (by decide) (by decide))
      unfold F28
      simp only [onP]
      refine onM_s (v := .ptr D 0) (h1.ow.ld 13 rfl rfl) ⟨t, h1.ow.ld 10 rfl rfl, nm, h1.ow.ld 12 rfl rfl, s29 hh h1 (by omega) ?_⟩
      rw [hy]
      intro i2 w2 h2 x2
      refine ⟨e2, rfl, e2, rfl, ifT_nd (fun he => ?_) fun he => ?_⟩
      · exact fin i2 w2 d2 e2 _ _ _ _ _ (h2.le (by omega) (by omega)) (x1.trans x2) (.inl ⟨he, .inl (hne2 he)⟩) fun q => hq2 (hq q)
      · subst he
        obtain ⟨a1, a2, a3⟩ := h02 rfl
        exact g4 i2 w2 d2 f _ _ _ _ _ (h2.le (by omega) (by omega)) (x1.trans x2) a1 a3 fun q => (hq2 (hq q)).2
    -- Sync
    have g2 : ∀ (i' : DI) (w' : AW) (d' : Dsk) (f : Int) (bs ev : AV) (ef : Nat) (eo : Ob), Dk A [] w0 w' D i' d' (k + 30000) ((S1, .row (segC D t bs ev false)) :: (ef, eo) :: SvM D S1 b33 b28 b19 b7 b5 b3 t nm bv L) → Xt (dkU D i L) w (dkU D i' ((S1, .row (segC D t bs ev false)) :: (ef, eo) :: SvM D S1 b33 b28 b19 b7 b5 b3 t nm bv L)) w' → Fu d' t N G f b → (Qu d → Qu d') → R [.int .i64 2] w' := by
      intro i' w' d' f bs ev ef eo h1 x1 hFu hq
      refine hR _ _ ⟨2, rfl, fun _ => ifT_t ?_⟩
      refine idx0 (k := 2) (by decide) (onM_s (v := .func 27 [.ptr S1 0] []) (h1.ow.ld 8 rfl rfl) ?_)
      obtain ⟨d2, e2, hy, h70, hM2, hq2, h02⟩ := sync_md hFu
      refine s27 hh h1 fun i2 w2 h2 x2 => ?_
      rw [hy] at h2 x2 ⊢
      simp only at h2 x2 ⊢
      rw [if_neg h70]
      refine ⟨e2, rfl, ifT_nd (fun he => ?_) fun he => ?_⟩
      · exact fin i2 w2 d2 e2 _ _ _ _ _ (h2.le (by omega) (by omega)) (x1.trans x2) (.inl ⟨he, .inl hM2⟩) fun q => hq2 (hq q)
      · subst he
        obtain ⟨a1, a2⟩ := h02 rfl
        exact g3 i2 w2 d2 f _ _ _ _ _ (h2.le (by omega) (by omega)) (x1.trans x2) a1 a2 fun q => (hq2 (hq q)).2
    -- Append
    have g1 : ∀ (i' : DI) (w' : AW) (d' : Dsk) (bs ev : AV) (ef : Nat) (eo : Ob), Dk A [] w0 w' D i' d' (k + 20000) ((S1, .row (segC D t bs ev false)) :: (ef, eo) :: SvM D S1 b33 b28 b19 b7 b5 b3 t nm bv L) → Xt (dkU D i L) w (dkU D i' ((S1, .row (segC D t bs ev false)) :: (ef, eo) :: SvM D S1 b33 b28 b19 b7 b5 b3 t nm bv L)) w' → Rd d' t N G → (Qu d → Qu d') → (rL rU).rd (fz A (dkU D i' ((S1, .row (segC D t bs ev false)) :: (ef, eo) :: SvM D S1 b33 b28 b19 b7 b5 b3 t nm bv L))) w' [bs] [] → Sv 1 eo ev (cst []) → R [.int .i64 1] w' := by
      intro i' w' d' bs ev ef eo h1 x1 hRd hq hbs hsv
      refine hR _ _ ⟨1, rfl, fun _ => ifT_t ?_⟩
      refine idx0 (k := 1) (by decide) (onM_s (v := .func 25 [] [.ptr b28 0, .ptr b7 0]) (h1.ow.ld 8 rfl rfl) ?_)
      obtain ⟨d2, e2, hy, hM2, hq2, h02⟩ := app_md htn hN hRd hbl
      show Cl Try.prog hk 25 [.ptr b28 0, .ptr b7 0] w' _
      apply in25 (hh.no _ _ _ (by decide) (by decide))
      unfold F25
      simp only [onP]
      refine onM_s (v := .ptr S1 0) (h1.ow.ld 9 rfl rfl) (onM_s (v := bv) (h1.ow.ld 11 rfl rfl) ?_)
      have hb1 := hb.x x1
      refine s26 (body := b) (bs := []) (es := []) hh h1 hbs hsv (fun w' _ _ _ hd hx => (hb1.x hx).rsB) (by omega) (by simp; omega) (by decide) (by omega) (fun h0 i2 w2 bv4 ev4 ef4 eo4 h2 x2 hbv4 hsv4 => ?_) (fun h0 i2 w2 h2 x2 => ?_)
      · rw [hy] at h0 h2
        simp only at h0 h2
        subst h0
        obtain ⟨f, a1⟩ := h02 rfl
        exact ⟨_, _, rfl, _, rfl, ifT_f (g2 i2 w2 d2 f _ _ _ _ (h2.le (by omega) (by omega)) (x1.trans x2) a1 fun q => (hq2 (hq q)).2)⟩
      · rw [hy] at h0 h2 ⊢
        simp only at h0 h2 ⊢
        exact ⟨_, _, rfl, _, rfl, ifT_nd (fun he => fin i2 w2 d2 e2 _ _ _ _ _ (h2.le (by omega) (by omega)) (x1.trans x2) (.inl ⟨he, .inl hM2⟩) fun q => hq2 (hq q)) fun h => absurd h h0⟩
    -- Truncate
    refine hR _ _ ⟨0, rfl, fun _ => ifT_t ?_⟩
    refine idx0 (k := 0) (by decide) (onM_s (v := .func 23 [] [.ptr b28 0]) (h35.ow.ld 8 rfl rfl) ?_)
    show Cl Try.prog hk 23 [.ptr b28 0] w34 _
    apply in23 (hh.no _ _ _ (by decide) (by decide))
    unfold F23
    simp only [onP]
    refine onM_s (v := .ptr S1 0) (h35.ow.ld 9 rfl rfl) ?_
    by_cases hE : ends Bs = []
    · rw [hE] at hsv1
      have hB0 : Bs = [] := by
        rw [hE] at hsz
        exact List.length_eq_zero_iff.1 hsz
      refine s24e hh h35 hsv1 ⟨_, rfl, _, rfl, ifT_f ?_⟩
      subst hB0
      refine g1 _ w34 d1 _ _ _ _ (h35.le (by omega) (by omega)) x035 ⟨hM1.1, hd1, hr1, ?_⟩ (fun q => (hq1 q).2) hbs35 hsv1
      rcases hst1 with ⟨h, _⟩ | ⟨f, h, hS⟩
      · exact .inl h
      · exact .inr ⟨f, h, by
          have := hS.len
          have : (d1.now.files f).length = 0 := this
          exact List.length_eq_zero_iff.1 this⟩
    · have hl : 0 < (ends Bs).length := List.length_pos_iff.2 hE
      rcases hst1 with ⟨_, rfl⟩ | ⟨f, hTk, hS⟩
      · exact absurd rfl hE
      · obtain ⟨d2, e2, hy, hM2, hq2, h02⟩ := trunc_md htn hTk hM1.1 hd1
        have hs0 : stE (ends Bs) 0 = 0 := rfl
        refine s24 (m := 0) hh h35 hbs35 hsv1 hl (by have := (parse_le (Bs.length + 1) Bs 0 (Nat.zero_le _)).1; have : (ends Bs).length ≤ Bs.length := this; omega) (by rw [hs0]; omega) (by omega) (by omega) fun i2 w2 bs2 ev2 ef2 eo2 h2 x2 hbs2 hsv2 => ?_
        rw [hs0, List.take_zero] at h2 x2 hbs2 ⊢
        rw [hy] at h2 x2 hbs2 ⊢
        simp only at h2 x2 hbs2 ⊢
        refine ⟨_, rfl, _, rfl, ifT_nd (fun he => ?_) fun he => ?_⟩
        · exact fin i2 w2 d2 e2 _ _ _ _ _ (h2.le (by omega) (by omega)) (x035.trans x2) (.inl ⟨he, .inl hM2⟩) fun q => hq2 (hq1 q).2
        · subst he
          exact g1 i2 w2 d2 _ _ _ _ (h2.le (by omega) (by omega)) (x035.trans x2) (h02 rfl) (fun q => (hq2 (hq1 q).2).2) hbs2 hsv2
end
end Go.Proofs.Ytgobllfkiannfaa
