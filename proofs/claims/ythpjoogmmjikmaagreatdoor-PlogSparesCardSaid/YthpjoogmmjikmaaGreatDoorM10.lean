/-
  Open of any file, over memory: the walk.
  No condition beyond those that each theorem names.
-/
import Derived.Test.YthpjoogmmjikmaaGreatDoorN10
set_option linter.unusedSimpArgs false
open Go.Sx
set_option linter.unusedVariables false
set_option linter.unusedSimpArgs false
namespace Go.Proofs.YthpjoogmmjikmaaGreatDoor
def cst (E : List Nat) : List AV := E.map fun n : Nat => AV.int .i64 ((n : Nat) : Int)
theorem cst_length (E : List Nat) : (cst E).length = E.length := List.length_map _
section
variable {hk : Hook} {A B : Nat → Prop} {I : List Nat} {w0 w w' : AW} {D S : Nat} {i i' : DI} {d d' : Dsk} {k k' : Nat} {L L' : Obs} {K : AV → AW → Prop} {nm bs : Byts} {E : List Nat} {bv ev : AV} {br : Bool} {ef : Nat} {eo : Ob}
theorem s47 (hh : HK hk) (h3 : ld w S 3 = some ev) (he : Rs w 1 E.length ev (cst E)) (hl : E.length < 2 ^ 60) (hK : K (.int .i64 (sizeE E : Nat)) w) : Cl Tryz.prog hk 47 [.ptr S 0] w K := by
  apply in47 (hh.no _ _ _ (by decide) (by decide))
  unfold F47
  refine ⟨false, by kernel_rfl, ifT_f ?_⟩
  simp only [onP]
  refine onM_s h3 ⟨_, he.len, ifT_d (fun hc => ?_) fun hc => ?_⟩
  · have : E = [] := by
      have : E.length = 0 := by omega
      simpa using this
    subst this
    exact hK
  · have hpos : 0 < E.length := by omega
    refine onM_s h3 (onM_s h3 ⟨_, he.len, ?_⟩)
    rw [show wi (((E.length : Nat) : Int) - 1) = ((E.length - 1 : Nat) : Int) by rw [wi_eq (by omega) (by omega)]; omega]
    refine Rs.at he (i := ((E.length - 1 : Nat) : Int)) (by omega) (by omega) fun b o hf _ => ⟨_, ?_, hK⟩
    have := hf 0 (by decide)
    rw [Nat.add_zero] at this
    rw [this]
    have hge : E.getLast? = some E[E.length - 1] := by
      rw [List.getLast?_eq_getElem?, List.getElem?_eq_getElem (by omega)]
    have : sizeE E = E[E.length - 1] := by
      unfold sizeE
      rw [List.getLastD_eq_getLast?, hge]; rfl
    rw [this]
    simp [cst, hpos]
    exact ⟨_, List.getElem?_eq_getElem (by omega), rfl⟩
set_option maxRecDepth 20000 in
theorem s43 (hh : HK hk) (h : Dk A [] w0 w D i d k L) (hb : (d.read nm).1.length ≤ 253952) (hkk : k + 10000 < 2 ^ 27)
    (hE : (openD nm d).2 ≠ 0 → ∀ i' w', Dk A [] w0 w' D i' (openD nm d).1 (k + 10000) L → Xt (dkU D i L) w (dkU D i' L) w' → K (.tup [.nilptr, .int .i64 (openD nm d).2]) w')
    (hK : (openD nm d).2 = 0 → ∀ S bv ev ef eo i' w', Dk A [] w0 w' D i' (openD nm d).1 (k + 10000) ((S, .row (segC D nm bv ev false)) :: (ef, eo) :: L) → Xt (dkU D i L) w (dkU D i' ((S, .row (segC D nm bv ev false)) :: (ef, eo) :: L)) w' →
      (rL rU).rd (fz A (dkU D i' ((S, .row (segC D nm bv ev false)) :: (ef, eo) :: L))) w' [bv] (kept (d.read nm).1) → Sv 1 eo ev (cst (ends (stream (d.read nm).1))) → K (.tup [.ptr S 0, .int .i64 0]) w') : Cl Tryz.prog hk 43 [.ptr D 0, .str nm] w K := by
  apply in43 (hh.no _ _ _ (by decide) (by decide))
  unfold F43
  refine s77 hh h fun v3 w3 f3 hg3 => ⟨_, _, rfl, ?_⟩
  obtain ⟨h3, x3⟩ := h.fr f3
  have hr3 := hg3.rd (by decide)
  unfold openD at hE hK
  generalize hrdn : (d.read nm).1 = fb at *
  generalize hrde : (d.read nm).2 = fe at *
  have hsl := streamN_length (fb.length / 64 + 1) fb
  have hsl : (stream fb).length ≤ fb.length := hsl
  refine join_of (fun lv w7 => lv = [] ∧ w7 = w3 ∧ ¬(fe ≠ 0 ∧ fe ≠ 70)) ?_ ?_
  · rintro lv w7 ⟨rfl, rfl, hok⟩
    rw [if_neg hok] at hE hK
    refine ⟨rfl, fun _ => gd_t rfl (gd_t rfl (h3.new' fun S w10 h10 x10 => ?_))⟩
    refine s78 hh h10.ow.P (hr3.x x10) (by omega) fun v11 w12 f12 hg12 => ?_
    obtain ⟨h12, x12⟩ := h10.fr f12
    have hr12 := hg12.rd (by decide)
    obtain ⟨h12r, x12r⟩ := h12.room
    obtain ⟨h13, x13⟩ := h12r.permL (L' := (S, .row (segC D nm .nilslice .nilslice false)) :: (0, .none) :: L) (.swap _ _ _)
    have x013 := ((x3.trans x10).trans x12).trans (x12r.trans x13)
    have hall := hr12.x (x12r.trans x13)
    generalize hal : stream fb = all at *
    have hkp : kept fb = all.take (sizeE (ends all)) := by unfold kept; rw [hal]
    rw [hkp] at hE hK
    refine join_of (fun lv w14 => lv = [] ∧ ∃ ev ef eo, Dk A [] w0 w14 D i d k ((S, .row (segC D nm .nilslice ev false)) :: (ef, eo) :: L) ∧ Xt (dkU D i ((S, .row (segC D nm .nilslice .nilslice false)) :: (0, .none) :: L)) w12 (dkU D i ((S, .row (segC D nm .nilslice ev false)) :: (ef, eo) :: L)) w14 ∧ Sv 1 eo ev (cst (ends all))) ?_ ?_
    · rintro lv w14 ⟨rfl, ev, ef, eo, h14, x14, hsv⟩
      have hel := (parse_le (all.length + 1) all 0 (Nat.zero_le _)).1
      have hel : (ends all).length ≤ all.length := hel
      have hrs := h14.ow.sv (i := 7) (f := ef) (o := eo) rfl hsv (by decide) (k := (ends all).length) (by rw [cst_length]; omega)
      refine ⟨rfl, fun _ => s47 hh (h14.ow.ld 6 rfl rfl) hrs (by omega) ⟨_, rfl, ?_⟩⟩
      obtain ⟨bv, hcut, hbv⟩ := (hall.x x14).cut (i := 0) (j := sizeE (ends all)) (Nat.zero_le _) sizeE_le (.inr ⟨rfl, rfl⟩) (.inl rfl)
      rw [List.drop_zero] at hbv
      refine onM_s hcut (gd_t hbv.ok1 (h14.wr 0 rfl (by simp [segC]) fun w20 h20 x20 => ?_))
      have h20 : Dk A [] w0 w20 D i d k ((S, .row (segC D nm bv ev false)) :: (ef, eo) :: L) := h20
      have x20 : Xt (dkU D i ((S, .row (segC D nm .nilslice ev false)) :: (ef, eo) :: L)) w14 (dkU D i ((S, .row (segC D nm bv ev false)) :: (ef, eo) :: L)) w20 := x20
      have hbv20 := hbv.x x20
      generalize hkb : all.take (sizeE (ends all)) = kb at *
      have hkbl : kb.length ≤ all.length := by rw [← hkb]; simp; omega
      have x020 := (x013.trans x14).trans x20
      refine join_of (fun lv w22 => ∃ (e : Int) (br : Bool) (i' : DI) (d' : Dsk), lv = [.int .i64 e] ∧ Dk A [] w0 w22 D i' d' (k + 10000) ((S, .row (segC D nm bv ev br)) :: (ef, eo) :: L) ∧ Xt (dkU D i L) w (dkU D i' ((S, .row (segC D nm bv ev br)) :: (ef, eo) :: L)) w22 ∧ (rL rU).rd (fz A (dkU D i' ((S, .row (segC D nm bv ev br)) :: (ef, eo) :: L))) w22 [bv] kb ∧ (if clean kb == fb then (d, 0) else trimD nm kb d) = (d', e) ∧ br = decide (e ≠ 0)) ?_ ?_
      · rintro lv w22 ⟨e, br, i', d', rfl, h22, x22, hb22, heq, rfl⟩
        rw [heq] at hE hK
        refine ⟨e, rfl, fun _ => ifT_nd (fun hne => ?_) fun he => ?_⟩
        · obtain ⟨h23, x23⟩ := h22.forget
          obtain ⟨h24, x24⟩ := h23.forget
          exact hE hne i' _ h24 ((x22.trans x23).trans x24)
        · subst he
          exact hK rfl S bv ev ef eo i' _ h22 x22 hb22 hsv
      · intro J hJ
        refine onM_s (v := bv) (h20.ow.ld 6 rfl rfl) (s80 hh h20.ow.P hbv20 (by omega) fun v26 w27 f27 hg27 => ?_)
        obtain ⟨h27, x27⟩ := h20.fr f27
        have hcl : (clean kb).length = nsec kb * 64 := cleanN_length kb (nsec kb)
        refine s79 hh (hg27.rd (by decide)).rsB (((((hr3.x x10).x x12).x (x12r.trans x13)).x (x14.trans x20)).x x27).rsB (by rw [hcl]; unfold nsec; omega) (by omega) ⟨_, rfl, ?_⟩
        cases hq : (clean kb == fb) with
        | true => exact ifT_f (hJ _ _ ⟨0, false, i, d, rfl, h27.le (by omega) hkk, x020.trans x27, hbv20.x x27, by rw [hq]; rfl, rfl⟩)
        | false =>
          refine ifT_t (s81 hh h27 (hbv20.x x27) (by omega) hkk fun i' w32 h32 x32 => ⟨_, rfl, ?_⟩)
          exact hJ _ _ ⟨_, _, i', _, rfl, h32, (x020.trans x27).trans x32, (hbv20.x x27).x x32, by rw [hq]; rfl, rfl⟩
    · intro J hJ
      refine loopP_ind (fun m lv w36 => ∃ (a f : Nat) (E1 : List Nat) (ev : AV) (ef : Nat) (eo : Ob), m = all.length + 1 - a ∧ a ≤ all.length ∧ all.length - a < f ∧ lv = [.int .i64 a] ∧ Dk A [] w0 w36 D i d k ((S, .row (segC D nm .nilslice ev false)) :: (ef, eo) :: L) ∧ Xt (dkU D i ((S, .row (segC D nm .nilslice .nilslice false)) :: (0, .none) :: L)) w12 (dkU D i ((S, .row (segC D nm .nilslice ev false)) :: (ef, eo) :: L)) w36 ∧ Sv 1 eo ev (cst E1) ∧ E1.length ≤ a ∧ E1 ++ parseN f all a = ends all) ?_
        ⟨0, all.length + 1, [], .nilslice, 0, .none, rfl, Nat.zero_le _, by omega, rfl, h13, Xt.refl, Sv.nil, Nat.le_refl _, by simp [ends]⟩
      rintro m lv w36 ⟨a, f, E1, ev, ef, eo, rfl, ha, hf, rfl, h36, x36, hsv, hE1, hp⟩ R ih
      obtain ⟨f, rfl⟩ : ∃ f', f = f' + 1 := ⟨f - 1, by omega⟩
      have hr36 := hall.x x36
      unfold parseN at hp
      have stop : (E1 ++ [] = ends all) → J [] w36 := fun e => hJ _ _ ⟨rfl, ev, ef, eo, h36, x36, by rw [← e, List.append_nil]; exact hsv⟩
      refine ⟨_, rfl, fun _ => ⟨_, hr36.len', ?_⟩⟩
      rw [show wi ((a : Int) + 4) = ((a + 4 : Nat) : Int) by rw [wi_eq (by omega) (by omega)]; push_cast; rfl]
      refine ifT_d (fun hc => ?_) fun hc => ?_
      · have hc : a + 4 ≤ all.length := by omega
        rw [if_pos hc] at hp
        have at1 : ∀ (j : Nat) (hj : j < all.length) (K : Nat → Nat → Prop), (∀ b o, ld w36 b o = some (.int .u8 ((all.getD j 0).toNat : Int)) → K b o) → atP (idxS 1 v11 (.int .i64 (j : Int))) K := fun j hj K hK => by
          refine hr36.at1 rfl hj fun bk ok a ha hld => hK bk ok ?_
          have ha : [a] = [AV.int .u8 (all[j].toNat : Int)] := ha
          rw [hld]; injection ha with ha; rw [ha, List.getD_eq_getElem?_getD, List.getElem?_eq_getElem hj]; rfl
        refine at1 a (by omega) _ fun b1 o1 g1 => ⟨_, g1, ?_⟩
        rw [show wi ((a : Int) + 1) = ((a + 1 : Nat) : Int) by rw [wi_eq (by omega) (by omega)]; push_cast; rfl]
        refine at1 (a + 1) (by omega) _ fun b2 o2 g2 => ⟨_, g2, ?_⟩
        refine (show ∀ {K : Int → Prop} {x : Int}, K x → be x K from fun h => h) ?_
        rw [show wi ((a : Int) + 2) = ((a + 2 : Nat) : Int) by rw [wi_eq (by omega) (by omega)]; push_cast; rfl]
        refine at1 (a + 2) (by omega) _ fun b3 o3 g3 => ⟨_, g3, ?_⟩
        refine (show ∀ {K : Int → Prop} {x : Int}, K x → be x K from fun h => h) ?_
        rw [show wi ((a : Int) + 3) = ((a + 3 : Nat) : Int) by rw [wi_eq (by omega) (by omega)]; push_cast; rfl]
        refine at1 (a + 3) (by omega) _ fun b4 o4 g4 => ⟨_, g4, ?_⟩
        have hu := u32_or (UInt8.toNat_lt (all.getD a 0)) (UInt8.toNat_lt (all.getD (a + 1) 0)) (UInt8.toNat_lt (all.getD (a + 2) 0)) (UInt8.toNat_lt (all.getD (a + 3) 0))
        rw [show (all.getD a 0).toNat * 2 ^ 24 + (all.getD (a + 1) 0).toNat * 2 ^ 16 + (all.getD (a + 2) 0).toNat * 2 ^ 8 + (all.getD (a + 3) 0).toNat = u32 all a from rfl] at hu
        rw [hu]
        generalize u32 all a = n at hp
        refine ifT_d (fun hn => ?_) fun hn => ?_
        · rw [if_pos (.inl (by omega))] at hp; exact stop hp
        rw [show wi (((a + 4 : Nat) : Int) + (n : Int)) = ((a + 4 + n : Nat) : Int) by rw [wi_eq (by omega) (by omega)]; push_cast; rfl]
        refine (show ∀ {K : Int → Prop} {x : Int}, K x → be x K from fun h => h) ?_
        refine ⟨_, hr36.len', ifT_d (fun hn2 => ?_) fun hn2 => ?_⟩
        · rw [if_pos (.inr (by omega))] at hp; exact stop hp
        rw [if_neg (by omega)] at hp
        rw [show wi (4 + (n : Int)) = ((4 + n : Nat) : Int) by rw [wi_eq (by omega) (by omega)]; push_cast; rfl]
        refine (show ∀ {K : Int → Prop} {x : Int}, K x → be x K from fun h => h) ?_
        rw [show wi ((a : Int) + ((4 + n : Nat) : Int)) = ((a + 4 + n : Nat) : Int) by rw [wi_eq (by omega) (by omega)]; push_cast; omega]
        refine onM_s (v := ev) (h36.ow.ld 6 rfl rfl) (h36.new' fun b57 w58 h58 x58 => ?_)
        have hb57 : Box w58 b57 [.int .i64 ((a + 4 + n : Nat) : Int)] := (h58.ow.box (b57, .row [.int .i64 ((a + 4 + n : Nat) : Int)]) (nth_mem (i := 6) rfl) rfl).1
        refine h58.accL 2 rfl hsv (by decide) (hb57.rs rfl) (by rw [cst_length]; omega) (by rw [cst_length]; omega) fun ev' ef' eo' w60 h60 x60 hsv' => ?_
        refine gd_t hsv'.ok (h60.wr 1 rfl (by simp [segC]) fun w61 h61 x61 => ?_)
        obtain ⟨h62, x62, _⟩ := h61.drop
        have h62 : Dk A [] w0 w61 D i d k ((S, .row (segC D nm .nilslice ev' false)) :: (ef', eo') :: L) := h62
        refine ih (all.length + 1 - (a + 4 + n)) (by omega) _ _ ⟨a + 4 + n, f, E1 ++ [a + 4 + n], ev', ef', eo', rfl, by omega, by omega, rfl, h62, (((x36.trans x58).trans x60).trans x61).trans x62, by rw [show cst (E1 ++ [a + 4 + n]) = cst E1 ++ [.int .i64 ((a + 4 + n : Nat) : Int)] by simp [cst]]; exact hsv', by simp; omega, by rw [List.append_assoc]; exact hp⟩
      · rw [if_neg (by omega)] at hp; exact stop hp
  · intro J hJ
    refine ifT_nd (fun hne => ifT_nd (fun hne2 => ?_) fun he => hJ _ _ ⟨rfl, rfl, fun h => h.2 he⟩) fun he => hJ _ _ ⟨rfl, rfl, fun h => h.1 he⟩
    rw [if_pos ⟨hne, hne2⟩] at hE
    exact hE hne i _ (h3.le (by omega) hkk) x3
end
end Go.Proofs.YthpjoogmmjikmaaGreatDoor
