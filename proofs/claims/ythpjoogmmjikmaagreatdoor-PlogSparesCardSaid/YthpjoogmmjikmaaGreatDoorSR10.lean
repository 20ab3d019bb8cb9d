/-
  A log of at most one segment, over memory: its calls.
  No condition beyond those that each theorem names.
-/
import Derived.Test.YthpjoogmmjikmaaGreatDoorSQ10
import Derived.Test.YthpjoogmmjikmaaGreatDoorSxo
import Derived.Test.YthpjoogmmjikmaaGreatDoorP10
set_option linter.unusedSimpArgs false
open Go.Sx
set_option linter.unusedVariables false
set_option linter.unusedSimpArgs false
namespace Go.Proofs.YthpjoogmmjikmaaGreatDoor
section
variable {hk : Hook} {A B : Nat → Prop} {I : List Nat} {w0 w w' : AW} {D S LG pf : Nat} {i i' : DI} {d d' : Dsk} {k k' : Nat} {L L' R : Obs} {K : AV → AW → Prop} {nm bs t : Byts} {bv ev pv : AV} {ef : Nat} {eo : Ob}
set_option maxRecDepth 20000 in
theorem s10 (hh : HK hk) (h : Dk A I w0 w D i Dsk.none k L) (hK : ∀ LG i' w', Dk A I w0 w' D i' Dsk.none k ((LG, .row (logC D .nilslice)) :: L) → Xt (dkU D i L) w (dkU D i' ((LG, .row (logC D .nilslice)) :: L)) w' → K (.tup [.ptr LG 0, .int .i64 0]) w') : Cl Tryz.prog hk 10 [.ptr D 0, .str lognm, .int .i64 100, .int .i64 1] w K := by
  apply in10 (hh.no _ _ _ (by decide) (by decide))
  unfold F10
  refine h.new' fun b4 w5 h5 x5 => ⟨lognm, h5.ow.ld 6 rfl rfl, ifT_f ⟨lognm, h5.ow.ld 6 rfl rfl, ifT_f (ifT_f (ifT_f (ifT_f (s37 hh h5 ?_))))⟩⟩
  rw [show Dsk.none.sync [] = (Dsk.none, 70) from rfl]
  intro i9 w9 h9 x9
  refine ⟨70, rfl, ifT_f ⟨lognm, h9.ow.ld 6 rfl rfl, gd_t rfl (gd_t rfl (h9.new' fun LG w13 h13 x13 => ?_))⟩⟩
  have h13 : Dk A I w0 w13 D i9 Dsk.none k ((LG, .row (logC D .nilslice)) :: (b4, .row [.str lognm]) :: L) := h13
  refine s41 hh h13 (fun u hu => (by cases hu)) (by decide) fun v15 w15 f15 hr15 _ => ⟨_, hr15.len', ?_⟩
  obtain ⟨h15, x15⟩ := h13.fr f15
  have hn0 : (namesOf Dsk.none).length = 0 := rfl
  rw [hn0]
  intro R1 hR1
  refine hR1 _ _ ⟨_, _, rfl, fun _ => ifT_f (Cl_hook (hh.sortI _ _ _ rfl) ⟨rfl, 0, rfl, ?_⟩)⟩
  intro R2 hR2
  refine hR2 _ _ ⟨_, rfl, fun _ => ifT_f (s24n hh h15 (a := 0) rfl fun w64 h64 x64 => ⟨_, rfl, h64.wr 0 rfl (by simp [logC]) fun w66 h66 x66 => ?_⟩)⟩
  have h66 : Dk A I w0 w66 D i9 Dsk.none k ((LG, .row (logC D .nilslice)) :: (b4, .row [.str lognm]) :: L) := h66
  obtain ⟨h67, x67⟩ := h66.permL (L' := (b4, .row [.str lognm]) :: (LG, .row (logC D .nilslice)) :: L) (List.Perm.swap _ _ _)
  obtain ⟨h68, x68, _⟩ := h67.drop
  exact hK LG i9 w66 h68 ((((((x5.trans x9).trans x13).trans x15).trans x64).trans x66).trans (x67.trans x68))
abbrev PL (D S ef pf LG : Nat) (eo : Ob) (bv ev : AV) (R : Obs) : Obs := (S, .row (segC D segnm bv ev false)) :: (ef, eo) :: (pf, .row [.int .i64 1, .ptr S 0]) :: (LG, .row (logC D (.slice pf 0 1 1 (some 2)))) :: R
set_option maxRecDepth 20000 in
theorem s11 {dv : AV} (hh : HK hk) (h : Dk A [] w0 w D i Dsk.none k ((LG, .row (logC D .nilslice)) :: R)) (hd : ∀ (w' : AW) (i' : DI) (d' : Dsk) (k' : Nat) (M : Obs), Dk A [] w0 w' D i' d' k' (M ++ R) → RsB w' dv t) (htl : t.length ≤ 3000) (hkk : k + 30000 < 2 ^ 27)
    (hK : ∀ S ef eo pf bv ev i' d' w', Dk A [] w0 w' D i' d' (k + 20000) (PL D S ef pf LG eo bv ev R) → Xt (dkU D i ((LG, .row (logC D .nilslice)) :: R)) w (dkU D i' (PL D S ef pf LG eo bv ev R)) w' →
      (rL rU).rd (fz A (dkU D i' (PL D S ef pf LG eo bv ev R))) w' [bv] ([] ++ frame t) → Sv 1 eo ev (cst [([] ++ frame t).length]) → K (.tup [.int .i64 1, .int .i64 0]) w') : Cl Tryz.prog hk 11 [.ptr LG 0, dv] w K := by
  apply in11 (hh.no _ _ _ (by decide) (by decide))
  unfold F11
  have hn : named segnm = true := rfl
  refine s45 hh (h.ow.ld 6 rfl rfl) (h.ow.ld 6 rfl rfl) ⟨_, rfl, ifT_f ⟨_, (hd w i Dsk.none k [(LG, .row (logC D .nilslice))] h).len, ifT_d (fun hc => by omega) fun _ => ?_⟩⟩
  refine s46n hh h (a := 0) rfl fun w7 h7 x7 => ⟨_, _, _, rfl, h7.new' fun b11 w12 h12 x12 => gd_t rfl (h12.wr 0 rfl (by simp) fun w13 h13 x13 => ?_)⟩
  have h13 : Dk A [] w0 w13 D i Dsk.none k ((b11, .row [.int .i64 0, .nilptr]) :: (LG, .row (logC D .nilslice)) :: R) := h13
  have x013 := (x7.trans x12).trans x13
  refine join_of (fun l w15 => l = [] ∧ w15 = w13) ?_ fun J hJ => ifT_f (hJ _ _ ⟨rfl, rfl⟩)
  rintro l w15 ⟨rfl, rfl⟩
  refine ⟨rfl, fun _ => ?_⟩
  refine join_of (fun l w18 => l = [] ∧ ∃ S ef eo pf b57 bv ev i', Dk A [] w0 w18 D i' Dsk.none (k + 10000) ((S, .row (segC D segnm bv ev false)) :: (ef, eo) :: (pf, .row [.int .i64 1, .ptr S 0]) :: (LG, .row (logC D (.slice pf 0 1 1 (some 2)))) :: (b11, .row [.int .i64 1, .ptr S 0]) :: (b57, .row [.int .i64 1, .ptr S 0]) :: R) ∧
      Xt (dkU D i ((LG, .row (logC D .nilslice)) :: R)) w (dkU D i' ((S, .row (segC D segnm bv ev false)) :: (ef, eo) :: (pf, .row [.int .i64 1, .ptr S 0]) :: (LG, .row (logC D (.slice pf 0 1 1 (some 2)))) :: (b11, .row [.int .i64 1, .ptr S 0]) :: (b57, .row [.int .i64 1, .ptr S 0]) :: R)) w18 ∧
      (rL rU).rd (fz A (dkU D i' ((S, .row (segC D segnm bv ev false)) :: (ef, eo) :: (pf, .row [.int .i64 1, .ptr S 0]) :: (LG, .row (logC D (.slice pf 0 1 1 (some 2)))) :: (b11, .row [.int .i64 1, .ptr S 0]) :: (b57, .row [.int .i64 1, .ptr S 0]) :: R))) w18 [bv] [] ∧ Sv 1 eo ev (cst [])) ?_ ?_
  · rintro l w18 ⟨rfl, S, ef, eo, pf, b57, bv, ev, i18, h18, x18, hbv, hsv⟩
    refine ⟨rfl, fun _ => onM_s (v := .ptr S 0) (h18.ow.ld 10 rfl rfl) ?_⟩
    have hfl := frame_length t
    obtain ⟨d', ss', hp, _⟩ := app_first hn (t := t) (by omega)
    refine s50 (body := t) (bs := []) (es := []) hh h18 hbv hsv (fun w' b2 b4 b6 hdk _ => hd w' i18 Dsk.none (k + 10000) [(b6, _), (b4, _), (b2, _), _, _, _, _, _, _] hdk) (by omega) (by simp; omega) (by decide) (by omega) (fun _ i22 w22 bv2 ev2 ef2 eo2 h22 x22 hbv2 hsv2 => ?_) (fun hne => absurd (by rw [hp]) hne)
    rw [hp] at h22
    refine ⟨_, _, rfl, s48 hh h22 (a := 3) rfl fun w26 h26 x26 => ⟨_, rfl, ifT_f ?_⟩⟩
    have hsv2 : Sv 1 eo2 ev2 (cst [([] ++ frame t).length]) := hsv2
    refine s24 hh h26 (a := 3) (b := 2) (c := 0) rfl rfl rfl rfl hsv2 rfl fun w29 h29 x29 => ⟨_, rfl, ?_⟩
    have hp2 : List.Perm ([(S, Ob.row (segC D segnm bv2 ev2 false)), (ef2, eo2), (pf, Ob.row [.int .i64 1, .ptr S 0]), (LG, Ob.row (logC D (.slice pf 0 1 1 (some 2))))] ++ [(b11, Ob.row [.int .i64 1, .ptr S 0]), (b57, Ob.row [.int .i64 1, .ptr S 0])])
        ([(b11, Ob.row [.int .i64 1, .ptr S 0]), (b57, Ob.row [.int .i64 1, .ptr S 0])] ++ [(S, Ob.row (segC D segnm bv2 ev2 false)), (ef2, eo2), (pf, Ob.row [.int .i64 1, .ptr S 0]), (LG, Ob.row (logC D (.slice pf 0 1 1 (some 2))))]) := List.perm_append_comm
    obtain ⟨h30, x30⟩ := h29.permL (hp2.append_right R)
    have h30 : Dk A [] w0 w29 D i22 d' (k + 10000 + 10000) ([(b11, Ob.row [.int .i64 1, .ptr S 0]), (b57, Ob.row [.int .i64 1, .ptr S 0])] ++ PL D S ef2 pf LG eo2 bv2 ev2 R) := h30
    obtain ⟨h31, x31⟩ := h30.spoilM (Nat.le_refl _) h30.ow.mem fun _ _ _ => rfl
    have xx := ((((x18.trans x22).trans x26).trans x29).trans x30).trans x31
    exact hK S ef2 eo2 pf bv2 ev2 i22 d' w29 (h31.le (by omega) (by omega)) xx ((((hbv2.x x26).x x29).x x30).x x31) hsv2
  · intro J2 hJ2
    refine join_of (fun l w32 => l = [.bool true] ∧ w32 = w15) ?_ fun J3 hJ3 => ifT_t (hJ3 _ _ ⟨rfl, rfl⟩)
    rintro l w32 ⟨rfl, rfl⟩
    refine ⟨_, rfl, fun _ => ifT_t (s24n hh h13 (a := 1) rfl fun w36 h36 x36 => ⟨_, rfl, ?_⟩)⟩
    simp only [onP]
    refine onM_s (v := .ptr D 0) (h36.ow.ld 7 rfl rfl) ?_
    rw [show wi (0 + 1) = 1 from by decide]
    refine s44 hh (h36.ow.ld 7 rfl rfl) ⟨segnm, rfl, h36.ow.ld 7 rfl rfl, ?_⟩
    have ho : openD segnm Dsk.none = (Dsk.none, 0) := open_none
    refine s43 hh h36 (show (Dsk.none.read segnm).1.length ≤ _ from Nat.zero_le _) (by omega) (fun hne => absurd (by rw [ho]) hne) (fun _ S bv ev ef eo i45 w45 h45 x45 hbv hsv => ⟨_, _, rfl, ?_⟩)
    rw [ho] at h45
    have hbv : (rL rU).rd (fz A (dkU D i45 ((S, .row (segC D segnm bv ev false)) :: (ef, eo) :: (b11, .row [.int .i64 0, .nilptr]) :: (LG, .row (logC D .nilslice)) :: R))) w45 [bv] [] := hbv
    have hsv : Sv 1 eo ev (cst []) := hsv
    refine s48 hh h45 (a := 3) rfl fun w49 h49 x49 => ⟨_, rfl, ifT_f (gd_t rfl (gd_t rfl (h49.wr 2 rfl (by simp) fun w51 h51 x51 => ?_)))⟩
    refine onM_s (v := .nilslice) (h51.ow.ld 9 rfl rfl) ⟨1, .ptr S 0, h51.ow.ldN 8 rfl rfl rfl, gd_t rfl (h51.new' fun b57 w58 h58 x58 => ⟨h58.ow.ldN 9 rfl rfl rfl, h58.ow.ld 10 rfl rfl, ?_⟩)⟩
    have h58 : Dk A [] w0 w58 D i45 Dsk.none (k + 10000) ((b57, .row [.int .i64 1, .ptr S 0]) :: (S, .row (segC D segnm bv ev false)) :: (ef, eo) :: (b11, .row [.int .i64 1, .ptr S 0]) :: (LG, .row (logC D .nilslice)) :: R) := h58
    have hb57 : Box w58 b57 [.int .i64 1, .ptr S 0] := (h58.ow.box (b57, .row [.int .i64 1, .ptr S 0]) (nth_mem (i := 6) rfl) rfl).1
    refine appNil (sz := 2) h58 (hb57.rs rfl) (by decide) rfl (by decide) fun pf w60 _ h60 x60 => gd_t rfl (h60.wr 5 rfl (by simp [logC]) fun w63 h63 x63 => ?_)
    have h63 : Dk A [] w0 w63 D i45 Dsk.none (k + 10000) ((pf, .row [.int .i64 1, .ptr S 0]) :: (b57, .row [.int .i64 1, .ptr S 0]) :: (S, .row (segC D segnm bv ev false)) :: (ef, eo) :: (b11, .row [.int .i64 1, .ptr S 0]) :: (LG, .row (logC D (.slice pf 0 1 1 (some 2)))) :: R) := h63
    have hp : List.Perm [(pf, Ob.row [.int .i64 1, .ptr S 0]), (b57, .row [.int .i64 1, .ptr S 0]), (S, .row (segC D segnm bv ev false)), (ef, eo), (b11, .row [.int .i64 1, .ptr S 0]), (LG, .row (logC D (.slice pf 0 1 1 (some 2))))]
        [(S, .row (segC D segnm bv ev false)), (ef, eo), (pf, Ob.row [.int .i64 1, .ptr S 0]), (LG, .row (logC D (.slice pf 0 1 1 (some 2)))), (b11, .row [.int .i64 1, .ptr S 0]), (b57, .row [.int .i64 1, .ptr S 0])] := by
      refine (List.perm_append_comm (l₁ := [(pf, Ob.row [.int .i64 1, .ptr S 0]), (b57, .row [.int .i64 1, .ptr S 0])]) (l₂ := [(S, .row (segC D segnm bv ev false)), (ef, eo), (b11, .row [.int .i64 1, .ptr S 0]), (LG, .row (logC D (.slice pf 0 1 1 (some 2))))])).trans (.cons _ (.cons _ ?_))
      refine (List.perm_append_comm (l₁ := [(b11, Ob.row [.int .i64 1, .ptr S 0]), (LG, .row (logC D (.slice pf 0 1 1 (some 2))))]) (l₂ := [(pf, .row [.int .i64 1, .ptr S 0]), (b57, .row [.int .i64 1, .ptr S 0])])).trans (.cons _ ?_)
      refine (List.perm_append_comm (l₁ := [(b57, Ob.row [.int .i64 1, .ptr S 0]), (b11, .row [.int .i64 1, .ptr S 0])]) (l₂ := [(LG, .row (logC D (.slice pf 0 1 1 (some 2))))])).trans (.cons _ (List.Perm.swap _ _ _))
    obtain ⟨h64, x64⟩ := h63.permL (L' := (S, .row (segC D segnm bv ev false)) :: (ef, eo) :: (pf, Ob.row [.int .i64 1, .ptr S 0]) :: (LG, .row (logC D (.slice pf 0 1 1 (some 2)))) :: (b11, .row [.int .i64 1, .ptr S 0]) :: (b57, .row [.int .i64 1, .ptr S 0]) :: R) (hp.append_right R)
    have y1 := ((((((x013.trans x36).trans x45).trans x49).trans x51).trans x58).trans x60).trans x63
    exact hJ2 _ _ ⟨rfl, S, ef, eo, pf, b57, bv, ev, i45, h64, y1.trans x64, ((((((hbv.x x49).x x51).x x58).x x60).x x63).x x64), hsv⟩
end
end Go.Proofs.YthpjoogmmjikmaaGreatDoor
