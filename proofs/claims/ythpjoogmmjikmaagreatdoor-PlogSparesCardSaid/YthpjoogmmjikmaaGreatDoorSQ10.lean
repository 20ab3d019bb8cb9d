/-
  A log of at most one segment, over memory.
  No condition beyond those that each theorem names.
-/
import Derived.Test.YthpjoogmmjikmaaGreatDoorL10
set_option linter.unusedSimpArgs false
open Go.Sx
set_option linter.unusedVariables false
set_option linter.unusedSimpArgs false
namespace Go.Proofs.YthpjoogmmjikmaaGreatDoor
abbrev lognm : Byts := [108, 111, 103]
abbrev segnm : Byts := [108, 111, 103, 45, 49]
def logC (D : Nat) (pv : AV) : List AV := [.ptr D 0, .str lognm, .int .i64 100, pv, .int .i64 1, .int .i64 0, .bool false]
theorem idxz {sz b n cap : Nat} {ex : Option Nat} (hn : 0 < n) {K : Nat → Nat → Prop} (hK : K b 0) : atP (idxS sz (.slice b 0 n cap ex) (.int .i64 0)) K := by
  rw [atP_iff]
  have hb : Nat.blt 0 n = true := by simp [Nat.blt_eq, hn]
  refine ⟨b, 0 + 0 * sz, ?_, by simpa using hK⟩
  show (asN (.int .i64 (Int.ofNat 0))).bind _ = _
  simp only [asN, Option.bind_some, hb, guardO, cond_true]
section
variable {hk : Hook} {A B : Nat → Prop} {I : List Nat} {w0 w w' : AW} {D S LG pf : Nat} {i i' : DI} {d d' : Dsk} {k k' : Nat} {L L' R : Obs} {K : AV → AW → Prop} {nm bs t : Byts} {bv ev pv : AV} {ef : Nat} {eo : Ob}
theorem appNil {sz bytes : Nat} {x : AV} {new : List AV} (h : Dk A I w0 w D i d k L) (hx : Rs w sz 1 x new) (hs : 0 < sz) (hc : new.all okCell = true) (hb : bytes < 1000) {K : AV → AW → Prop}
    (hK : ∀ b w', w.size ≤ b → Dk A I w0 w' D i d k ((b, .row new) :: L) → Xt (dkU D i L) w (dkU D i ((b, .row new) :: L)) w' → K (.slice b 0 1 1 (some sz)) w') : onE (appS sz bytes w .nilslice x) K := by
  have f1 : Fr w.size w (newCells w new) := Fr.push h.ow.mem fun cs' f own d e => by cases e; exact Nat.le_refl _
  have b1 : Box (newCells w new) w.size new := by simp [Box, newCells, cellsAO]
  obtain ⟨h2, x2⟩ := h.push f1 b1 (Nat.le_refl _)
  refine onE_s (v := .slice w.size 0 1 1 (some sz)) (w := newCells w new) ?_ (hK _ _ (Nat.le_refl _) h2 x2)
  have hsrc := hx.src
  have e1 : Nat.ble (1 * bytes) Sx.room = true := by rw [Nat.ble_eq]; unfold Sx.room; omega
  have e2 : Nat.blt 1 (2 ^ 62) = true := by rw [Nat.blt_eq]; omega
  have e3 : Nat.beq 1 0 = false := rfl
  have e4 : (!Nat.beq sz 0) = true := by rw [beq_ff (by omega)]; rfl
  have hok : okSrc x new = true := by
    cases x <;> first | rfl | exact hc
  simp only [appS, hsrc.read, Option.bind_some, e3, cond_false, e4, hok, guardO, Bool.and_self, cond_true, e1, e2]
theorem s51 (hh : HK hk) (h0 : ld w LG 0 = some (.ptr D 0)) (hK : K (.bool false) w) : Cl Tryz.prog hk 51 [.ptr LG 0] w K := by
  apply in51 (hh.no _ _ _ (by decide) (by decide))
  unfold F51
  refine ⟨false, by kernel_rfl, ifT_f ?_⟩
  simp only [onP]
  exact onM_s h0 ⟨false, by kernel_rfl, hK⟩
theorem s45 (hh : HK hk) (h0 : ld w LG 0 = some (.ptr D 0)) (h6 : ld w LG 6 = some (.bool false)) (hK : K (.int .i64 0) w) : Cl Tryz.prog hk 45 [.ptr LG 0] w K := by
  apply in45 (hh.no _ _ _ (by decide) (by decide))
  unfold F45
  refine s51 hh h0 ⟨_, rfl, ifT_f ?_⟩
  exact ⟨false, h6, ifT_f hK⟩
theorem s82 (hh : HK hk) (hK : K (.str [49]) w) : Cl Tryz.prog hk 82 [.int .i64 1] w K := by
  apply in82 (hh.no _ _ _ (by decide) (by decide))
  unfold F82
  apply in125 (hh.no _ _ _ (by decide) (by decide))
  unfold F125
  apply in152 (hh.no _ _ _ (by decide) (by decide))
  unfold F152
  refine ifT_t (join_of (fun _ _ => False) (fun _ _ h => h.elim) fun J hJ => ifT_t (ifT_t ?_))
  apply in172 (hh.no _ _ _ (by decide) (by decide))
  unfold F172
  exact ifT_t ⟨[49], by kernel_rfl, _, rfl, _, rfl, _, rfl, hK⟩
theorem s44 (hh : HK hk) (h1 : ld w LG 1 = some (.str lognm)) (hK : K (.str segnm) w) : Cl Tryz.prog hk 44 [.ptr LG 0, .int .i64 1] w K := by
  apply in44 (hh.no _ _ _ (by decide) (by decide))
  unfold F44
  have e1 : strOp .add lognm [45] = some (.str [108, 111, 103, 45]) := by
    unfold strOp
    rw [if_pos (by decide)]; rfl
  have e2 : strOp .add [108, 111, 103, 45] [49] = some (.str segnm) := by
    unfold strOp
    rw [if_pos (by decide)]; rfl
  exact ⟨lognm, h1, [108, 111, 103, 45], e1, s82 hh ⟨[49], rfl, h1, segnm, e2, hK⟩⟩
theorem s46n (hh : HK hk) (h : Dk A I w0 w D i d k L) {a : Nat} (ha : nth L a = some (LG, .row (logC D .nilslice))) (hK : ∀ w', Dk A I w0 w' D i d k L → Xt (dkU D i L) w (dkU D i L) w' → K (.tup [.agg [.int .i64 0, .nilptr], .bool false]) w') : Cl Tryz.prog hk 46 [.ptr LG 0] w K := by
  apply in46 (hh.no _ _ _ (by decide) (by decide))
  unfold F46
  refine h.new' fun b1 w2 h2 x2 => ?_
  have ha2 : nth (dkL D i d ((b1, .row [.int .i64 0, .nilptr]) :: L)) (a + 7) = some (LG, .row (logC D .nilslice)) := ha
  refine onM_s (v := .nilslice) (h2.ow.ld _ ha2 rfl) ⟨0, rfl, ifT_t (h2.wr 0 rfl (by simp) fun w7 h7 x7 => ⟨_, _, h7.ow.ldN 6 rfl rfl rfl, ?_⟩)⟩
  obtain ⟨h8, x8, _⟩ := h7.drop
  exact hK w7 h8 ((x2.trans x7).trans x8)
theorem s46 (hh : HK hk) (h : Dk A I w0 w D i d k L) {a b : Nat} (ha : nth L a = some (LG, .row (logC D (.slice pf 0 1 1 (some 2))))) (hp : nth L b = some (pf, .row [.int .i64 1, .ptr S 0])) (hK : ∀ w', Dk A I w0 w' D i d k L → Xt (dkU D i L) w (dkU D i L) w' → K (.tup [.agg [.int .i64 1, .ptr S 0], .bool true]) w') : Cl Tryz.prog hk 46 [.ptr LG 0] w K := by
  apply in46 (hh.no _ _ _ (by decide) (by decide))
  unfold F46
  refine h.new' fun b1 w2 h2 x2 => ?_
  have ha2 : nth (dkL D i d ((b1, .row [.int .i64 0, .nilptr]) :: L)) (a + 7) = some (LG, .row (logC D (.slice pf 0 1 1 (some 2)))) := ha
  have hp2 : nth (dkL D i d ((b1, .row [.int .i64 0, .nilptr]) :: L)) (b + 7) = some (pf, .row [.int .i64 1, .ptr S 0]) := hp
  have l3 := h2.ow.ld (o := 3) (v := .slice pf 0 1 1 (some 2)) _ ha2 rfl
  refine onM_s l3 ⟨1, rfl, ifT_f (onM_s l3 (onM_s l3 ⟨1, rfl, ?_⟩))⟩
  rw [show wi (1 - 1) = 0 from by decide]
  refine idxz (by decide) ⟨1, .ptr S 0, h2.ow.ldN _ hp2 rfl rfl, gd_t rfl (h2.wr 0 rfl (by simp) fun w7 h7 x7 => ⟨_, _, h7.ow.ldN 6 rfl rfl rfl, ?_⟩)⟩
  obtain ⟨h8, x8, _⟩ := h7.drop
  exact hK w7 h8 ((x2.trans x7).trans x8)
theorem s24n (hh : HK hk) (h : Dk A I w0 w D i d k L) {a : Nat} (ha : nth L a = some (LG, .row (logC D .nilslice))) (hK : ∀ w', Dk A I w0 w' D i d k L → Xt (dkU D i L) w (dkU D i L) w' → K (.int .i64 0) w') : Cl Tryz.prog hk 24 [.ptr LG 0] w K := by
  apply in24 (hh.no _ _ _ (by decide) (by decide))
  unfold F24
  have ha0 : nth (dkL D i d L) (a + 6) = some (LG, .row (logC D .nilslice)) := ha
  refine s51 hh (h.ow.ld _ ha0 rfl) ⟨_, rfl, ifT_f (s46n hh h ha fun w5 h5 x5 => ⟨_, _, _, rfl, h5.new' fun b9 w10 h10 x10 => gd_t rfl (h10.wr 0 rfl (by simp) fun w11 h11 x11 => ifT_f ?_)⟩)⟩
  have ha2 : nth (dkL D i d ((b9, .row [.int .i64 0, .nilptr]) :: L)) (a + 7) = some (LG, .row (logC D .nilslice)) := ha
  refine ⟨1, h11.ow.ld _ ha2 rfl, ?_⟩
  obtain ⟨h12, x12, _⟩ := h11.drop
  exact hK w11 h12 (((x5.trans x10).trans x11).trans x12)
theorem s24 (hh : HK hk) (h : Dk A I w0 w D i d k L) {a b c : Nat} (ha : nth L a = some (LG, .row (logC D (.slice pf 0 1 1 (some 2))))) (hp : nth L b = some (pf, .row [.int .i64 1, .ptr S 0])) (hS : nth L c = some (S, .row (segC D nm bv ev false))) (hE : nth L (c + 1) = some (ef, eo)) {E : List Nat} (hes : Sv 1 eo ev (cst E)) (hl : E.length = 1)
    (hK : ∀ w', Dk A I w0 w' D i d k L → Xt (dkU D i L) w (dkU D i L) w' → K (.int .i64 1) w') : Cl Tryz.prog hk 24 [.ptr LG 0] w K := by
  apply in24 (hh.no _ _ _ (by decide) (by decide))
  unfold F24
  have ha0 : nth (dkL D i d L) (a + 6) = some (LG, .row (logC D (.slice pf 0 1 1 (some 2)))) := ha
  refine s51 hh (h.ow.ld _ ha0 rfl) ⟨_, rfl, ifT_f (s46 hh h ha hp fun w5 h5 x5 => ⟨_, _, _, rfl, h5.new' fun b9 w10 h10 x10 => gd_t rfl (h10.wr 0 rfl (by simp) fun w11 h11 x11 => ifT_t ⟨1, h11.ow.ld 6 rfl rfl, onM_s (v := .ptr S 0) (h11.ow.ld 6 rfl rfl) ?_⟩)⟩)⟩
  have hS2 : nth (dkL D i d ((b9, .row [.int .i64 1, .ptr S 0]) :: L)) (c + 7) = some (S, .row (segC D nm bv ev false)) := hS
  have hE2 : nth (dkL D i d ((b9, .row [.int .i64 1, .ptr S 0]) :: L)) (c + 1 + 7) = some (ef, eo) := hE
  have h11 : Dk A I w0 w11 D i d k ((b9, .row [.int .i64 1, .ptr S 0]) :: L) := h11
  have hrs := h11.ow.sv hE2 hes (by decide) (k := E.length) (by rw [cst_length]; omega)
  refine s58 hh (h11.ow.ld _ hS2 rfl) hrs ⟨_, rfl, h11.ow.ld 6 rfl rfl, ?_⟩
  rw [hl, show wi (wi (1 + ((1 : Nat) : Int)) - 1) = 1 from by decide]
  obtain ⟨h12, x12, _⟩ := h11.drop
  have x11 : Xt (dkU D i ((b9, .row [.int .i64 0, .nilptr]) :: L)) w10 (dkU D i ((b9, .row [.int .i64 1, .ptr S 0]) :: L)) w11 := x11
  exact hK w11 h12 (((x5.trans x10).trans x11).trans x12)
theorem s23 (hh : HK hk) (h : Dk A I w0 w D i d k L) {a b : Nat} (ha : nth L a = some (LG, .row (logC D (.slice pf 0 1 1 (some 2))))) (hp : nth L b = some (pf, .row [.int .i64 1, .ptr S 0])) (hK : K (.int .i64 1) w) : Cl Tryz.prog hk 23 [.ptr LG 0] w K := by
  apply in23 (hh.no _ _ _ (by decide) (by decide))
  unfold F23
  have ha0 : nth (dkL D i d L) (a + 6) = some (LG, .row (logC D (.slice pf 0 1 1 (some 2)))) := ha
  have hp0 : nth (dkL D i d L) (b + 6) = some (pf, .row [.int .i64 1, .ptr S 0]) := hp
  refine s51 hh (h.ow.ld _ ha0 rfl) ⟨_, rfl, ifT_f ?_⟩
  have l3 := h.ow.ld (o := 3) (v := .slice pf 0 1 1 (some 2)) _ ha0 rfl
  refine onM_s l3 ⟨1, rfl, ifT_f (onM_s l3 (idxz (by decide) ⟨1, h.ow.ld _ hp0 rfl, hK⟩))⟩
theorem s48 (hh : HK hk) (h : Dk A I w0 w D i d k L) {a : Nat} (ha : nth L a = some (LG, .row (logC D pv))) (hK : ∀ w', Dk A I w0 w' D i d k L → Xt (dkU D i L) w (dkU D i L) w' → K (.int .i64 0) w') : Cl Tryz.prog hk 48 [.ptr LG 0, .int .i64 0] w K := by
  apply in48 (hh.no _ _ _ (by decide) (by decide))
  unfold F48
  have ha0 : nth (dkL D i d L) (a + 6) = some (LG, .row (logC D pv)) := ha
  refine ⟨false, h.ow.ld _ ha0 rfl, ifT_f (h.wr a ha (by simp [logC]) fun w2 h2 x2 => ?_)⟩
  have e : stN L a (LG, .row (listPut (logC D pv) (0 + 6) [.bool (!decide ((0 : Int) = 0))])) = L := stN_self ha
  rw [e] at h2 x2
  exact hK w2 h2 x2
end
end Go.Proofs.YthpjoogmmjikmaaGreatDoor
