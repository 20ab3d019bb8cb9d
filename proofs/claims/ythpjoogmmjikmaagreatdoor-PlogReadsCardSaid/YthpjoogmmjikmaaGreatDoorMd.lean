/-
 A log of many segments, over memory: names, the tail, find.
 No condition beyond those that each theorem names.
-/
import Derived.Test.YthpjoogmmjikmaaGreatDoorMc
set_option linter.unusedSimpArgs false
open Go.Sx
set_option linter.unusedVariables false
set_option linter.unusedSimpArgs false
namespace Go.Proofs.YthpjoogmmjikmaaGreatDoor
def smalls : Byts := [48, 48, 48, 49, 48, 50, 48, 51, 48, 52, 48, 53, 48, 54, 48, 55, 48, 56, 48, 57, 49, 48, 49, 49, 49, 50, 49, 51, 49, 52, 49, 53, 49, 54, 49, 55, 49, 56, 49, 57, 50, 48, 50, 49, 50, 50, 50, 51, 50, 52, 50, 53, 50, 54, 50, 55, 50, 56, 50, 57, 51, 48, 51, 49, 51, 50, 51, 51, 51, 52, 51, 53, 51, 54, 51, 55, 51, 56, 51, 57, 52, 48, 52, 49, 52, 50, 52, 51, 52, 52, 52, 53, 52, 54, 52, 55, 52, 56, 52, 57, 53, 48, 53, 49, 53, 50, 53, 51, 53, 52, 53, 53, 53, 54, 53, 55, 53, 56, 53, 57, 54, 48, 54, 49, 54, 50, 54, 51, 54, 52, 54, 53, 54, 54, 54, 55, 54, 56, 54, 57, 55, 48, 55, 49, 55, 50, 55, 51, 55, 52, 55, 53, 55, 54, 55, 55, 55, 56, 55, 57, 56, 48, 56, 49, 56, 50, 56, 51, 56, 52, 56, 53, 56, 54, 56, 55, 56, 56, 56, 57, 57, 48, 57, 49, 57, 50, 57, 51, 57, 52, 57, 53, 57, 54, 57, 55, 57, 56, 57, 57]
def digs : Byts := [48, 49, 50, 51, 52, 53, 54, 55, 56, 57, 97, 98, 99, 100, 101, 102, 103, 104, 105, 106, 107, 108, 109, 110, 111, 112, 113, 114, 115, 116, 117, 118, 119, 120, 121, 122]
set_option maxRecDepth 100000 in
theorem tab2 : ∀ n : Fin 100, 10 ≤ n.1 → (smalls.drop (2 * n.1)).take 2 = itoa n.1 := by decide
theorem tab1 : ∀ n : Fin 10, (digs.drop n.1).take 1 = itoa n.1 := by decide
theorem slStr_eq {s : Byts} {l h : Nat} (h1 : l ≤ h) (h2 : h ≤ s.length) : slStr s (some (.int .i64 (l : Int))) (some (.int .i64 (h : Int))) = some (.str ((s.drop l).take (h - l))) := by
 have e1 : Nat.ble l h = true := by rw [Nat.ble_eq]; exact h1
 have e2 : Nat.ble h s.length = true := by rw [Nat.ble_eq]; exact h2
 have e3 : Nat.ble h h = true := by rw [Nat.ble_eq]; exact Nat.le_refl _
 simp [slStr, boundA, asN_ofNat, okB, e1, e2, e3, guardO]
section
variable {hk : Hook} {A B : Nat → Prop} {I : List Nat} {w0 w w' : AW} {D S LG pf : Nat} {po : Ob} {i i' : DI} {d d' : Dsk} {k k' : Nat} {L L' R : Obs} {K : AV → AW → Prop} {nm bs t : Byts} {bv ev pv : AV} {ef : Nat} {eo : Ob} {m : Int} {Q : List (Nat × Nat)} {n a b c : Nat}
theorem g172 (hh : HK hk) (hn : n < 100) (hK : K (.str (itoa n)) w) : Cl Tryz.prog hk 172 [.int .i64 (n : Int)] w K := by
 apply in172 (hh.no _ _ _ (by decide) (by decide))
 unfold F172
 refine ifT_d (fun h => ?_) fun h => ?_
 ·have h10 : n < 10 := by omega
  refine ⟨itoa n, ?_, hK⟩
  show slStr digs _ _ = _
  rw [show wi ((n : Int) + 1) = ((n + 1 : Nat) : Int) by rw [wi_eq (by omega) (by omega)]; rfl, slStr_eq (by omega) (by show n + 1 ≤ 36; omega), show n + 1 - n = 1 by omega, tab1 ⟨n, h10⟩]
 ·have h10 : 10 ≤ n := by omega
  refine ⟨itoa n, ?_, hK⟩
  show slStr smalls _ _ = _
  rw [show wi ((n : Int) * 2) = ((2 * n : Nat) : Int) by rw [wi_eq (by omega) (by omega)]; push_cast; omega, show wi (((2 * n : Nat) : Int) + 2) = ((2 * n + 2 : Nat) : Int) by rw [wi_eq (by omega) (by omega)]; rfl, slStr_eq (by omega) (by show 2 * n + 2 ≤ 200; omega), show 2 * n + 2 - 2 * n = 2 by omega, tab2 ⟨n, hn⟩ h10]
theorem g82 (hh : HK hk) (hn : n < 100) (hK : K (.str (itoa n)) w) : Cl Tryz.prog hk 82 [.int .i64 (n : Int)] w K := by
 apply in82 (hh.no _ _ _ (by decide) (by decide))
 unfold F82
 apply in125 (hh.no _ _ _ (by decide) (by decide))
 unfold F125
 apply in152 (hh.no _ _ _ (by decide) (by decide))
 unfold F152
 refine ifT_t (join_of (fun _ _ => False) (fun _ _ h => h.elim) fun J hJ => ifT_d (fun _ => ifT_d (fun _ => ?_) fun h => by omega) fun h => by omega)
 exact g172 hh hn ⟨_, rfl, _, rfl, _, rfl, hK⟩
theorem itoa_len : (itoa n).length ≤ 2 := by unfold itoa; split <;> simp
theorem g44 (hh : HK hk) (h1 : ld w LG 1 = some (.str lognm)) (hn : n < 100) (hK : K (.str (fnm n)) w) : Cl Tryz.prog hk 44 [.ptr LG 0, .int .i64 (n : Int)] w K := by
 apply in44 (hh.no _ _ _ (by decide) (by decide))
 unfold F44
 have e1 : strOp .add lognm [45] = some (.str [108, 111, 103, 45]) := by
  unfold strOp
  rw [if_pos (by decide)]; rfl
 have e2 : strOp .add [108, 111, 103, 45] (itoa n) = some (.str (fnm n)) := by
  have := itoa_len (n := n)
  unfold strOp
  rw [if_pos (by simp; omega)]; rfl
 exact ⟨lognm, h1, [108, 111, 103, 45], e1, g82 hh hn ⟨itoa n, rfl, h1, fnm n, e2, hK⟩⟩
theorem pts_at (hsv : Sv 2 po pv (ptsC Q)) {j : Nat} (hj : j < Q.length) {K : Nat → Nat → Prop} (hK : ∀ b o, (∀ {w' : AW} {i' : DI} {d' : Dsk} {k' : Nat} {L' : Obs} (c : Nat), Dk A I w0 w' D i' d' k' L' → nth L' c = some (pf, po) → ld w' b (o + 0) = some (.int .i64 (Q[j].1 : Int)) ∧ ldN 2 w' b o = some (.agg (ptC Q[j]))) → K b o) : atP (idxS 2 pv (.int .i64 (j : Int))) K := by
 have hsv0 := hsv
 rcases hsv with ⟨_, h2⟩ | ⟨b, nn, ex, rfl, rfl, h3, h4⟩
 ·have := congrArg List.length h2
  rw [ptsC_length] at this
  simp at this; omega
 ·rw [ptsC_length] at h3
  have hnn : nn = Q.length := by omega
  subst hnn
  rw [atP_iff]
  have hb : Nat.blt j Q.length = true := by simp [Nat.blt_eq, hj]
  refine ⟨b, 0 + j * 2, ?_, hK _ _ fun c hd hc => ?_⟩
  ·show (asN (.int .i64 (Int.ofNat j))).bind _ = _
   simp only [asN, Option.bind_some, hb, guardO, cond_true]
  ·have hrs := hd.ow.sv (i := c + 6) (f := pf) (o := .acc b (ptsC Q)) hc hsv0 (by decide) (ptsC_length Q)
   rcases hrs with ⟨h, _⟩ | ⟨b', o', cap', ex', all, e1, e2, e3, e4⟩
   ·cases h
   ·cases e1
    have hall : ∀ f, f < 2 → all[j * 2 + f]? = (ptsC Q)[j * 2 + f]? := fun f hf => by
     rw [e4, List.getElem?_take_of_lt (by omega), List.getElem?_drop, Nat.zero_add]
    constructor
    ·simp only [ld, e2, Option.bind_some]
     have := hall 0 (by decide)
     rw [Nat.zero_add, this]
     exact ptsC_first hj
    ·simp only [ldN, e2, Option.bind_some]
     rw [takeCells_some (by omega)]
     simp only [Option.map_some, Option.some.injEq, AV.agg.injEq, Nat.zero_add]
     rw [← ptsC_at hj, e4, List.drop_zero, List.drop_take, List.take_take, Nat.min_eq_left (by omega)]
end
end Go.Proofs.YthpjoogmmjikmaaGreatDoor
/-
 A log of many segments, over memory: First, Last, tail, find, Segments.
 No condition beyond those that each theorem names.
-/
set_option linter.unusedSimpArgs false
open Go.Sx
set_option linter.unusedVariables false
set_option linter.unusedSimpArgs false
namespace Go.Proofs.YthpjoogmmjikmaaGreatDoor
section
variable {hk : Hook} {A B : Nat → Prop} {I : List Nat} {w0 w w' : AW} {D S LG pf : Nat} {po : Ob} {i i' : DI} {d d' : Dsk} {k k' : Nat} {L L' R : Obs} {K : AV → AW → Prop} {nm bs t : Byts} {bv ev pv : AV} {ef : Nat} {eo : Ob} {m : Int} {Q : List (Nat × Nat)} {n a b c : Nat}
theorem g48 (hh : HK hk) (h : Dk A I w0 w D i d k L) (ha : nth L a = some (LG, .row (lgC D m pv))) (hK : ∀ w', Dk A I w0 w' D i d k L → Xt (dkU D i L) w (dkU D i L) w' → K (.int .i64 0) w') : Cl Tryz.prog hk 48 [.ptr LG 0, .int .i64 0] w K := by
 apply in48 (hh.no _ _ _ (by decide) (by decide))
 unfold F48
 have ha0 : nth (dkL D i d L) (a + 6) = some (LG, .row (lgC D m pv)) := ha
 refine ⟨false, h.ow.ld _ ha0 rfl, ifT_f (h.wr a ha (by simp [lgC]) fun w2 h2 x2 => ?_)⟩
 have e : stN L a (LG, .row (listPut (lgC D m pv) (0 + 6) [.bool (!decide ((0 : Int) = 0))])) = L := stN_self ha
 rw [e] at h2 x2
 exact hK w2 h2 x2
theorem pts_len (h : Dk A I w0 w D i d k L) (hb : nth L b = some (pf, po)) (hsv : Sv 2 po pv (ptsC Q)) : lenS pv = some (.int .i64 (Q.length : Nat)) := (h.ow.sv (i := b + 6) (f := pf) (o := po) hb hsv (by decide) (ptsC_length Q)).len
theorem g46n (hh : HK hk) (h : Dk A I w0 w D i d k L) (ha : nth L a = some (LG, .row (lgC D m .nilslice))) (hK : ∀ w', Dk A I w0 w' D i d k L → Xt (dkU D i L) w (dkU D i L) w' → K (.tup [.agg [.int .i64 0, .nilptr], .bool false]) w') : Cl Tryz.prog hk 46 [.ptr LG 0] w K := by
 apply in46 (hh.no _ _ _ (by decide) (by decide))
 unfold F46
 refine h.new' fun b1 w2 h2 x2 => ?_
 have ha2 : nth (dkL D i d ((b1, .row [.int .i64 0, .nilptr]) :: L)) (a + 7) = some (LG, .row (lgC D m .nilslice)) := ha
 refine onM_s (v := .nilslice) (h2.ow.ld _ ha2 rfl) ⟨0, rfl, ifT_t (h2.wr 0 rfl (by simp) fun w7 h7 x7 => ⟨_, _, h7.ow.ldN 6 rfl rfl rfl, ?_⟩)⟩
 obtain ⟨h8, x8, _⟩ := h7.drop
 exact hK w7 h8 ((x2.trans x7).trans x8)
theorem g46 (hh : HK hk) (h : Dk A I w0 w D i d k L) (ha : nth L a = some (LG, .row (lgC D m pv))) (hb : nth L b = some (pf, po)) (hsv : Sv 2 po pv (ptsC Q)) (hq : n + 1 = Q.length) (hn : n < 1000) (hK : ∀ w', Dk A I w0 w' D i d k L → Xt (dkU D i L) w (dkU D i L) w' → K (.tup [.agg (ptC (Q[n]'(by omega))), .bool true]) w') : Cl Tryz.prog hk 46 [.ptr LG 0] w K := by
 apply in46 (hh.no _ _ _ (by decide) (by decide))
 unfold F46
 refine h.new' fun b1 w2 h2 x2 => ?_
 have ha2 : nth (dkL D i d ((b1, .row [.int .i64 0, .nilptr]) :: L)) (a + 7) = some (LG, .row (lgC D m pv)) := ha
 have l3 := h2.ow.ld (o := 3) (v := pv) _ ha2 rfl
 have hlen := pts_len h2 (b := b + 1) (pf := pf) hb hsv
 refine onM_s l3 ⟨_, hlen, ifT_d (fun hc => by omega) fun _ => onM_s l3 (onM_s l3 ⟨_, hlen, ?_⟩)⟩
 rw [show wi ((Q.length : Int) - 1) = ((n : Nat) : Int) by rw [wi_eq (by omega) (by omega)]; omega]
 refine pts_at (A := A) (I := I) (w0 := w0) (D := D) (pf := pf) hsv (j := n) (by omega) fun x y hxy => ?_
 obtain ⟨_, l2⟩ := hxy (b + 1) h2 hb
 refine ⟨_, _, l2, gd_t rfl (h2.wr 0 rfl (by simp) fun w7 h7 x7 => ⟨_, _, h7.ow.ldN 6 rfl rfl rfl, ?_⟩)⟩
 obtain ⟨h8, x8, _⟩ := h7.drop
 exact hK w7 h8 ((x2.trans x7).trans x8)
theorem g24n (hh : HK hk) (h : Dk A I w0 w D i d k L) (ha : nth L a = some (LG, .row (lgC D m .nilslice))) (hK : ∀ w', Dk A I w0 w' D i d k L → Xt (dkU D i L) w (dkU D i L) w' → K (.int .i64 6) w') : Cl Tryz.prog hk 24 [.ptr LG 0] w K := by
 apply in24 (hh.no _ _ _ (by decide) (by decide))
 unfold F24
 have ha0 : nth (dkL D i d L) (a + 6) = some (LG, .row (lgC D m .nilslice)) := ha
 refine s51 hh (h.ow.ld _ ha0 rfl) ⟨_, rfl, ifT_f (g46n hh h ha fun w5 h5 x5 => ⟨_, _, _, rfl, h5.new' fun b9 w10 h10 x10 => gd_t rfl (h10.wr 0 rfl (by simp) fun w11 h11 x11 => ifT_f ?_)⟩)⟩
 have ha2 : nth (dkL D i d ((b9, .row [.int .i64 0, .nilptr]) :: L)) (a + 7) = some (LG, .row (lgC D m .nilslice)) := ha
 refine ⟨7, h11.ow.ld _ ha2 rfl, ?_⟩
 obtain ⟨h12, x12, _⟩ := h11.drop
 exact hK w11 h12 (((x5.trans x10).trans x11).trans x12)
theorem g24 (hh : HK hk) (h : Dk A I w0 w D i d k L) (ha : nth L a = some (LG, .row (lgC D m pv))) (hb : nth L b = some (pf, po)) (hsv : Sv 2 po pv (ptsC Q)) (hq : n + 1 = Q.length) (hn : n < 1000) (hS : nth L c = some (S, .row (segC D nm bv ev false))) (hE : nth L (c + 1) = some (ef, eo)) {E : List Nat} (hes : Sv 1 eo ev (cst E)) {f : Nat} (hQ : Q[n]'(by omega) = (f, S)) (hl : f + E.length < 2 ^ 40)
  (hK : ∀ w', Dk A I w0 w' D i d k L → Xt (dkU D i L) w (dkU D i L) w' → K (.int .i64 (((f + E.length : Nat) : Int) - 1)) w') : Cl Tryz.prog hk 24 [.ptr LG 0] w K := by
 apply in24 (hh.no _ _ _ (by decide) (by decide))
 unfold F24
 have ha0 : nth (dkL D i d L) (a + 6) = some (LG, .row (lgC D m pv)) := ha
 refine s51 hh (h.ow.ld _ ha0 rfl) ⟨_, rfl, ifT_f (g46 hh h ha hb hsv hq hn fun w5 h5 x5 => ?_)⟩
 rw [hQ]
 refine ⟨_, _, _, rfl, h5.new' fun b9 w10 h10 x10 => gd_t rfl (h10.wr 0 rfl (by simp) fun w11 h11 x11 => ifT_t ⟨(f : Int), h11.ow.ld 6 rfl rfl, onM_s (v := .ptr S 0) (h11.ow.ld 6 rfl rfl) ?_⟩)⟩
 have h11 : Dk A I w0 w11 D i d k ((b9, .row [.int .i64 (f : Int), .ptr S 0]) :: L) := h11
 have x11 : Xt (dkU D i ((b9, .row [.int .i64 0, .nilptr]) :: L)) w10 (dkU D i ((b9, .row [.int .i64 (f : Int), .ptr S 0]) :: L)) w11 := x11
 have hS2 : nth (dkL D i d ((b9, .row [.int .i64 (f : Int), .ptr S 0]) :: L)) (c + 7) = some (S, .row (segC D nm bv ev false)) := hS
 have hE2 : nth (dkL D i d ((b9, .row [.int .i64 (f : Int), .ptr S 0]) :: L)) (c + 1 + 7) = some (ef, eo) := hE
 have hrs := h11.ow.sv hE2 hes (by decide) (k := E.length) (by rw [cst_length]; omega)
 refine s58 hh (h11.ow.ld _ hS2 rfl) hrs ⟨_, rfl, h11.ow.ld 6 rfl rfl, ?_⟩
 rw [wi_eq (x := (f : Int) + ((E.length : Nat) : Int)) (by omega) (by omega), wi_eq (by omega) (by omega)]
 obtain ⟨h12, x12, _⟩ := h11.drop
 have := hK w11 h12 (((x5.trans x10).trans x11).trans x12)
 rw [Int.natCast_add] at this
 exact this
theorem g23 (hh : HK hk) (h : Dk A I w0 w D i d k L) (ha : nth L a = some (LG, .row (lgC D m pv))) (hb : nth L b = some (pf, po)) (hsv : Sv 2 po pv (ptsC Q)) (hq : 0 < Q.length) (hK : K (.int .i64 (Q[0].1 : Nat)) w) : Cl Tryz.prog hk 23 [.ptr LG 0] w K := by
 apply in23 (hh.no _ _ _ (by decide) (by decide))
 unfold F23
 have ha0 : nth (dkL D i d L) (a + 6) = some (LG, .row (lgC D m pv)) := ha
 refine s51 hh (h.ow.ld _ ha0 rfl) ⟨_, rfl, ifT_f ?_⟩
 have l3 := h.ow.ld (o := 3) (v := pv) _ ha0 rfl
 refine onM_s l3 ⟨_, pts_len h hb hsv, ifT_d (fun hc => by omega) fun _ => onM_s l3 ?_⟩
 refine pts_at (A := A) (I := I) (w0 := w0) (D := D) (pf := pf) hsv (j := 0) hq fun x y hxy => ⟨_, (hxy b h hb).1, hK⟩
theorem g23n (hh : HK hk) (h : Dk A I w0 w D i d k L) (ha : nth L a = some (LG, .row (lgC D m .nilslice))) (hK : K (.int .i64 7) w) : Cl Tryz.prog hk 23 [.ptr LG 0] w K := by
 apply in23 (hh.no _ _ _ (by decide) (by decide))
 unfold F23
 have ha0 : nth (dkL D i d L) (a + 6) = some (LG, .row (lgC D m .nilslice)) := ha
 refine s51 hh (h.ow.ld _ ha0 rfl) ⟨_, rfl, ifT_f ?_⟩
 exact onM_s (v := .nilslice) (h.ow.ld _ ha0 rfl) ⟨0, rfl, ifT_t ⟨7, h.ow.ld _ ha0 rfl, hK⟩⟩
def ents (Q : List (Nat × Nat)) : List (Int × Int) := (List.range Q.length).map fun j => (((Q.getD j (0, 0)).1 : Int) - ((Q.getD 0 (0, 0)).1 : Int), (j : Int))
theorem ents_length (Q : List (Nat × Nat)) : (ents Q).length = Q.length := by simp [ents]
theorem getD_at {Q : List (Nat × Nat)} {j : Nat} (hj : j < Q.length) : Q.getD j (0, 0) = Q[j] := by rw [List.getD_eq_getElem?_getD, List.getElem?_eq_getElem hj]; rfl
theorem ents_at {Q : List (Nat × Nat)} {j : Nat} (hj : j < Q.length) : (ents Q)[j]'(by rw [ents_length]; exact hj) = ((Q[j].1 : Int) - ((Q[0]'(by omega)).1 : Int), (j : Int)) := by
 unfold ents
 simp only [List.getElem_map, List.getElem_range]
 rw [getD_at hj, getD_at (show 0 < Q.length by omega)]
set_option maxRecDepth 20000 in
theorem g52 {x q : Nat} (hh : HK hk) (h : Dk A I w0 w D i d k L) (ha : nth L a = some (LG, .row (lgC D m pv))) (hb : nth L b = some (pf, po)) (hsv : Sv 2 po pv (ptsC Q)) (h0 : 0 < Q.length) (hl : Q.length ≤ 100) (hf : ∀ j (hj : j < Q.length), Q[j].1 ≤ 500) (hm : ∀ j (hj : j + 1 < Q.length), (Q[j]'(by omega)).1 < (Q[j + 1]'hj).1) (hx : Q[0].1 ≤ x) (hx2 : x < 1000)
  (hq : q < Q.length) (hq1 : ∀ j (hj : j < Q.length), j ≤ q → Q[j].1 ≤ x) (hq2 : ∀ j (hj : j < Q.length), q < j → x < Q[j].1) (hK : ∀ w', Dk A I w0 w' D i d k L → Xt (dkU D i L) w (dkU D i L) w' → K (.int .i64 (q : Nat)) w') : Cl Tryz.prog hk 52 [.ptr LG 0, .int .i64 (x : Int)] w K := by
 apply in52 (hh.no _ _ _ (by decide) (by decide))
 unfold F52
 have ha0 : nth (dkL D i d L) (a + 6) = some (LG, .row (lgC D m pv)) := ha
 simp only [onP]
 refine onM_s (v := pv) (h.ow.ld _ ha0 rfl) ⟨_, pts_len h hb hsv, ?_⟩
 have hel := ents_length Q
 obtain ⟨hr0, xr0⟩ := h.room
 refine loopP_ind (fun mm l w8 => ∃ (j : Nat) (av : AV) (af : Nat) (ao : Ob), mm = Q.length - j ∧ j ≤ Q.length ∧ l = [av, .int .i64 j] ∧ Dk A I w0 w8 D i d k ((af, ao) :: L) ∧ Xt (dkU D i L) w (dkU D i ((af, ao) :: L)) w8 ∧ Sv 2 ao av (ensC ((ents Q).take j))) ?_
  ⟨0, .nilslice, 0, .none, rfl, Nat.zero_le _, rfl, hr0, xr0, Sv.nil⟩
 rintro mm l w8 ⟨j, av, af, ao, rfl, hj, rfl, h8, x8, hv8⟩ R1 ih
 refine ⟨_, _, rfl, fun _ => ifT_d (fun hc => ?_) fun hc => ?_⟩
 ·have hjq : j < Q.length := by omega
  refine pts_at (A := A) (I := I) (w0 := w0) (D := D) (pf := pf) hsv (j := j) hjq fun x1 y1 hxy => ⟨_, _, (hxy (b + 1) h8 hb).2, h8.new' fun b15 w16 h16 x16 => gd_t rfl (h16.wr 0 rfl (by simp) fun w17 h17 x17 => ?_)⟩
  have h17 : Dk A I w0 w17 D i d k ((b15, .row (ptC Q[j])) :: (af, ao) :: L) := h17
  have x17 : Xt (dkU D i ((b15, .row [.int .i64 0, .nilptr]) :: (af, ao) :: L)) w16 (dkU D i ((b15, .row (ptC Q[j])) :: (af, ao) :: L)) w17 := x17
  have ha1 : nth (dkL D i d ((b15, .row (ptC Q[j])) :: (af, ao) :: L)) (a + 8) = some (LG, .row (lgC D m pv)) := ha
  refine ⟨(Q[j].1 : Int), h17.ow.ld 6 rfl rfl, onM_s (v := pv) (h17.ow.ld _ ha1 rfl) (pts_at (A := A) (I := I) (w0 := w0) (D := D) (pf := pf) hsv (j := 0) h0 fun x2 y2 hxy2 => ⟨_, (hxy2 (b + 2) h17 hb).1, h17.new' fun b25 w26 h26 x26 => ?_⟩)⟩
  have ha2 : nth (dkL D i d ((b25, .row [.int .i64 (wi ((Q[j].1 : Int) - (Q[0].1 : Int))), .int .i64 (j : Int)]) :: (b15, .row (ptC Q[j])) :: (af, ao) :: L)) (a + 9) = some (LG, .row (lgC D m pv)) := ha
  refine ⟨(hxy2 (b + 3) h26 hb).1, h26.ow.ld _ ha2 rfl, h26.ow.ld 7 rfl rfl, ?_⟩
  have hb25 : Box w26 b25 [.int .i64 (wi ((Q[j].1 : Int) - (Q[0].1 : Int))), .int .i64 (j : Int)] := (h26.ow.box (b25, _) (nth_mem (i := 6) rfl) rfl).1
  have htl : (ensC ((ents Q).take j)).length / 2 = j := by rw [ensC_length, List.length_take, hel, Nat.min_eq_left (by omega)]; omega
  refine h26.accL 2 rfl hv8 (by decide) (hb25.rs rfl) (by rw [htl]; omega) (by rw [htl]; omega) fun av2 af2 ao2 w28 h28 x28 hv28 => ?_
  have hen : enC ((ents Q)[j]'(by rw [hel]; exact hjq)) = [.int .i64 (wi ((Q[j].1 : Int) - (Q[0].1 : Int))), .int .i64 (j : Int)] := by
   rw [ents_at hjq]
   have := hf j hjq
   have := hf 0 h0
   rw [wi_eq (by omega) (by omega)]; rfl
  have h28 : Dk A I w0 w28 D i d k ((b25, .row [.int .i64 (wi ((Q[j].1 : Int) - (Q[0].1 : Int))), .int .i64 (j : Int)]) :: (b15, .row (ptC Q[j])) :: (af2, ao2) :: L) := h28
  obtain ⟨h29, x29, _⟩ := h28.drop
  obtain ⟨h30, x30, _⟩ := h29.drop
  refine ih (Q.length - (j + 1)) (by omega) _ _ ⟨j + 1, av2, af2, ao2, rfl, hjq, by rw [wi_eq (by omega) (by omega)]; rfl, h30, ((((((x8.trans x16).trans x17).trans x26).trans x28).trans x29).trans x30), ?_⟩
  rw [List.take_succ_eq_append_getElem (by rw [hel]; exact hjq), ensC_app]
  have e2 : ensC [(ents Q)[j]'(by rw [hel]; exact hjq)] = enC ((ents Q)[j]'(by rw [hel]; exact hjq)) := by simp [ensC]
  rw [e2, hen]; exact hv28
 ·obtain rfl : j = Q.length := by omega
  rw [List.take_of_length_le (by rw [hel]; exact Nat.le_refl _)] at hv8
  refine g23 hh h8 (a := a + 1) (b := b + 1) ha hb hsv h0 ⟨_, rfl, ?_⟩
  have hf0 := hf 0 h0
  rw [show wi ((x : Int) - ((Q[0].1 : Nat) : Int)) = (x : Int) - ((Q[0].1 : Nat) : Int) by rw [wi_eq (by omega) (by omega)]]
  refine g88 (q := q) hh h8 hv8 (by rw [hel]; exact h0) (by rw [ents_at h0]; simp) (fun j hj => ?_) (fun j hj => ?_) (by rw [hel]; omega) (by omega) (by rw [hel]; exact hq) (fun j hj hjq => ?_) (fun j hj hjq => ?_) fun w33 h33 x33 => ?_
  ·rw [hel] at hj
   rw [ents_at hj, ents_at (show j < Q.length by omega)]
   have := hm j hj
   simp only
   omega
  ·rw [hel] at hj
   rw [ents_at hj]
   have := hf j hj
   simp only
   omega
  ·rw [hel] at hj
   rw [ents_at hj]
   have := hq1 j hj hjq
   simp only
   omega
  ·rw [hel] at hj
   rw [ents_at hj]
   have := hq2 j hj hjq
   simp only
   omega
  ·rw [ents_at hq]
   refine ⟨_, _, _, rfl, h33.new' fun b37 w38 h38 x38 => h38.wr 0 rfl (by simp) fun w39 h39 x39 => ⟨(q : Int), h39.ow.ld 6 rfl rfl, ?_⟩⟩
   obtain ⟨h40, x40, _⟩ := h39.drop
   obtain ⟨h41, x41⟩ := h40.forget
   exact hK w39 h41 (((((x8.trans x33).trans x38).trans x39).trans x40).trans x41)
end
end Go.Proofs.YthpjoogmmjikmaaGreatDoor
/-
 A log of many segments, over memory: Open, Append.
 No condition beyond those that each theorem names.
-/
set_option linter.unusedSimpArgs false
open Go.Sx
set_option linter.unusedVariables false
set_option linter.unusedSimpArgs false
namespace Go.Proofs.YthpjoogmmjikmaaGreatDoor
abbrev T1 : Nat → Prop := fun _ => True
def rSg (D : Nat) (A : Nat → Prop) (w : AW) (S : Nat) (x : List Byts) : Prop := A S ∧ (cat x).length ≤ 744 ∧ ∃ nm bv ev, Rdb w S S (segC D nm bv ev false) ∧ (rL rU).rd A w [bv] (cat x) ∧ (rL rI).rd A w [ev] ((ends (cat x)).map fun n : Nat => (n : Int))
theorem rSg.x {D S : Nat} {x : List Byts} {U U' : List Nat} {w w' : AW} {B : Nat → Prop} (h : rSg D (fz B U) w S x) (e : Xt U w U' w') : rSg D (fz B U') w' S x := by
 obtain ⟨h1, hl, nm, bv, ev, h2, h3, h4⟩ := h
 obtain ⟨g1, _, g2⟩ := e.xw.xa.a S S _ h1 h1 h2
 exact ⟨g1, hl, nm, bv, ev, g2, h3.x e, h4.x e⟩
section
variable {hk : Hook} {A B : Nat → Prop} {I : List Nat} {w0 w w' : AW} {D S LG pf : Nat} {po : Ob} {i i' : DI} {d d' : Dsk} {k k' : Nat} {L L' R : Obs} {K : AV → AW → Prop} {nm bs t : Byts} {bv ev pv : AV} {ef : Nat} {eo : Ob} {m : Int} {Q : List (Nat × Nat)} {n a b c : Nat}
theorem dropSv {E : List Nat} (h : Dk T1 I w0 w D i d k ((ef, eo) :: L)) (hv : Sv 1 eo ev (cst E)) : Dk T1 I w0 w D i d k L ∧ Xt (dkU D i ((ef, eo) :: L)) w (dkU D i L) w ∧ (rL rI).rd (fz T1 (dkU D i L)) w [ev] (E.map fun n : Nat => (n : Int)) := by
 rcases hv with ⟨rfl, he⟩ | ⟨b, nn, ex, rfl, rfl, h3, h4⟩
 ·obtain ⟨h1, x1⟩ := h.forget
  have : E = [] := by
   have := congrArg List.length he
   rw [cst_length] at this
   exact List.length_eq_zero_iff.1 this
  subst this
  exact ⟨h1, x1, Rp.rd.nil⟩
 ·have hb0 := (h.ow.box (ef, .acc b (cst E)) (nth_mem (i := 6) rfl) rfl).1
  obtain ⟨h1, x1, a1, _⟩ := h.drop
  refine ⟨h1, x1, ?_⟩
  obtain ⟨⟨o, dd, g1⟩, g2⟩ := hb0
  have hbU : b ∉ dkU D i L := fun hm => by
   have hm : b ∈ ids (dkL D i d L) := hm
   obtain ⟨p, p1, p2, p3⟩ := ids_of hm
   have := (h1.ow.box p p1 p2).1.root p2 (by rw [p3]; exact g1)
   rw [p3] at this
   rw [← this] at hm
   exact a1.2 hm
  have hrd : Rdb w b ef (cst E) := Rdb.mk g1 g2
  rw [cst_length] at h3
  have hnn : nn = E.length := by omega
  subst hnn
  refine ⟨_, rfl, .inr ⟨b, 0, E.length, ex, ef, cst E, by rw [List.length_map], ⟨by rw [List.length_map]; exact Nat.le_refl _, by rcases h4 with rfl | rfl <;> rfl⟩, ⟨trivial, hbU⟩, a1, hrd, by rw [List.length_map, cst_length]; show 0 + E.length * 1 ≤ _; omega, ?_⟩⟩
  rw [List.length_map, List.drop_zero]
  have : (cst E).take (E.length * 1) = cst E := List.take_of_length_le (by rw [cst_length]; omega)
  show Chk rI _ w ((cst E).take (E.length * 1)) _
  rw [this]
  refine Chk.ints.2 ?_
  unfold cst; rw [List.map_map]; rfl
set_option maxRecDepth 20000 in
theorem g10 (hh : HK hk) (h : Dk A I w0 w D i Dsk.none k L) (hm : 1 ≤ m) (hm2 : m ≤ 300) (hK : ∀ LG i' w', Dk A I w0 w' D i' Dsk.none k ((LG, .row (lgC D m .nilslice)) :: L) → Xt (dkU D i L) w (dkU D i' ((LG, .row (lgC D m .nilslice)) :: L)) w' → K (.tup [.ptr LG 0, .int .i64 0]) w') : Cl Tryz.prog hk 10 [.ptr D 0, .str lognm, .int .i64 m, .int .i64 7] w K := by
 apply in10 (hh.no _ _ _ (by decide) (by decide))
 unfold F10
 refine h.new' fun b4 w5 h5 x5 => ⟨lognm, h5.ow.ld 6 rfl rfl, ifT_f ⟨lognm, h5.ow.ld 6 rfl rfl, ifT_f (ifT_d (fun hc => by omega) fun _ => ifT_f (ifT_f (s37 hh h5 ?_)))⟩⟩
 rw [show Dsk.none.sync [] = (Dsk.none, 70) from rfl]
 intro i9 w9 h9 x9
 refine ⟨70, rfl, ifT_f ⟨lognm, h9.ow.ld 6 rfl rfl, gd_t rfl (gd_t rfl (h9.new' fun LG w13 h13 x13 => ?_))⟩⟩
 refine s41 hh h13 (fun u hu => (by cases hu)) (by decide) fun v15 w15 f15 hr15 _ => ⟨_, hr15.len', ?_⟩
 obtain ⟨h15, x15⟩ := h13.fr f15
 have hn0 : (namesOf Dsk.none).length = 0 := rfl
 rw [hn0]
 intro R1 hR1
 refine hR1 _ _ ⟨_, _, rfl, fun _ => ifT_f (Cl_hook (hh.sortI _ _ _ rfl) ⟨rfl, 0, rfl, ?_⟩)⟩
 intro R2 hR2
 refine hR2 _ _ ⟨_, rfl, fun _ => ifT_f ?_⟩
 have h15' : Dk A I w0 w15 D i9 Dsk.none k ((LG, .row [.ptr D 0, .str lognm, .int .i64 m, .nilslice, .int .i64 7, .int .i64 0, .bool false]) :: (b4, .row [.str lognm]) :: L) := h15
 -- Last, by hand: the log's cells are not yet as they will be
 apply in24 (hh.no _ _ _ (by decide) (by decide))
 unfold F24
 refine s51 hh (h15'.ow.ld 6 rfl rfl) ⟨_, rfl, ifT_f ?_⟩
 apply in46 (hh.no _ _ _ (by decide) (by decide))
 unfold F46
 refine h15'.new' fun b1 w16 h16 x16 => onM_s (v := .nilslice) (h16.ow.ld 7 rfl rfl) ⟨0, rfl, ifT_t (h16.wr 0 rfl (by simp) fun w17 h17 x17 => ⟨_, _, h17.ow.ldN 6 rfl rfl rfl, _, _, _, rfl, h17.new' fun b9 w18 h18 x18 => gd_t rfl (h18.wr 0 rfl (by simp) fun w19 h19 x19 => ifT_f ⟨7, h19.ow.ld 8 rfl rfl, _, rfl, h19.wr 2 rfl (by simp) fun w20 h20 x20 => ?_⟩)⟩)⟩
 have h20 : Dk A I w0 w20 D i9 Dsk.none k ([(b9, Ob.row [.int .i64 0, .nilptr]), (b1, Ob.row [.int .i64 0, .nilptr])] ++ ((LG, .row (lgC D m .nilslice)) :: (b4, .row [.str lognm]) :: L)) := h20
 obtain ⟨h66, x66⟩ := h20.spoilM (Nat.le_refl _) h20.ow.mem fun _ _ _ => rfl
 obtain ⟨h67, x67⟩ := h66.permL (L' := (b4, .row [.str lognm]) :: (LG, .row (lgC D m .nilslice)) :: L) (List.Perm.swap _ _ _)
 obtain ⟨h68, x68, _⟩ := h67.drop
 exact hK LG i9 w20 h68 ((((((((x5.trans x9).trans x13).trans x15).trans x16).trans x17).trans x18).trans x19).trans (((x20.trans x66).trans x67).trans x68))
theorem g49 (hh : HK hk) (h : Dk A I w0 w D i d k ((S, .row (segC D nm bv ev false)) :: L)) (hs : d.sync nm = (d', 0)) (hK : ∀ i' w', Dk A I w0 w' D i' d' k ((S, .row (segC D nm bv ev false)) :: L) → Xt (dkU D i ((S, .row (segC D nm bv ev false)) :: L)) w (dkU D i' ((S, .row (segC D nm bv ev false)) :: L)) w' → K (.int .i64 0) w') : Cl Tryz.prog hk 49 [.ptr S 0] w K := by
 apply in49 (hh.no _ _ _ (by decide) (by decide))
 unfold F49
 refine s83 (D := D) (br := false) hh (h.ow.ld 6 rfl rfl) (h.ow.ld 6 rfl rfl) ⟨0, rfl, ifT_f ?_⟩
 simp only [onP]
 refine onM_s (v := .ptr D 0) (h.ow.ld 6 rfl rfl) ⟨nm, h.ow.ld 6 rfl rfl, s37 hh h ?_⟩
 rw [hs]
 intro i' w' h' x'
 exact ⟨0, rfl, ifT_f (s84 hh (fun _ => ⟨0, rfl, hK i' w' h' x'⟩) fun h => absurd rfl h)⟩
abbrev GL (D S ef pf LG : Nat) (n : Nat) (eo po : Ob) (bv ev pv : AV) (m : Int) (R : Obs) : Obs := (S, .row (segC D (fnm n) bv ev false)) :: (ef, eo) :: (pf, po) :: (LG, .row (lgC D m pv)) :: R
abbrev Olds := List (Nat × Nat × List Byts)
def oP (O : Olds) : List (Nat × Nat) := O.map fun o => (o.1, o.2.1)
def oB (O : Olds) : Pts := O.map fun o => (o.1, o.2.2)
structure Mid (w0 w : AW) (D : Nat) (i : DI) (d : Dsk) (k LG : Nat) (m : Int) (O : Olds) (n S : Nat) (bs : List Byts) (pf : Nat) (po : Ob) (pv : AV) (ef : Nat) (eo : Ob) (bv ev : AV) (R : Obs) : Prop where
 dk : Dk T1 [] w0 w D i d k (GL D S ef pf LG n eo po bv ev pv m R)
 old : ∀ o ∈ O, rSg D (fz T1 (dkU D i (GL D S ef pf LG n eo po bv ev pv m R))) w o.2.1 o.2.2
 pts : Sv 2 po pv (ptsC (oP O ++ [(n, S)]))
 bvr : (rL rU).rd (fz T1 (dkU D i (GL D S ef pf LG n eo po bv ev pv m R))) w [bv] (cat bs)
 evr : Sv 1 eo ev (cst (ends (cat bs)))
 b64 : ∀ t ∈ bs, t.length ≤ 300
structure Lg (w0 w : AW) (D : Nat) (i : DI) (d : Dsk) (k LG : Nat) (m : Int) (O : Olds) (n S : Nat) (bs : List Byts) (pf : Nat) (po : Ob) (pv : AV) (ef : Nat) (eo : Ob) (bv ev : AV) (R : Obs) : Prop extends Mid w0 w D i d k LG m O n S bs pf po pv ef eo bv ev R where
 ds : DS d n bs O.length
 ch : Chain 7 (oB O ++ [(n, bs)])
 bl : (cat bs).length ≤ 744
theorem cat_cnt {bs : List Byts} (h : ∀ t ∈ bs, t.length ≤ 300) : (ends (cat bs)).length = bs.length ∧ sizeE (ends (cat bs)) = (cat bs).length := by
 obtain ⟨a, b, _⟩ := cat_told bs.length bs rfl fun t ht => Nat.le_trans (h t ht) (by decide)
 exact ⟨a, b⟩
set_option maxRecDepth 20000 in
theorem g11fin {dv : AV} {O : Olds} {S b11 : Nat} {bs : List Byts} {F : List Byts} (hh : HK hk) (h : Mid w0 w D i d k LG m O n S bs pf po pv ef eo bv ev ((b11, .row [.int .i64 (n : Int), .ptr S 0]) :: R)) (hd : (rL rU).rd (fz T1 (dkU D i (GL D S ef pf LG n eo po bv ev pv m ((b11, .row [.int .i64 (n : Int), .ptr S 0]) :: R)))) w [dv] t) (htl : t.length ≤ 300) (hkk : k + 20000 < 2 ^ 27) (hbl : (cat bs).length + (4 + t.length) ≤ 744) (hcnt : bs.length ≤ 40)
  (hp : ∃ d', puts (fnm n) (cat bs ++ frame t) (nsec (cat bs ++ frame t) - (cat bs).length / 62) ((cat bs).length / 62) d = (d', 0) ∧ DS d' n (bs ++ [t]) O.length) (hch : Chain 7 (oB O ++ [(n, bs ++ [t])])) (hO : O.length ≤ 40) (hF : 7 + F.length = n + bs.length) (hn : n ≤ 60)
  (hK : ∀ i' d' w' ef' eo' bv' ev', Lg w0 w' D i' d' (k + 10000) LG m O n S (bs ++ [t]) pf po pv ef' eo' bv' ev' R → Xt (dkU D i (GL D S ef pf LG n eo po bv ev pv m ((b11, .row [.int .i64 (n : Int), .ptr S 0]) :: R))) w (dkU D i' (GL D S ef' pf LG n eo' po bv' ev' pv m R)) w' → K (.tup [.int .i64 ((7 + F.length : Nat) : Int), .int .i64 0]) w') :
  onM (ld w b11 (0 + 1)) fun x_20 => Cl Tryz.prog hk 50 [x_20, dv] w fun r_21 w_22 => ∃ x_23 : Int, ∃ x_24 : Int, r_21 = .tup [(.int .i64 x_23), (.int .i64 x_24)] ∧ Cl Tryz.prog hk 48 [.ptr LG 0, (.int .i64 x_24)] w_22 fun r_25 w_26 => ∃ x_27 : Int, r_25 = (.int .i64 x_27) ∧ ifT (!decide (x_27 = 0)) (K (.tup [(.int .i64 0), (.int .i64 x_24)]) w_26) (Cl Tryz.prog hk 24 [.ptr LG 0] w_26 fun r_28 w_29 => ∃ x_30 : Int, r_28 = (.int .i64 x_30) ∧ K (.tup [(.int .i64 x_30), (.int .i64 0)]) w_29) := by
 refine onM_s (v := .ptr S 0) (h.dk.ow.ld 10 rfl rfl) ?_
 obtain ⟨c1, c2⟩ := cat_cnt h.b64
 have ecst : ((ends (cat bs)).map fun n : Nat => ((n : Nat) : Int)).map (AV.int .i64) = cst (ends (cat bs)) := by unfold cst; rw [List.map_map]; rfl
 obtain ⟨d2, hp1, hds⟩ := hp
 refine s50 (body := t) (bs := cat bs) (es := (ends (cat bs)).map fun n : Nat => ((n : Nat) : Int)) hh h.dk h.bvr (by rw [ecst]; exact h.evr) (fun w' _ _ _ _ hx => (hd.x hx).rsB) (by omega) (by omega) (by simp; omega) (by omega) (fun _ i22 w22 bv2 ev2 ef2 eo2 h22 x22 hbv2 hsv2 => ?_) (fun hne => absurd (by rw [hp1]) hne)
 rw [hp1] at h22
 have hb64 : ∀ u ∈ bs ++ [t], u.length ≤ 300 := fun u hu => by
  rcases List.mem_append.1 hu with hu | hu
  ·exact h.b64 u hu
  ·simp at hu; subst hu; exact htl
 have hsv2 : Sv 1 eo2 ev2 (cst (ends (cat (bs ++ [t])))) := by
  rw [cat_snoc, ends_app (by omega) c2]
  have e9 : ((ends (cat bs)).map (fun n : Nat => ((n : Nat) : Int)) ++ [((cat bs ++ frame t).length : Int)]).map (AV.int .i64) = cst (ends (cat bs) ++ [(cat bs ++ frame t).length]) := by
   unfold cst; rw [List.map_append, List.map_append, List.map_map]; rfl
  rw [← e9]; exact hsv2
 obtain ⟨e1, e2⟩ := cat_cnt hb64
 have hol : (oP O).length = O.length := List.length_map _
 have hat : (oP O ++ [(n, S)])[O.length]'(by simp [hol]) = (n, S) := by
  rw [List.getElem_append_right (by omega)]; simp [hol]
 refine ⟨_, _, rfl, g48 hh h22 (a := 3) rfl fun w26 h26 x26 => ⟨_, rfl, ifT_f ?_⟩⟩
 refine g24 hh h26 (a := 3) (b := 2) (c := 0) (n := O.length) rfl rfl h.pts (by simp [hol]) (by omega) rfl rfl hsv2 hat (by rw [e1]; simp; omega) fun w29 h29 x29 => ⟨_, rfl, ?_⟩
 have hret : ((n + (ends (cat (bs ++ [t]))).length : Nat) : Int) - 1 = ((7 + F.length : Nat) : Int) := by
  rw [e1, List.length_append, List.length_singleton]; omega
 rw [hret]
 have hpm : List.Perm (GL D S ef2 pf LG n eo2 po bv2 ev2 pv m ((b11, .row [.int .i64 (n : Int), .ptr S 0]) :: R)) ((b11, .row [.int .i64 (n : Int), .ptr S 0]) :: GL D S ef2 pf LG n eo2 po bv2 ev2 pv m R) :=
  List.perm_middle (a := (b11, Ob.row [.int .i64 (n : Int), .ptr S 0])) (l₁ := [(S, .row (segC D (fnm n) bv2 ev2 false)), (ef2, eo2), (pf, po), (LG, .row (lgC D m pv))]) (l₂ := R)
 obtain ⟨h30, x30⟩ := h29.permL hpm
 obtain ⟨h31, x31, _⟩ := h30.drop
 have xx := (((x22.trans x26).trans x29).trans x30).trans x31
 refine hK i22 d2 w29 ef2 eo2 bv2 ev2 ⟨⟨h31, fun o ho => (h.old o ho).x xx, h.pts, ?_, hsv2, hb64⟩, hds, hch, by rw [cat_snoc, List.length_append, frame_length]; omega⟩ xx
 rw [cat_snoc]
 exact ((((hbv2.x x26).x x29).x x30).x x31)
end
end Go.Proofs.YthpjoogmmjikmaaGreatDoor
/-
 A log of many segments, over memory: Append.
 No condition beyond those that each theorem names.
-/
set_option linter.unusedSimpArgs false
open Go.Sx
set_option linter.unusedVariables false
set_option linter.unusedSimpArgs false
namespace Go.Proofs.YthpjoogmmjikmaaGreatDoor
theorem ptsC_app (l r : List (Nat × Nat)) : ptsC (l ++ r) = ptsC l ++ ptsC r := by simp [ptsC]
section
variable {hk : Hook} {A B : Nat → Prop} {I : List Nat} {w0 w w' : AW} {D S LG pf : Nat} {po : Ob} {i i' : DI} {d d' : Dsk} {k k' : Nat} {L L' R : Obs} {K : AV → AW → Prop} {nm bs t : Byts} {bv ev pv : AV} {ef : Nat} {eo : Ob} {m : Int} {Q : List (Nat × Nat)} {n a b c : Nat}
set_option maxRecDepth 20000 in
theorem g11new {O : Olds} {b11 n2 : Nat} {x0 p0 : AV} {x37 : Int} {J : AW → Prop} (hh : HK hk) (h : Dk T1 [] w0 w D i d k ((b11, .row [x0, p0]) :: (pf, po) :: (LG, .row (lgC D m pv)) :: R)) (hold : ∀ o ∈ O, rSg D (fz T1 (dkU D i ((b11, .row [x0, p0]) :: (pf, po) :: (LG, .row (lgC D m pv)) :: R))) w o.2.1 o.2.2) (hpts : Sv 2 po pv (ptsC (oP O))) (hx : wi (x37 + 1) = ((n2 : Nat) : Int)) (hn : n2 < 100) (hO : O.length ≤ 60) (hr : d.read (fnm n2) = ([], 70)) (ho : openD (fnm n2) d = (d, 0)) (hkk : k + 20000 < 2 ^ 27)
  (hJ : ∀ S' ef' eo' pf' po' pv' bv' ev' i' w', Mid w0 w' D i' d (k + 10000) LG m O n2 S' [] pf' po' pv' ef' eo' bv' ev' ((b11, .row [.int .i64 (n2 : Int), .ptr S' 0]) :: R) → Xt (dkU D i ((b11, .row [x0, p0]) :: (pf, po) :: (LG, .row (lgC D m pv)) :: R)) w (dkU D i' (GL D S' ef' pf' LG n2 eo' po' bv' ev' pv' m ((b11, .row [.int .i64 (n2 : Int), .ptr S' 0]) :: R))) w' → J w') :
  onM (ld w LG (0 + 0)) fun (x_40 : AV) => Cl Tryz.prog hk 44 [.ptr LG 0, (.int .i64 (wi (x37 + 1)))] w fun r_41 w_42 => ∃ x_43 : List UInt8, r_41 = (.str x_43) ∧ ld w_42 LG (0 + 0) = some x_40 ∧
   Cl Tryz.prog hk 43 [x_40, (.str x_43)] w_42 fun r_44 w_45 => ∃ x_46 : AV, ∃ x_47 : Int, r_44 = .tup [x_46, (.int .i64 x_47)] ∧
   Cl Tryz.prog hk 48 [.ptr LG 0, (.int .i64 x_47)] w_45 fun r_48 w_49 => ∃ x_50 : Int, r_48 = (.int .i64 x_50) ∧
   ifT (!decide (x_50 = 0)) (K (.tup [(.int .i64 0), (.int .i64 x_47)]) w_49)
   (gd (okCell x_46) (gd (List.all [(.int .i64 (wi (x37 + 1))), x_46] okCell) (
   onM (AW.putCells w_49 b11 0 [(.int .i64 (wi (x37 + 1))), x_46]) fun w_51 => onM (ld w_51 LG (0 + 3)) fun x_54 =>
   ∃ x_55 : Int, ∃ x_56 : AV, ldN 2 w_51 b11 0 = some (.agg [(.int .i64 x_55), x_56]) ∧
   gd (List.all [(.int .i64 x_55), x_56] okCell) (
   new w_51 [(.int .i64 x_55), x_56] fun b_57 w_58 => ldN 2 w_58 b11 0 = some (.agg [(.int .i64 x_55), x_56]) ∧ ld w_58 LG (0 + 3) = some x_54 ∧
   onE (appS 2 16 w_58 x_54 (.slice b_57 0 1 1 none)) fun x_59 w_60 => gd (okCell x_59) (onM (AW.putCells w_60 LG (0 + 3) [x_59]) fun w_63 => J w_63))))) := by
 refine onM_s (v := .ptr D 0) (h.ow.ld 8 rfl rfl) ?_
 rw [hx]
 refine g44 hh (h.ow.ld 8 rfl rfl) hn ⟨_, rfl, h.ow.ld 8 rfl rfl, ?_⟩
 refine s43 hh h (by rw [hr]; exact Nat.zero_le _) (by omega) (fun hne => absurd (by rw [ho]) hne) (fun _ S2 bv2 ev2 ef2 eo2 i45 w45 h45 x45 hbv hsv => ⟨_, _, rfl, ?_⟩)
 rw [ho] at h45
 rw [hr] at hbv hsv
 have hbv : (rL rU).rd (fz T1 (dkU D i45 ((S2, .row (segC D (fnm n2) bv2 ev2 false)) :: (ef2, eo2) :: (b11, .row [x0, p0]) :: (pf, po) :: (LG, .row (lgC D m pv)) :: R))) w45 [bv2] [] := hbv
 have hsv : Sv 1 eo2 ev2 (cst []) := hsv
 refine g48 hh h45 (a := 4) rfl fun w49 h49 x49 => ⟨_, rfl, ifT_f (gd_t rfl (gd_t rfl (h49.wr 2 rfl (by simp) fun w51 h51 x51 => ?_)))⟩
 refine onM_s (v := pv) (h51.ow.ld 10 rfl rfl) ⟨(n2 : Int), .ptr S2 0, h51.ow.ldN 8 rfl rfl rfl, gd_t rfl (h51.new' fun b57 w58 h58 x58 => ⟨h58.ow.ldN 9 rfl rfl rfl, h58.ow.ld 11 rfl rfl, ?_⟩)⟩
 have h58 : Dk T1 [] w0 w58 D i45 d (k + 10000) ((b57, .row [.int .i64 (n2 : Int), .ptr S2 0]) :: (S2, .row (segC D (fnm n2) bv2 ev2 false)) :: (ef2, eo2) :: (b11, .row [.int .i64 (n2 : Int), .ptr S2 0]) :: (pf, po) :: (LG, .row (lgC D m pv)) :: R) := h58
 have hb57 : Box w58 b57 [.int .i64 (n2 : Int), .ptr S2 0] := (h58.ow.box (b57, .row [.int .i64 (n2 : Int), .ptr S2 0]) (nth_mem (i := 6) rfl) rfl).1
 have hol : (ptsC (oP O)).length / 2 = O.length := by rw [ptsC_length]; unfold oP; rw [List.length_map]; omega
 refine h58.accL 4 rfl hpts (by decide) (hb57.rs rfl) (by rw [hol]; omega) (by rw [hol]; omega) fun pv2 pf2 po2 w60 h60 x60 hpts2 => gd_t hpts2.ok (h60.wr 5 rfl (by simp [lgC]) fun w63 h63 x63 => ?_)
 have h63 : Dk T1 [] w0 w63 D i45 d (k + 10000) ((b57, .row [.int .i64 (n2 : Int), .ptr S2 0]) :: (S2, .row (segC D (fnm n2) bv2 ev2 false)) :: (ef2, eo2) :: (b11, .row [.int .i64 (n2 : Int), .ptr S2 0]) :: (pf2, po2) :: (LG, .row (lgC D m pv2)) :: R) := h63
 obtain ⟨h64, x64, _⟩ := h63.drop
 have hpm : List.Perm ((S2, Ob.row (segC D (fnm n2) bv2 ev2 false)) :: (ef2, eo2) :: (b11, Ob.row [.int .i64 (n2 : Int), .ptr S2 0]) :: (pf2, po2) :: (LG, Ob.row (lgC D m pv2)) :: R) (GL D S2 ef2 pf2 LG n2 eo2 po2 bv2 ev2 pv2 m ((b11, Ob.row [.int .i64 (n2 : Int), .ptr S2 0]) :: R)) :=
  .cons _ (.cons _ ((List.perm_append_comm (l₁ := [(b11, Ob.row [.int .i64 (n2 : Int), .ptr S2 0])]) (l₂ := [(pf2, po2), (LG, Ob.row (lgC D m pv2))])).append_right R))
 obtain ⟨h65, x65⟩ := h64.permL hpm
 have xx := (((((((x45.trans x49).trans x51).trans x58).trans x60).trans x63).trans x64).trans x65)
 refine hJ S2 ef2 eo2 pf2 po2 pv2 bv2 ev2 i45 w63 ⟨h65, fun o ho => (hold o ho).x xx, ?_, ((((((hbv.x x49).x x51).x x58).x x60).x x63).x x64).x x65, hsv, by simp⟩ xx
 rw [ptsC_app]; exact hpts2
set_option maxRecDepth 20000 in
theorem g11n {dv : AV} (hh : HK hk) (h : Dk T1 [] w0 w D i Dsk.none k ((LG, .row (lgC D m .nilslice)) :: R)) (hd : (rL rU).rd (fz T1 (dkU D i ((LG, .row (lgC D m .nilslice)) :: R))) w [dv] t) (htl : t.length ≤ 300) (hkk : k + 50000 < 2 ^ 27)
  (hK : ∀ S ef eo pf po pv bv ev i' d' w', Lg w0 w' D i' d' (k + 40000) LG m [] 7 S [t] pf po pv ef eo bv ev R → Xt (dkU D i ((LG, .row (lgC D m .nilslice)) :: R)) w (dkU D i' (GL D S ef pf LG 7 eo po bv ev pv m R)) w' → K (.tup [.int .i64 7, .int .i64 0]) w') : Cl Tryz.prog hk 11 [.ptr LG 0, dv] w K := by
 apply in11 (hh.no _ _ _ (by decide) (by decide))
 unfold F11
 refine s45 hh (h.ow.ld 6 rfl rfl) (h.ow.ld 6 rfl rfl) ⟨_, rfl, ifT_f ⟨_, hd.len', ifT_d (fun hc => by omega) fun _ => ?_⟩⟩
 refine g46n hh h (a := 0) rfl fun w7 h7 x7 => ⟨_, _, _, rfl, h7.new' fun b11 w12 h12 x12 => gd_t rfl (h12.wr 0 rfl (by simp) fun w13 h13 x13 => ?_)⟩
 have h13 : Dk T1 [] w0 w13 D i Dsk.none k ((b11, .row [.int .i64 0, .nilptr]) :: (LG, .row (lgC D m .nilslice)) :: R) := h13
 obtain ⟨h14, x14⟩ := h13.room
 obtain ⟨h15, x15⟩ := h14.permL (L' := (b11, .row [.int .i64 0, .nilptr]) :: (0, .none) :: (LG, .row (lgC D m .nilslice)) :: R) (List.Perm.swap _ _ _)
 have x015 := (((x7.trans x12).trans x13).trans x14).trans x15
 refine join_of (fun l w15 => l = [] ∧ w15 = w13) ?_ fun J hJ => ifT_f (hJ _ _ ⟨rfl, rfl⟩)
 rintro l w15 ⟨rfl, rfl⟩
 refine ⟨rfl, fun _ => ?_⟩
 obtain ⟨hrd, hod⟩ := dn_open dn_none
 refine join_of (fun l w18 => l = [] ∧ ∃ S' ef' eo' pf' po' pv' bv' ev' i', Mid w0 w18 D i' Dsk.none (k + 10000) LG m [] 7 S' [] pf' po' pv' ef' eo' bv' ev' ((b11, .row [.int .i64 ((7 : Nat) : Int), .ptr S' 0]) :: R) ∧ Xt (dkU D i ((b11, .row [.int .i64 0, .nilptr]) :: (0, .none) :: (LG, .row (lgC D m .nilslice)) :: R)) w15 (dkU D i' (GL D S' ef' pf' LG 7 eo' po' bv' ev' pv' m ((b11, .row [.int .i64 ((7 : Nat) : Int), .ptr S' 0]) :: R))) w18) ?_ ?_
 ·rintro l w18 ⟨rfl, S', ef', eo', pf', po', pv', bv', ev', i18, hM, x18⟩
  refine ⟨rfl, fun _ => ?_⟩
  have hd18 := (hd.x x015).x x18
  refine g11fin (F := []) hh hM hd18 htl (by omega) (by simp [cat]; omega) (by simp) (dn_app dn_none (by decide) (by omega)) ⟨rfl, by simp, trivial⟩ (by simp) rfl (by decide) fun i' d' w' ef2 eo2 bv2 ev2 hL hx => ?_
  exact hK S' ef2 eo2 pf' po' pv' bv2 ev2 i' d' w' (by
   obtain ⟨⟨a1, a2, a3, a4, a5, a6⟩, a7, a8, a9⟩ := hL
   exact ⟨⟨a1.le (by omega) (by omega), a2, a3, a4, a5, a6⟩, a7, a8, a9⟩) ((x015.trans x18).trans hx)
 ·intro J2 hJ2
  refine join_of (fun l w32 => l = [.bool true] ∧ w32 = w15) ?_ fun J3 hJ3 => ifT_t (hJ3 _ _ ⟨rfl, rfl⟩)
  rintro l w32 ⟨rfl, rfl⟩
  refine ⟨_, rfl, fun _ => ifT_t (g24n hh h15 (a := 2) rfl fun w36 h36 x36 => ⟨_, rfl, ?_⟩)⟩
  refine g11new (O := []) (n2 := 7) (K := K) hh h36 (by simp) Sv.nil (by decide) (by decide) (by simp) hrd hod (by omega) fun S' ef' eo' pf' po' pv' bv' ev' i' w' hM hx => hJ2 _ _ ⟨rfl, S', ef', eo', pf', po', pv', bv', ev', i', hM, x36.trans hx⟩
end
end Go.Proofs.YthpjoogmmjikmaaGreatDoor
/-
 A log of many segments, over memory: Append (the second part).
 No condition beyond those that each theorem names.
-/
set_option linter.unusedSimpArgs false
open Go.Sx
set_option linter.unusedVariables false
set_option linter.unusedSimpArgs false
namespace Go.Proofs.YthpjoogmmjikmaaGreatDoor
theorem chain_count : ∀ {Q : Pts} {s : Nat}, Chain s Q → Q.length ≤ (flat Q).length
  | [], _, _ => Nat.zero_le _
  | q :: r, s, ⟨_, h2, h3⟩ => by
    have := chain_count h3
    have : 0 < q.2.length := List.length_pos_iff.2 h2
    rw [flat_cons, List.length_append, List.length_cons]; omega
theorem chain_bs : ∀ {P : Pts} {s n : Nat} {bs : List Byts}, Chain s (P ++ [(n, bs)]) → bs ≠ [] ∧ Chain s P
  | [], s, n, bs, ⟨h1, h2, _⟩ => ⟨h2, trivial⟩
  | q :: r, s, n, bs, ⟨h1, h2, h3⟩ => by
    obtain ⟨a, b⟩ := chain_bs (P := r) h3
    exact ⟨a, h1, h2, b⟩
theorem oB_app (O : Olds) (n S : Nat) (bs : List Byts) : oB (O ++ [(n, S, bs)]) = oB O ++ [(n, bs)] := by simp [oB]
theorem oP_app (O : Olds) (n S : Nat) (bs : List Byts) : oP (O ++ [(n, S, bs)]) = oP O ++ [(n, S)] := by simp [oP]
section
variable {hk : Hook} {A B : Nat → Prop} {I : List Nat} {w0 w w' : AW} {D S LG pf : Nat} {po : Ob} {i i' : DI} {d d' : Dsk} {k k' : Nat} {L L' R : Obs} {K : AV → AW → Prop} {nm t : Byts} {bs : List Byts} {bv ev pv : AV} {ef : Nat} {eo : Ob} {m : Int} {Q : List (Nat × Nat)} {n a b c : Nat}
set_option maxRecDepth 20000 in
theorem g11 {dv : AV} {O : Olds} (hh : HK hk) (h : Lg w0 w D i d k LG m O n S bs pf po pv ef eo bv ev R) (hd : (rL rU).rd (fz T1 (dkU D i (GL D S ef pf LG n eo po bv ev pv m R))) w [dv] t) (htl : t.length ≤ 300) (hm : 1 ≤ m) (hm2 : m ≤ 300) (hkk : k + 80000 < 2 ^ 27) (hcnt : (flat (oB O ++ [(n, bs)])).length ≤ 39)
  (hK : ∀ O' n' S' bs' pf' po' pv' ef' eo' bv' ev' i' d' w', Lg w0 w' D i' d' (k + 40000) LG m O' n' S' bs' pf' po' pv' ef' eo' bv' ev' R → Xt (dkU D i (GL D S ef pf LG n eo po bv ev pv m R)) w (dkU D i' (GL D S' ef' pf' LG n' eo' po' bv' ev' pv' m R)) w' → flat (oB O' ++ [(n', bs')]) = flat (oB O ++ [(n, bs)]) ++ [t] → K (.tup [.int .i64 ((7 + (flat (oB O ++ [(n, bs)])).length : Nat) : Int), .int .i64 0]) w') : Cl Tryz.prog hk 11 [.ptr LG 0, dv] w K := by
 apply in11 (hh.no _ _ _ (by decide) (by decide))
 unfold F11
 have hF0 : flat (oB O ++ [(n, bs)]) = flat (oB O) ++ bs := by rw [flat_app]; simp [flat]
 generalize hF : flat (oB O ++ [(n, bs)]) = F at *
 have hnl := chain_last h.ch
 obtain ⟨hbne, hchO⟩ := chain_bs h.ch
 have hOc := chain_count hchO
 have hoBl : (oB O).length = O.length := List.length_map _
 have hoPl : (oP O).length = O.length := List.length_map _
 have hFl : F.length = (flat (oB O)).length + bs.length := by rw [hF0, List.length_append]
 have hb0 : 0 < bs.length := List.length_pos_iff.2 hbne
 obtain ⟨c1, c2⟩ := cat_cnt h.b64
 have hat : (oP O ++ [(n, S)])[O.length]'(by simp [hoPl]) = (n, S) := by
  rw [List.getElem_append_right (by omega)]; simp [hoPl]
 refine s45 hh (h.dk.ow.ld 9 rfl rfl) (h.dk.ow.ld 9 rfl rfl) ⟨_, rfl, ifT_f ⟨_, hd.len', ifT_d (fun hc => by omega) fun _ => ?_⟩⟩
 refine g46 hh h.dk (a := 3) (b := 2) (n := O.length) rfl rfl h.pts (by simp [hoPl]) (by omega) fun w7 h7 x7 => ?_
 rw [hat]
 refine ⟨_, _, _, rfl, h7.new' fun b11 w12 h12 x12 => gd_t rfl (h12.wr 0 rfl (by simp) fun w13 h13 x13 => ?_)⟩
 have h13 : Dk T1 [] w0 w13 D i d k ((b11, .row [.int .i64 (n : Int), .ptr S 0]) :: GL D S ef pf LG n eo po bv ev pv m R) := h13
 have x13 : Xt (dkU D i ((b11, .row [.int .i64 0, .nilptr]) :: GL D S ef pf LG n eo po bv ev pv m R)) w12 (dkU D i ((b11, .row [.int .i64 (n : Int), .ptr S 0]) :: GL D S ef pf LG n eo po bv ev pv m R)) w13 := x13
 have x013 := (x7.trans x12).trans x13
 have size : ∀ {w' : AW} {i' : DI} {d' : Dsk} {K : AV → AW → Prop}, Dk T1 [] w0 w' D i' d' k ((b11, .row [.int .i64 (n : Int), .ptr S 0]) :: GL D S ef pf LG n eo po bv ev pv m R) → K (.int .i64 ((cat bs).length : Nat)) w' → Cl Tryz.prog hk 47 [.ptr S 0] w' K := by
  intro w' i' d' K hdk hK'
  have hrs := hdk.ow.sv (i := 8) (f := ef) (o := eo) rfl h.evr (by decide) (k := (ends (cat bs)).length) (by rw [cst_length]; omega)
  refine s47 hh (hdk.ow.ld 7 rfl rfl) hrs (by omega) ?_
  rw [c2]; exact hK'
 have hbl := h.bl
 refine join_of (fun l w15 => l = [] ∧ ∃ i' d', Dk T1 [] w0 w15 D i' d' k ((b11, .row [.int .i64 (n : Int), .ptr S 0]) :: GL D S ef pf LG n eo po bv ev pv m R) ∧ Xt (dkU D i (GL D S ef pf LG n eo po bv ev pv m R)) w (dkU D i' ((b11, .row [.int .i64 (n : Int), .ptr S 0]) :: GL D S ef pf LG n eo po bv ev pv m R)) w15 ∧
   ((¬ m ≤ ((cat bs).length : Int) ∧ d' = d) ∨ (m ≤ ((cat bs).length : Int) ∧ DN d' (n + bs.length) (O.length + 1)))) ?_ ?_
 ·rintro l w15 ⟨rfl, i15, d15, h15, x15, hor⟩
  refine ⟨rfl, fun _ => ?_⟩
  refine join_of (fun l w18 => l = [] ∧ ∃ O' n' S' bs' pf' po' pv' ef' eo' bv' ev' i' d', Mid w0 w18 D i' d' (k + 20000) LG m O' n' S' bs' pf' po' pv' ef' eo' bv' ev' ((b11, .row [.int .i64 (n' : Int), .ptr S' 0]) :: R) ∧ Xt (dkU D i (GL D S ef pf LG n eo po bv ev pv m R)) w (dkU D i' (GL D S' ef' pf' LG n' eo' po' bv' ev' pv' m ((b11, .row [.int .i64 (n' : Int), .ptr S' 0]) :: R))) w18 ∧
   (cat bs').length + (4 + t.length) ≤ 744 ∧ bs'.length ≤ 40 ∧ (∃ d2, puts (fnm n') (cat bs' ++ frame t) (nsec (cat bs' ++ frame t) - (cat bs').length / 62) ((cat bs').length / 62) d' = (d2, 0) ∧ DS d2 n' (bs' ++ [t]) O'.length) ∧ Chain 7 (oB O' ++ [(n', bs' ++ [t])]) ∧ O'.length ≤ 40 ∧ 7 + F.length = n' + bs'.length ∧ n' ≤ 60 ∧ flat (oB O' ++ [(n', bs' ++ [t])]) = F ++ [t]) ?_ ?_
  ·rintro l w18 ⟨rfl, O2, n2, S2, bs2, pf2, po2, pv2, ef2, eo2, bv2, ev2, i18, d18, hM, x18, p1, p2, p3, p4, p5, p6, p7, p8⟩
   refine ⟨rfl, fun _ => ?_⟩
   refine g11fin (F := F) hh hM (hd.x x18) htl (by omega) p1 p2 p3 p4 p5 p6 p7 fun i' d' w' ef3 eo3 bv3 ev3 hL hx => ?_
   refine hK O2 n2 S2 (bs2 ++ [t]) pf2 po2 pv2 ef3 eo3 bv3 ev3 i' d' w' ?_ (x18.trans hx) p8
   obtain ⟨⟨a1, a2, a3, a4, a5, a6⟩, a7, a8, a9⟩ := hL
   exact ⟨⟨a1.le (by omega) (by omega), a2, a3, a4, a5, a6⟩, a7, a8, a9⟩
  ·intro J2 hJ2
   refine join_of (fun l w32 => l = [.bool (decide (m ≤ ((cat bs).length : Int)))] ∧ w32 = w15) ?_ fun J3 hJ3 => ifT_f (onM_s (v := .ptr S 0) (h15.ow.ld 6 rfl rfl) ⟨m, h15.ow.ld 10 rfl rfl, size h15 ⟨_, rfl, h15.ow.ld 10 rfl rfl, hJ3 _ _ ⟨rfl, rfl⟩⟩⟩)
   rintro l w32 ⟨rfl, rfl⟩
   refine ⟨_, rfl, fun _ => ?_⟩
   rcases hor with ⟨hlt, rfl⟩ | ⟨hge, hdn⟩
   ·-- there is room in the tail
    refine ifT_d (fun hc => absurd hc hlt) fun _ => hJ2 _ _ ⟨rfl, O, n, S, bs, pf, po, pv, ef, eo, bv, ev, i15, d15, ?_⟩
    have hpm : List.Perm ((b11, .row [.int .i64 (n : Int), .ptr S 0]) :: GL D S ef pf LG n eo po bv ev pv m R) (GL D S ef pf LG n eo po bv ev pv m ((b11, .row [.int .i64 (n : Int), .ptr S 0]) :: R)) :=
     (List.perm_middle (a := (b11, Ob.row [.int .i64 (n : Int), .ptr S 0])) (l₁ := [(S, .row (segC D (fnm n) bv ev false)), (ef, eo), (pf, po), (LG, .row (lgC D m pv))]) (l₂ := R)).symm
    obtain ⟨h16, x16⟩ := h15.permL hpm
    have xx := x15.trans x16
    refine ⟨⟨h16.le (by omega) (by omega), fun o ho => (h.old o ho).x xx, h.pts, h.bvr.x xx, h.evr, h.b64⟩, xx, by omega, by omega, ds_app h.ds (by omega), chain_ext h.ch, by omega, by omega, by omega, ?_⟩
    rw [hF0, flat_app]; simp [flat]
   ·-- a new segment
    refine ifT_d (fun _ => ?_) fun hc => absurd hge hc
    refine g24 hh h15 (a := 4) (b := 3) (c := 1) (n := O.length) rfl rfl h.pts (by simp [hoPl]) (by omega) rfl rfl h.evr hat (by rw [c1]; omega) fun w36 h36 x36 => ⟨_, rfl, ?_⟩
    obtain ⟨h37, x37⟩ := h36.permL (L' := (S, .row (segC D (fnm n) bv ev false)) :: (b11, .row [.int .i64 (n : Int), .ptr S 0]) :: (ef, eo) :: (pf, po) :: (LG, .row (lgC D m pv)) :: R) (List.Perm.swap _ _ _)
    obtain ⟨h38, x38, aS, bS⟩ := h37.drop
    have bS : Box w36 S (segC D (fnm n) bv ev false) := bS
    obtain ⟨h39, x39⟩ := h38.permL (L' := (ef, eo) :: (b11, .row [.int .i64 (n : Int), .ptr S 0]) :: (pf, po) :: (LG, .row (lgC D m pv)) :: R) (List.Perm.swap _ _ _)
    obtain ⟨h40, x40, rev⟩ := dropSv h39 h.evr
    have xx := ((((x15.trans x36).trans x37).trans x38).trans x39).trans x40
    obtain ⟨g1, _, g2⟩ := (x39.trans x40).xw.xa.a S S _ aS aS bS.rdb
    have hsg : rSg D (fz T1 (dkU D i15 ((b11, .row [.int .i64 (n : Int), .ptr S 0]) :: (pf, po) :: (LG, .row (lgC D m pv)) :: R))) w36 S bs := ⟨g1, hbl, fnm n, bv, ev, g2, h.bvr.x xx, rev⟩
    obtain ⟨hr, ho⟩ := dn_open hdn
    have hlast : wi (((n + (ends (cat bs)).length : Nat) : Int) - 1 + 1) = ((n + bs.length : Nat) : Int) := by
     rw [c1, wi_eq (by omega) (by omega)]; omega
    refine g11new (O := O ++ [(n, S, bs)]) (n2 := n + bs.length) (K := K) hh h40 (fun o ho => ?_) (by rw [oP_app]; exact h.pts) hlast (by omega) (by simp; omega) hr ho (by omega) fun S' ef' eo' pf' po' pv' bv' ev' i' w' hM hx => hJ2 _ _ ⟨rfl, O ++ [(n, S, bs)], n + bs.length, S', [], pf', po', pv', ef', eo', bv', ev', i', d15, ?_, xx.trans hx, by simp [cat]; omega, by simp, ?_, ?_, by simp; omega, by simp; omega, by omega, ?_⟩
    ·rcases List.mem_append.1 ho with ho | ho
     ·exact (h.old o ho).x xx
     ·simp at ho; subst ho; exact hsg
    ·obtain ⟨a1, a2, a3, a4, a5, a6⟩ := hM
     exact ⟨a1.le (by omega) (by omega), a2, a3, a4, a5, a6⟩
    ·obtain ⟨d2, q1, q2⟩ := dn_app (x := t) hdn (by omega) (by omega)
     exact ⟨d2, q1, by simpa using q2⟩
    ·rw [oB_app]
     have := chain_new (x := [t]) h.ch (by simp)
     rw [hF, show 7 + F.length = n + bs.length by omega] at this
     exact this
    ·rw [oB_app, flat_app, hF]; simp [flat]
 ·intro J hJ
  refine ifT_t (onM_s (v := .ptr S 0) (h13.ow.ld 6 rfl rfl) ⟨m, h13.ow.ld 10 rfl rfl, size h13 ⟨_, rfl, h13.ow.ld 10 rfl rfl, ifT_d (fun hge => ?_) fun hlt => hJ _ _ ⟨rfl, i, d, h13, x013, .inl ⟨hlt, rfl⟩⟩⟩⟩)
  obtain ⟨d2, hy, hdn⟩ := ds_next h.ds (n' := n + bs.length) (by omega) (by omega)
  obtain ⟨h14, x14⟩ := h13.permL (L' := (S, .row (segC D (fnm n) bv ev false)) :: (b11, .row [.int .i64 (n : Int), .ptr S 0]) :: (ef, eo) :: (pf, po) :: (LG, .row (lgC D m pv)) :: R) (List.Perm.swap _ _ _)
  refine onM_s (v := .ptr S 0) (h13.ow.ld 6 rfl rfl) (g49 hh h14 hy fun i80 w80 h80 x80 => ⟨_, rfl, g48 hh h80 (a := 4) rfl fun w83 h83 x83 => ⟨_, rfl, ifT_f ?_⟩⟩)
  obtain ⟨h84, x84⟩ := h83.permL (L' := (b11, .row [.int .i64 (n : Int), .ptr S 0]) :: GL D S ef pf LG n eo po bv ev pv m R) (List.Perm.swap _ _ _)
  exact hJ _ _ ⟨rfl, i80, d2, h84, (((x013.trans x14).trans x80).trans x83).trans x84, .inr ⟨hge, hdn⟩⟩
end
end Go.Proofs.YthpjoogmmjikmaaGreatDoor
/-
 A log of many segments, over memory: Read, Segments.
 No condition beyond those that each theorem names.
-/
set_option linter.unusedSimpArgs false
open Go.Sx
set_option linter.unusedVariables false
set_option linter.unusedSimpArgs false
namespace Go.Proofs.YthpjoogmmjikmaaGreatDoor
theorem Chk.x2 {α : Type} {r : Rp α} {U U' : List Nat} {w w' : AW} {B : Nat → Prop} {cs : List AV} {l : List α} (h : Chk r (fz B U) w cs l) (e : Xt U w U' w') : Chk r (fz B U') w' cs l := h.xa e.xw.xa
section
variable {hk : Hook} {A B : Nat → Prop} {I : List Nat} {w0 w w' : AW} {D S LG pf : Nat} {po : Ob} {i i' : DI} {d d' : Dsk} {k k' : Nat} {L L' R : Obs} {K : AV → AW → Prop} {nm t : Byts} {bs : List Byts} {bv ev pv : AV} {ef : Nat} {eo : Ob} {m : Int} {Q : List (Nat × Nat)} {n a b c : Nat}
theorem dropR {α : Type} {r : Rp α} {of : Nat} {oo : Ob} {v : AV} {cs : List AV} {l : List α} (hs : 0 < r.sz) (h : Dk T1 I w0 w D i d k ((of, oo) :: L)) (hv : Sv r.sz oo v cs) (hc : Chk r (fz T1 (dkU D i ((of, oo) :: L))) w cs l) : Dk T1 I w0 w D i d k L ∧ Xt (dkU D i ((of, oo) :: L)) w (dkU D i L) w ∧ (rL r).rd (fz T1 (dkU D i L)) w [v] l := by
 have hcl := hc.len
 rcases hv with ⟨rfl, he⟩ | ⟨b, nn, ex, rfl, rfl, h3, h4⟩
 ·obtain ⟨h1, x1⟩ := h.forget
  have : l = [] := by
   rw [he] at hcl
   have h0 : l.length * r.sz = 0 := by rw [← hcl]; rfl
   rcases Nat.mul_eq_zero.1 h0 with h | h
   ·exact List.length_eq_zero_iff.1 h
   ·omega
  subst this
  exact ⟨h1, x1, Rp.rd.nil⟩
 ·have hb0 := (h.ow.box (of, .acc b cs) (nth_mem (i := 6) rfl) rfl).1
  obtain ⟨h1, x1, a1, _⟩ := h.drop
  refine ⟨h1, x1, ?_⟩
  obtain ⟨⟨o, dd, g1⟩, g2⟩ := hb0
  have hbU : b ∉ dkU D i L := fun hm => by
   have hm : b ∈ ids (dkL D i d L) := hm
   obtain ⟨p, p1, p2, p3⟩ := ids_of hm
   have := (h1.ow.box p p1 p2).1.root p2 (by rw [p3]; exact g1)
   rw [p3] at this
   rw [← this] at hm
   exact a1.2 hm
  have hrd : Rdb w b of cs := Rdb.mk g1 g2
  have hnn : nn = l.length := by
   have : nn * r.sz = l.length * r.sz := by omega
   exact Nat.eq_of_mul_eq_mul_right hs this
  subst hnn
  refine ⟨_, rfl, .inr ⟨b, 0, l.length, ex, of, cs, rfl, ⟨Nat.le_refl _, ?_⟩, ⟨trivial, hbU⟩, a1, hrd, by omega, ?_⟩⟩
  ·rcases h4 with rfl | rfl
   ·rfl
   ·simp [okEx]
  ·rw [List.drop_zero, List.take_of_length_le (by omega)]
   exact Chk.x2 hc x1
structure Vw (A : Nat → Prop) (w : AW) (D S : Nat) (x : List Byts) (bv ev : AV) : Prop where
 h0 : ld w S 0 = some (.ptr D 0)
 h2 : ld w S 2 = some bv
 h3 : ld w S 3 = some ev
 h4 : ld w S 4 = some (.bool false)
 b : (rL rU).rd A w [bv] (cat x)
 e : RsI w ev ((ends (cat x)).map fun n : Nat => (n : Int))
theorem rSg.vw {x : List Byts} (h : rSg D A w S x) : ∃ bv ev, Vw A w D S x bv ev := by
 obtain ⟨h1, _, nm, bv, ev, h2, h3, h4⟩ := h
 have e : ∀ o, ld w S o = (segC D nm bv ev false)[o]? := fun o => by simp [ld, h2.2]
 exact ⟨bv, ev, by rw [e]; rfl, by rw [e]; rfl, by rw [e]; rfl, by rw [e]; rfl, h3, h4.rsI⟩
theorem cat_ge : ∀ x : List Byts, x.length ≤ (cat x).length
  | [] => Nat.zero_le _
  | a :: x => by
    have := cat_ge x
    show _ ≤ (frame a ++ cat x).length
    rw [List.length_append, frame_length, List.length_cons]; omega
theorem g53 {x : List Byts} {r : Nat} (hh : HK hk) (hm : Mem w) (hw : 0 < w.size) (h : Vw A w D S x bv ev) (hx : ∀ t ∈ x, t.length ≤ 300) (hl : (cat x).length ≤ 744) (hr : r < x.length) (hK : ∀ c ex w', Fr w.size w w' → w.size ≤ c → Box w' c (cellsOfBytes x[r]) → (ex = none ∨ ex = some 1) → K (.tup [.slice c 0 x[r].length x[r].length ex, .int .i64 0]) w') : Cl Tryz.prog hk 53 [.ptr S 0, .int .i64 (r : Int)] w K := by
 obtain ⟨t1, t2, t3⟩ := cat_told x.length x rfl fun t ht => Nat.le_trans (hx t ht) (by decide)
 have hasc := asc_ends (cat x)
 have he := h.e
 have hxl := cat_ge x
 generalize hE : ends (cat x) = E at t1 t2 t3 hasc he
 have hj : r < E.length := by omega
 obtain ⟨a1, a2⟩ := hasc r hj
 have hne : bv ≠ .nilslice := by
  rintro rfl
  have := h.b.len'
  simp only [lenS, Option.some.injEq, AV.int.injEq, true_and] at this
  omega
 have gD : ∀ q, q < E.length → (E.map fun n : Nat => ((n : Nat) : Int)).getD q 0 = ((E.getD q 0 : Nat) : Int) := fun q hq => by
  rw [List.getD_eq_getElem?_getD, List.getD_eq_getElem?_getD, List.getElem?_map, List.getElem?_eq_getElem hq]; rfl
 have hbd : ((cat x).take (E.getD r 0)).drop (stE E r + 4) = x[r] := by
  have : (toldL (cat x) E)[r]'(by rw [t3]; exact hr) = x[r] := by simp only [t3]
  rw [← this]
  simp [toldL, bd]
 refine s53 (i0 := r) (st := stE E r) (en := E.getD r 0) (D := D) (br := false) (es := E.map fun n : Nat => ((n : Nat) : Int)) hh hm hw h.h0 h.h2 h.h3 h.h4 h.b he hne (by simpa using hj) (by simp; omega) ?_ ?_ a1 a2 (by omega) fun c ex w10 f10 hc1 bx hx => ?_
 ·unfold stE
  split
  ·rfl
  ·exact gD _ (by omega)
 ·have := gD r hj
  rw [List.getD_eq_getElem?_getD, List.getElem?_eq_getElem (by simpa using hj)] at this
  exact this
 ·rw [hbd] at bx ⊢
  exact hK c ex w10 f10 hc1 bx hx
abbrev allB (O : Olds) (n : Nat) (bs : List Byts) : Pts := oB O ++ [(n, bs)]
theorem oPB {O : Olds} {n S : Nat} {bs : List Byts} {j : Nat} (hj : j < (oP O ++ [(n, S)]).length) : ((oP O ++ [(n, S)])[j]).1 = ((allB O n bs)[j]'(by simpa [oP, oB] using hj)).1 := by
 by_cases hjo : j < O.length
 ·rw [List.getElem_append_left (by simpa [oP] using hjo), List.getElem_append_left (by simpa [oB] using hjo)]
  simp [oP, oB]
 ·have hje : j = O.length := by simp [oP] at hj; omega
  subst hje
  rw [List.getElem_append_right (by simp [oP]), List.getElem_append_right (by simp [oB])]
  simp [oP, oB]
theorem chain_end : ∀ {Q : Pts} {s j k : Nat} (hk : k < Q.length) (hjk : j < k), Chain s Q → (Q[j]'(by omega)).1 + (Q[j]'(by omega)).2.length ≤ Q[k].1
  | z :: r, s, 0, k + 1, hk, _, ⟨e1, e2, e3⟩ => by
    have hk' : k < r.length := by simpa using hk
    have := (chain_ge hk' e3).1
    simp only [List.getElem_cons_zero, List.getElem_cons_succ]
    omega
  | z :: r, s, j + 1, k + 1, hk, hjk, ⟨e1, e2, e3⟩ => by
    have hk' : k < r.length := by simpa using hk
    simp only [List.getElem_cons_succ]
    exact chain_end hk' (by omega) e3
set_option maxRecDepth 20000 in
theorem g12 {O : Olds} {F : List Byts} {y1 y2 : Nat} (hh : HK hk) (h : Lg w0 w D i d k LG m O n S bs pf po pv ef eo bv ev R) (hb300 : ∀ o ∈ O, ∀ t ∈ o.2.2, t.length ≤ 300) (hF : flat (allB O n bs) = F) (hFl : F.length ≤ 40) (hy1 : y1 ≤ F.length) (hy2 : y2 < 50)
  (hK : ∀ v w', Dk T1 [] w0 w' D i d k (GL D S ef pf LG n eo po bv ev pv m R) → Xt (dkU D i (GL D S ef pf LG n eo po bv ev pv m R)) w (dkU D i (GL D S ef pf LG n eo po bv ev pv m R)) w' → (rL (rL rU)).rd (fz T1 (dkU D i (GL D S ef pf LG n eo po bv ev pv m R))) w' [v] ((F.drop y1).take y2) → K (.tup [v, .int .i64 0]) w') : Cl Tryz.prog hk 12 [.ptr LG 0, .int .i64 ((7 + y1 : Nat) : Int), .int .i64 (y2 : Int)] w K := by
 apply in12 (hh.no _ _ _ (by decide) (by decide))
 unfold F12
 have hnl := chain_last h.ch
 obtain ⟨hbne, hchO⟩ := chain_bs h.ch
 have hOc := chain_count hchO
 have hoBl : (oB O).length = O.length := List.length_map _
 have hoPl : (oP O).length = O.length := List.length_map _
 have hF0 : F = flat (oB O) ++ bs := by rw [← hF, flat_app]; simp [flat]
 have hFlen : F.length = (flat (oB O)).length + bs.length := by rw [hF0, List.length_append]
 obtain ⟨c1, c2⟩ := cat_cnt h.b64
 have hQl : (oP O ++ [(n, S)]).length = O.length + 1 := by simp [hoPl]
 have hBl : (allB O n bs).length = O.length + 1 := by simp [hoBl]
 have hat : (oP O ++ [(n, S)])[O.length]'(by omega) = (n, S) := by
  rw [List.getElem_append_right (by omega)]; simp [hoPl]
 have hat0 : ((oP O ++ [(n, S)])[0]'(by omega)).1 = 7 := by
  rw [oPB (bs := bs)]
  have hc0 : ∀ {Q : Pts} (h0 : 0 < Q.length), Chain 7 Q → (Q[0]'h0).1 = 7 := fun {Q} h0 hc => by
   cases Q with
   | nil => simp at h0
   | cons o Q => exact hc.1
  exact hc0 _ h.ch
 have last : ∀ {w' : AW} {M : Obs} {K : AV → AW → Prop} (z : Nat), Dk T1 [] w0 w' D i d k M → nth M (z + 3) = some (LG, .row (lgC D m pv)) → nth M (z + 2) = some (pf, po) → nth M z = some (S, .row (segC D (fnm n) bv ev false)) → nth M (z + 1) = some (ef, eo) →
   (∀ w2, Dk T1 [] w0 w2 D i d k M → Xt (dkU D i M) w' (dkU D i M) w2 → K (.int .i64 ((6 + F.length : Nat) : Int)) w2) → Cl Tryz.prog hk 24 [.ptr LG 0] w' K := by
  intro w' M K z hdk e1 e2 e3 e4 hK'
  refine g24 hh hdk (a := z + 3) (b := z + 2) (c := z) (n := O.length) e1 e2 h.pts (by omega) (by omega) e3 e4 h.evr hat (by rw [c1]; omega) fun w2 h2 x2 => ?_
  rw [show ((n + (ends (cat bs)).length : Nat) : Int) - 1 = ((6 + F.length : Nat) : Int) by rw [c1]; omega]
  exact hK' w2 h2 x2
 refine s51 hh (h.dk.ow.ld 9 rfl rfl) ⟨_, rfl, ifT_f (ifT_d (fun hc => by omega) fun _ => g23 hh h.dk (a := 3) (b := 2) rfl rfl h.pts (by omega) ⟨_, rfl, ?_⟩)⟩
 rw [hat0]
 refine ifT_d (fun hc => by omega) fun _ => last 0 h.dk rfl rfl rfl rfl fun w10 h10 x10 => ⟨_, rfl, ?_⟩
 rw [wi_eq (x := ((6 + F.length : Nat) : Int) + 1) (by omega) (by omega)]
 refine ifT_d (fun hc => by omega) fun _ => ?_
 obtain ⟨hr0, xr0⟩ := h10.room
 refine loopP_ind (fun mm l w14 => ∃ (j : Nat) (ov : AV) (of : Nat) (oo : Ob) (cs : List AV), mm = F.length + 1 - (y1 + j) ∧ y1 + j ≤ F.length ∧ j ≤ y2 ∧ l = [ov, .int .i64 ((7 + y1 + j : Nat) : Int)] ∧ Dk T1 [] w0 w14 D i d k ((of, oo) :: GL D S ef pf LG n eo po bv ev pv m R) ∧ Xt (dkU D i (GL D S ef pf LG n eo po bv ev pv m R)) w (dkU D i ((of, oo) :: GL D S ef pf LG n eo po bv ev pv m R)) w14 ∧ Sv 1 oo ov cs ∧ Chk (rL rU) (fz T1 (dkU D i ((of, oo) :: GL D S ef pf LG n eo po bv ev pv m R))) w14 cs ((F.drop y1).take j)) ?_
  ⟨0, .nilslice, 0, .none, [], rfl, hy1, Nat.zero_le _, rfl, hr0, x10.trans xr0, Sv.nil, by simp; rfl⟩
 rintro mm l w14 ⟨j, ov, of, oo, cs, rfl, hj1, hj2, rfl, h14, x14, hsv, hch⟩ R1 ih
 have fin : ∀ (w2 : AW), Dk T1 [] w0 w2 D i d k ((of, oo) :: GL D S ef pf LG n eo po bv ev pv m R) → Xt (dkU D i ((of, oo) :: GL D S ef pf LG n eo po bv ev pv m R)) w14 (dkU D i ((of, oo) :: GL D S ef pf LG n eo po bv ev pv m R)) w2 → (j = y2 ∨ F.length ≤ y1 + j) → K (.tup [ov, .int .i64 0]) w2 := by
  intro w2 h2 x2 hor
  obtain ⟨h3, x3, hr⟩ := dropR (r := rL rU) (by decide) h2 hsv (Chk.x2 hch x2)
  refine hK ov w2 h3 ((x14.trans x2).trans x3) ?_
  rcases hor with rfl | hle
  ·exact hr
  ·have e1 : (F.drop y1).take j = (F.drop y1).take y2 := by
    rw [List.take_of_length_le (by simp; omega), List.take_of_length_le (by simp; omega)]
   rw [← e1]; exact hr
 refine ⟨_, _, rfl, fun _ => last 1 h14 rfl rfl rfl rfl fun w18 h18 x18 => ⟨_, rfl, ifT_d (fun hc => ?_) fun hc => fin w18 h18 x18 (.inr (by omega))⟩⟩
 have hlt : y1 + j < F.length := by omega
 have hjl : ((F.drop y1).take j).length = j := by simp; omega
 have hcl : cs.length = j := by rw [hch.len, hjl]; show j * 1 = j; omega
 have hrs := h18.ow.sv (i := 6) (f := of) (o := oo) rfl hsv (by decide) (k := j) (by omega)
 refine ⟨_, hrs.len, ifT_d (fun hc2 => ?_) fun hc2 => fin w18 h18 x18 (.inl (by omega))⟩
 simp only [onP]
 refine onM_s (v := pv) (h18.ow.ld 10 rfl rfl) (h18.new' fun b24 w25 h25 x25 => ⟨h25.ow.ld 11 rfl rfl, ?_⟩)
 -- which part it is
 obtain ⟨Qx, hQx⟩ : ∃ Qx, Qx = allB O n bs := ⟨_, rfl⟩
 have hcQ : Chain 7 Qx := by rw [hQx]; exact h.ch
 have hFQ : flat Qx = F := by rw [hQx]; exact hF
 have hQxl : Qx.length = O.length + 1 := by rw [hQx]; exact hBl
 obtain ⟨q, hqB, q1, q2, q3⟩ := chain_get (n := 7 + y1 + j) hcQ (by omega) (by rw [hFQ]; omega)
 rw [hFQ] at q3
 have hqO : q < O.length + 1 := by omega
 have hfst : ∀ p (hp : p < (oP O ++ [(n, S)]).length), ((oP O ++ [(n, S)])[p]).1 = (Qx[p]'(by omega)).1 := fun p hp => by
  have := oPB (bs := bs) hp
  simp only [hQx]; exact this
 refine g52 (x := 7 + y1 + j) (q := q) hh h25 (a := 5) (b := 4) rfl rfl h.pts (by omega) (by omega) (fun p hp => ?_) (fun p hp => ?_) (by rw [hat0]; omega) (by omega) (by omega) (fun p hp hpq => ?_) (fun p hp hpq => ?_) fun w27 h27 x27 => ⟨_, rfl, h27.ow.ld 11 rfl rfl, ?_⟩
 ·rw [hfst p hp]
  have := (chain_ge (Q := Qx) (j := p) (by omega) hcQ).2.1
  rw [hFQ] at this
  omega
 ·rw [hfst p (by omega), hfst (p + 1) hp]
  exact chain_lt (Q := Qx) (by omega) (by omega) hcQ
 ·rw [hfst p hp]
  rcases Nat.lt_or_ge p q with hlt2 | hge2
  ·have := chain_lt (Q := Qx) (j := p) (k := q) (by omega) hlt2 hcQ
   omega
  ·obtain rfl : p = q := by omega
   exact q1
 ·rw [hfst p hp]
  have := chain_end (Q := Qx) (j := q) (k := p) (by omega) hpq hcQ
  omega
 ·have hqP : q < (oP O ++ [(n, S)]).length := by omega
  refine pts_at (A := T1) (I := []) (w0 := w0) (D := D) (pf := pf) h.pts (j := q) hqP fun x1 y1' hxy => ?_
  obtain ⟨_, l2⟩ := hxy 4 h27 rfl
  refine ⟨_, _, l2, gd_t rfl (h27.wr 0 rfl (by simp) fun w33 h33 x33 => ?_)⟩
  have h33 : Dk T1 [] w0 w33 D i d k ((b24, .row (ptC (oP O ++ [(n, S)])[q])) :: (of, oo) :: GL D S ef pf LG n eo po bv ev pv m R) := h33
  have x33 : Xt (dkU D i ((b24, .row [.int .i64 0, .nilptr]) :: (of, oo) :: GL D S ef pf LG n eo po bv ev pv m R)) w27 (dkU D i ((b24, .row (ptC (oP O ++ [(n, S)])[q])) :: (of, oo) :: GL D S ef pf LG n eo po bv ev pv m R)) w33 := x33
  have xx := (((x14.trans x18).trans x25).trans x27).trans x33
  have hV : ∃ bv2 ev2, Vw (fz T1 (dkU D i ((b24, .row (ptC (oP O ++ [(n, S)])[q])) :: (of, oo) :: GL D S ef pf LG n eo po bv ev pv m R))) w33 D ((oP O ++ [(n, S)])[q]).2 (Qx[q]).2 bv2 ev2 ∧ (cat (Qx[q]).2).length ≤ 744 ∧ ∀ t ∈ (Qx[q]).2, t.length ≤ 300 := by
   by_cases hqo : q < O.length
   ·have e1 : (oP O ++ [(n, S)])[q] = ((O[q]).1, (O[q]).2.1) := by rw [List.getElem_append_left (by omega)]; simp [oP]
    have e2 : Qx[q] = ((O[q]).1, (O[q]).2.2) := by simp only [hQx]; rw [List.getElem_append_left (by omega)]; simp [oB]
    have hm := List.getElem_mem hqo
    have hs := (h.old _ hm).x xx
    have hl := hs.2.1
    obtain ⟨bv2, ev2, hv⟩ := hs.vw
    refine ⟨bv2, ev2, ?_⟩
    rw [e2]
    refine ⟨?_, hl, hb300 _ hm⟩
    have e3 : ((oP O ++ [(n, S)])[q]).2 = (O[q]).2.1 := by rw [e1]
    rw [e3]; exact hv
   ·obtain rfl : q = O.length := by omega
    have e2 : Qx[O.length] = (n, bs) := by simp only [hQx]; rw [List.getElem_append_right (by omega)]; simp [oB]
    have e3 : ((oP O ++ [(n, S)])[O.length]).2 = S := by rw [hat]
    refine ⟨bv, ev, ?_⟩
    rw [e2, e3]
    have hrs2 := h33.ow.sv (i := 9) (f := ef) (o := eo) rfl h.evr (by decide) (k := (ends (cat bs)).length) (by rw [cst_length]; omega)
    refine ⟨⟨h33.ow.ld 8 rfl rfl, h33.ow.ld 8 rfl rfl, h33.ow.ld 8 rfl rfl, h33.ow.ld 8 rfl rfl, h.bvr.x xx, ?_⟩, h.bl, h.b64⟩
    unfold RsI
    have : ((ends (cat bs)).map fun n : Nat => ((n : Nat) : Int)).map (AV.int .i64) = cst (ends (cat bs)) := by unfold cst; rw [List.map_map]; rfl
    rw [this, List.length_map]; exact hrs2
  obtain ⟨bv2, ev2, hv, hvl, hv3⟩ := hV
  refine onM_s (v := .ptr ((oP O ++ [(n, S)])[q]).2 0) (h33.ow.ld 6 rfl rfl) ⟨(((oP O ++ [(n, S)])[q]).1 : Int), h33.ow.ld 6 rfl rfl, ?_⟩
  have hsub : wi (((7 + y1 + j : Nat) : Int) - (((oP O ++ [(n, S)])[q]).1 : Int)) = ((7 + y1 + j - (Qx[q]).1 : Nat) : Int) := by
   rw [hfst q hqP, wi_eq (by omega) (by omega)]; omega
  rw [hsub]
  have hrl : 7 + y1 + j - (Qx[q]).1 < (Qx[q]).2.length := by omega
  have hbody : (Qx[q]).2[7 + y1 + j - (Qx[q]).1] = F[y1 + j] := by
   rw [List.getElem?_eq_getElem hrl] at q3
   rw [show 7 + y1 + j - 7 = y1 + j by omega, List.getElem?_eq_getElem hlt] at q3
   exact (Option.some.inj q3).symm
  refine g53 hh h33.ow.mem (by have := h33.ow.P0.pos; exact this) hv hv3 hvl hrl fun c ex w37 f37 hc1 bx hx => ⟨_, _, rfl, gd_t rfl ?_⟩
  rw [hbody] at bx ⊢
  obtain ⟨h37, x37⟩ := h33.fr f37
  have hcA : fz T1 (dkU D i ((b24, .row (ptC (oP O ++ [(n, S)])[q])) :: (of, oo) :: GL D S ef pf LG n eo po bv ev pv m R)) c := ⟨trivial, fun hm => absurd (h33.ow.ids_lt hm) (by omega)⟩
  have hrb : (rL rU).rd (fz T1 (dkU D i ((b24, .row (ptC (oP O ++ [(n, S)])[q])) :: (of, oo) :: GL D S ef pf LG n eo po bv ev pv m R))) w37 [.slice c 0 F[y1 + j].length F[y1 + j].length ex] F[y1 + j] := Box.sl bx hcA rfl (Chk.bytes.2 rfl) (Nat.le_refl _) (by rcases hx with rfl | rfl <;> rfl)
  refine h37.new' fun b40 w41 h41 x41 => ?_
  have hb40 : Box w41 b40 [.slice c 0 F[y1 + j].length F[y1 + j].length ex] := (h41.ow.box (b40, _) (nth_mem (i := 6) rfl) rfl).1
  refine h41.accL 2 rfl hsv (by decide) (hb40.rs rfl) (by rw [hcl]; omega) (by rw [hcl]; omega) fun ov2 of2 oo2 w43 h43 x43 hsv2 => ?_
  have h43 : Dk T1 [] w0 w43 D i d k ((b40, .row [.slice c 0 F[y1 + j].length F[y1 + j].length ex]) :: (b24, .row (ptC (oP O ++ [(n, S)])[q])) :: (of2, oo2) :: GL D S ef pf LG n eo po bv ev pv m R) := h43
  obtain ⟨h44, x44, _⟩ := h43.drop
  obtain ⟨h45, x45, _⟩ := h44.drop
  have x3745 := (((x41.trans x43).trans x44).trans x45)
  refine ih (F.length + 1 - (y1 + (j + 1))) (by omega) _ _ ⟨j + 1, ov2, of2, oo2, cs ++ [.slice c 0 F[y1 + j].length F[y1 + j].length ex], rfl, by omega, by omega, ?_, h45, (xx.trans x37).trans x3745, hsv2, ?_⟩
  ·rw [wi_eq (by omega) (by omega)]
   congr 2
  ·have e9 : (F.drop y1).take (j + 1) = (F.drop y1).take j ++ [F[y1 + j]] := by
    rw [List.take_succ_eq_append_getElem (by simp; omega)]
    simp
   rw [e9]
   exact Chk.x2 ((Chk.x2 hch ((((x18.trans x25).trans x27).trans x33).trans x37)).app (Chk.one hrb)) x3745
end
end Go.Proofs.YthpjoogmmjikmaaGreatDoor
/-
 A log of many segments, over memory: Segments, SameLists, Pick, the law of reads.
 No condition beyond those that each theorem names.
-/
set_option linter.unusedSimpArgs false
open Go.Sx
set_option linter.unusedVariables false
set_option linter.unusedSimpArgs false
namespace Go.Proofs.YthpjoogmmjikmaaGreatDoor
section
variable {hk : Hook} {A B : Nat → Prop} {I : List Nat} {w0 w w' : AW} {D S LG pf : Nat} {po : Ob} {i i' : DI} {d d' : Dsk} {k k' : Nat} {L L' R : Obs} {K : AV → AW → Prop} {nm t : Byts} {bs : List Byts} {bv ev pv : AV} {ef : Nat} {eo : Ob} {m : Int} {Q : List (Nat × Nat)} {n a b c : Nat}
theorem s14 {v1 v2 : AV} {a b : List Byts} (hh : HK hk) (h1 : (rL (rL rU)).rd A w [v1] a) (h2 : (rL (rL rU)).rd B w [v2] b) (hl : a.length < 2 ^ 60) (hl2 : b.length < 2 ^ 60) (hK : K (.bool (a == b)) w) : Cl Tryz.prog hk 14 [v1, v2] w K := by
  apply in14 (hh.no _ _ _ (by decide) (by decide))
  unfold F14
  refine ⟨_, h1.len', _, h2.len', ifT_nd (fun hne => ?_) fun he => ?_⟩
  · have : (a == b) = false := by
      rw [beq_eq_false_iff_ne]; rintro rfl; exact hne rfl
    rw [this] at hK; exact hK
  · have he : a.length = b.length := by omega
    refine loopP_ind (fun m l w7 => ∃ j : Nat, j ≤ a.length ∧ m = a.length - j ∧ l = [.int .i64 j] ∧ w7 = w ∧ a.take j = b.take j) ?_ ⟨0, Nat.zero_le _, rfl, rfl, rfl, rfl⟩
    rintro m l w7 ⟨j, hj, rfl, rfl, rfl, heq⟩ R ih
    refine ⟨_, rfl, fun _ => ⟨_, h1.len', ifT_d (fun hc => ?_) fun hc => ?_⟩⟩
    · have hja : j < a.length := by omega
      have hjb : j < b.length := by omega
      refine h1.at1 rfl hja fun b1 o1 x1 r1 g1 => onM_s g1 (h2.at1 rfl hjb fun b2 o2 x2 r2 g2 => onM_s g2 (s17 hh r1.rsB r2.rsB ⟨_, rfl, ?_⟩))
      cases hq : (a[j] == b[j]) with
      | false =>
        have : (a == b) = false := by
          rw [beq_eq_false_iff_ne]; rintro rfl; simp at hq
        rw [this] at hK
        exact ifT_t hK
      | true =>
        have e : a[j] = b[j] := by simpa using hq
        refine ifT_f (ih (a.length - (j + 1)) (by omega) _ _ ⟨j + 1, by omega, rfl, by rw [wi_eq (by omega) (by omega)]; rfl, rfl, ?_⟩)
        rw [← List.take_append_getElem hja, ← List.take_append_getElem hjb, heq, e]
    · have e : a = b := by
        have h1 : a.take j = a := List.take_of_length_le (by omega)
        have h2 : b.take j = b := List.take_of_length_le (by omega)
        rw [← h1, ← h2]; exact heq
      have : (a == b) = true := by rw [e]; simp
      rw [this] at hK; exact hK
theorem s8 {x n : Int} (hh : HK hk) (h0 : 0 < n) (h1 : n < 2 ^ 40) (hK : ∀ r : Nat, (r : Int) < n → K (.int .i64 (r : Int)) w) : Cl Tryz.prog hk 8 [.int .i64 x, .int .i64 n] w K := by
 apply in8 (hh.no _ _ _ (by decide) (by decide))
 unfold F8
 have e1 : arith .rem .i64 x n = some (.int .i64 (Int.tmod x n)) := by
  simp only [arith]; rw [if_neg (by omega)]
 have b1 := Int.lt_tmod_of_pos x h0
 have b2 := Int.tmod_lt_of_pos x h0
 refine ifT_d (fun hc => by omega) fun _ => ⟨_, e1, ifT_d (fun hc => ?_) fun hc => ?_⟩
 ·rw [wi_eq (by omega) (by omega)]
  have := hK (Int.tmod x n + n).toNat (by omega)
  rwa [Int.toNat_of_nonneg (by omega)] at this
 ·have := hK (Int.tmod x n).toNat (by omega)
  rwa [Int.toNat_of_nonneg (by omega)] at this
set_option maxRecDepth 20000 in
theorem g12n {y2 : Nat} (hh : HK hk) (h : Dk A I w0 w D i d k L) (ha : nth L a = some (LG, .row (lgC D m .nilslice))) (hK : ∀ w', Dk A I w0 w' D i d k L → Xt (dkU D i L) w (dkU D i L) w' → K (.tup [.nilslice, .int .i64 0]) w') : Cl Tryz.prog hk 12 [.ptr LG 0, .int .i64 7, .int .i64 (y2 : Int)] w K := by
 apply in12 (hh.no _ _ _ (by decide) (by decide))
 unfold F12
 have ha0 : nth (dkL D i d L) (a + 6) = some (LG, .row (lgC D m .nilslice)) := ha
 refine s51 hh (h.ow.ld _ ha0 rfl) ⟨_, rfl, ifT_f (ifT_d (fun hc => by omega) fun _ => g23n hh h ha ⟨_, rfl, ?_⟩)⟩
 refine ifT_f (g24n hh h ha fun w10 h10 x10 => ⟨_, rfl, ifT_f ?_⟩)
 intro R1 hR1
 refine hR1 _ _ ⟨_, _, rfl, fun _ => g24n hh h10 ha fun w18 h18 x18 => ⟨_, rfl, ifT_f ?_⟩⟩
 exact hK w18 h18 (x10.trans x18)
set_option maxRecDepth 20000 in
theorem g13 (hh : HK hk) (h : Dk T1 I w0 w D i d k L) (ha : nth L a = some (LG, .row (lgC D m pv))) (hb : nth L b = some (pf, po)) (hsv : Sv 2 po pv (ptsC Q)) (hl : Q.length ≤ 100) (hK : ∀ v w', Dk T1 I w0 w' D i d k L → Xt (dkU D i L) w (dkU D i L) w' → (rL rI).rd (fz T1 (dkU D i L)) w' [v] (Q.map fun q => (q.1 : Int)) → K v w') : Cl Tryz.prog hk 13 [.ptr LG 0] w K := by
 apply in13 (hh.no _ _ _ (by decide) (by decide))
 unfold F13
 have ha0 : nth (dkL D i d L) (a + 6) = some (LG, .row (lgC D m pv)) := ha
 refine s51 hh (h.ow.ld _ ha0 rfl) ⟨_, rfl, ifT_f ?_⟩
 simp only [onP]
 refine onM_s (v := pv) (h.ow.ld _ ha0 rfl) ⟨_, pts_len h hb hsv, ?_⟩
 obtain ⟨hr0, xr0⟩ := h.room
 refine loopP_ind (fun mm l w10 => ∃ (j : Nat) (av : AV) (af : Nat) (ao : Ob) (cs : List AV), mm = Q.length - j ∧ j ≤ Q.length ∧ l = [av, .int .i64 j] ∧ Dk T1 I w0 w10 D i d k ((af, ao) :: L) ∧ Xt (dkU D i L) w (dkU D i ((af, ao) :: L)) w10 ∧ Sv 1 ao av cs ∧ Chk rI (fz T1 (dkU D i ((af, ao) :: L))) w10 cs ((Q.map fun q => (q.1 : Int)).take j)) ?_
  ⟨0, .nilslice, 0, .none, [], rfl, Nat.zero_le _, rfl, hr0, xr0, Sv.nil, rfl⟩
 rintro mm l w10 ⟨j, av, af, ao, cs, rfl, hj, rfl, h10, x10, hv10, hc10⟩ R1 ih
 have hjl : ((Q.map fun q => (q.1 : Int)).take j).length = j := by simp; omega
 have hcl : cs.length = j := by rw [hc10.len, hjl]; show j * 1 = j; omega
 refine ⟨_, _, rfl, fun _ => ifT_d (fun hc => ?_) fun hc => ?_⟩
 ·have hjq : j < Q.length := by omega
  refine pts_at (A := T1) (I := I) (w0 := w0) (D := D) (pf := pf) hsv (j := j) hjq fun x1 y1 hxy => ⟨_, _, (hxy (b + 1) h10 hb).2, h10.new' fun b17 w18 h18 x18 => gd_t rfl (h18.wr 0 rfl (by simp) fun w19 h19 x19 => ?_)⟩
  have h19 : Dk T1 I w0 w19 D i d k ((b17, .row (ptC Q[j])) :: (af, ao) :: L) := h19
  have x19 : Xt (dkU D i ((b17, .row [.int .i64 0, .nilptr]) :: (af, ao) :: L)) w18 (dkU D i ((b17, .row (ptC Q[j])) :: (af, ao) :: L)) w19 := x19
  refine ⟨(Q[j].1 : Int), h19.ow.ld 6 rfl rfl, h19.new' fun b21 w22 h22 x22 => ?_⟩
  have hb21 : Box w22 b21 [.int .i64 (Q[j].1 : Int)] := (h22.ow.box (b21, _) (nth_mem (i := 6) rfl) rfl).1
  refine h22.accL 2 rfl hv10 (by decide) (hb21.rs rfl) (by rw [hcl]; omega) (by rw [hcl]; omega) fun av2 af2 ao2 w24 h24 x24 hv24 => ?_
  have h24 : Dk T1 I w0 w24 D i d k ((b21, .row [.int .i64 (Q[j].1 : Int)]) :: (b17, .row (ptC Q[j])) :: (af2, ao2) :: L) := h24
  obtain ⟨h25, x25, _⟩ := h24.drop
  obtain ⟨h26, x26, _⟩ := h25.drop
  have xx := (((((x18.trans x19).trans x22).trans x24).trans x25).trans x26)
  refine ih (Q.length - (j + 1)) (by omega) _ _ ⟨j + 1, av2, af2, ao2, cs ++ [.int .i64 (Q[j].1 : Int)], rfl, hjq, by rw [wi_eq (by omega) (by omega)]; rfl, h26, x10.trans xx, hv24, ?_⟩
  rw [List.take_succ_eq_append_getElem (by simpa using hjq)]
  have e2 : (Q.map fun q => (q.1 : Int))[j]'(by simpa using hjq) = (Q[j].1 : Int) := by simp
  rw [e2]
  exact (Chk.x2 hc10 xx).app (Chk.ints.2 rfl)
 ·obtain rfl : j = Q.length := by omega
  obtain ⟨h11, x11, hr⟩ := dropR (r := rI) (by decide) h10 hv10 hc10
  rw [List.take_of_length_le (by simp)] at hr
  exact hK av w10 h11 (x10.trans x11) hr
theorem g13n (hh : HK hk) (h : Dk A I w0 w D i d k L) (ha : nth L a = some (LG, .row (lgC D m .nilslice))) (hK : K .nilslice w) : Cl Tryz.prog hk 13 [.ptr LG 0] w K := by
 apply in13 (hh.no _ _ _ (by decide) (by decide))
 unfold F13
 have ha0 : nth (dkL D i d L) (a + 6) = some (LG, .row (lgC D m .nilslice)) := ha
 refine s51 hh (h.ow.ld _ ha0 rfl) ⟨_, rfl, ifT_f ?_⟩
 simp only [onP]
 refine onM_s (v := .nilslice) (h.ow.ld _ ha0 rfl) ⟨0, rfl, ?_⟩
 intro R1 hR1
 exact hR1 _ _ ⟨_, _, rfl, fun _ => ifT_f hK⟩
end
end Go.Proofs.YthpjoogmmjikmaaGreatDoor
/-
 A log of many segments: the law of reads.
 No condition beyond those that each theorem names.
-/
set_option linter.unusedSimpArgs false
open Go.Sx
set_option linter.unusedVariables false
set_option linter.unusedSimpArgs false
namespace Go.Proofs.YthpjoogmmjikmaaGreatDoor
theorem lg_re {w0 w w' : AW} {D S LG pf : Nat} {po : Ob} {i : DI} {d : Dsk} {k k' : Nat} {R R' : Obs} {bs : List Byts} {bv ev pv : AV} {ef : Nat} {eo : Ob} {m : Int} {n : Nat} {O : Olds} (h : Lg w0 w D i d k LG m O n S bs pf po pv ef eo bv ev R) (h' : Dk T1 [] w0 w' D i d k' (GL D S ef pf LG n eo po bv ev pv m R')) (x : Xt (dkU D i (GL D S ef pf LG n eo po bv ev pv m R)) w (dkU D i (GL D S ef pf LG n eo po bv ev pv m R')) w') : Lg w0 w' D i d k' LG m O n S bs pf po pv ef eo bv ev R' :=
 ⟨⟨h', fun o ho => (h.old o ho).x x, h.pts, h.bvr.x x, h.evr, h.b64⟩, h.ds, h.ch, h.bl⟩
def At (w0 w : AW) (D LG : Nat) (m : Int) (F : List Byts) (j : Nat) (R : Obs) (C : (Nat → Prop) → Prop) : Prop :=
 (j = 0 ∧ ∃ i, Dk T1 [] w0 w D i Dsk.none 0 ((LG, .row (lgC D m .nilslice)) :: R) ∧ C (fz T1 (dkU D i ((LG, .row (lgC D m .nilslice)) :: R)))) ∨
 (0 < j ∧ ∃ i d O n S bs pf po pv ef eo bv ev, Lg w0 w D i d (j * 40000) LG m O n S bs pf po pv ef eo bv ev R ∧ flat (oB O ++ [(n, bs)]) = F.take j ∧ C (fz T1 (dkU D i (GL D S ef pf LG n eo po bv ev pv m R))))
section
variable {hk : Hook} {w : AW} {K : AV → AW → Prop}
set_option maxRecDepth 20000 in
theorem s3 {most from' n : Int} {v : AV} {bodies : List Byts} (hh : HK hk) (pv : Pv T1 w) (h : (rL (rL rU)).rd T1 w [v] bodies) (hlen : bodies.length < 2 ^ 60) : Cl Tryz.prog hk 3 [.int .i64 most, v, .int .i64 from', .int .i64 n] w fun r _ => r = .bool true := by
 apply in3 (hh.no _ _ _ (by decide) (by decide))
 unfold F3
 obtain ⟨F, hF⟩ : ∃ F, F = bodies.map fun s => s.take 300 := ⟨_, rfl⟩
 have hFl : F.length = bodies.length := by rw [hF, List.length_map]
 have hF300 : ∀ t ∈ F, t.length ≤ 300 := fun t ht => by
  rw [hF] at ht
  obtain ⟨s, _, rfl⟩ := List.mem_map.1 ht
  rw [List.length_take]; omega
 have hFat : ∀ j (hj : j < bodies.length), F[j]'(by omega) = (bodies[j]).take 300 := fun j hj => by simp [hF]
 have awake : ∀ {w : AW}, Cl Tryz.prog hk 15 [] w fun r w => ∃ x : Bool, r = .bool x ∧ (AV.bool x) = .bool true := fun {w} => Cl_hook (hh.awake _) ⟨_, rfl, rfl⟩
 refine s8 hh (by decide) (by decide) fun mo hmo => ⟨_, rfl, s9 hh pv.st fun D i0 w8 h8 x8 => ?_⟩
 rw [show wi (1 + (mo : Int)) = 1 + (mo : Int) by rw [wi_eq (by omega) (by omega)]]
 generalize hm : 1 + (mo : Int) = m
 refine g10 hh h8 (by omega) (by omega) fun LG i10 w10 h10 x10 => ⟨_, _, rfl, ifT_f ?_⟩
 refine join_of (fun l w14 => ∃ (j : Nat) (all : AV), l = [all] ∧ j ≤ 40 ∧ j ≤ F.length ∧ At w w14 D LG m F j [] fun A => (rL (rL rU)).rd A w14 [all] (F.take j)) ?_ ?_
 ·rintro l w14 ⟨j, all, rfl, hj, hjF, hat⟩
  have hjl : (F.take j).length = j := by rw [List.length_take]; omega
  rcases hat with ⟨rfl, i14, h14, hr14⟩ | ⟨hj0, i14, d14, O, n', S, bs, pf, po, pv', ef, eo, bv, ev, h14, hfl, hr14⟩
  ·-- nothing was put
   have hln := hr14.len'
   rw [hjl] at hln
   refine ⟨_, rfl, fun _ => ⟨_, hln, s8 hh (by decide) (by decide) fun y1 hy1 => ?_⟩⟩
   obtain rfl : y1 = 0 := by
    have : wi (((0 : Nat) : Int) + 1) = 1 := by decide
    omega
   refine ⟨_, rfl, s8 hh (by decide) (by decide) fun y2 hy2 => ⟨_, rfl, ?_⟩⟩
   rw [show wi (7 + ((0 : Nat) : Int)) = 7 from by decide]
   refine g12n hh h14 (a := 0) rfl fun w25 h25 x25 => ⟨_, _, rfl, _, hln, ?_⟩
   obtain ⟨v29, hsl, hr29⟩ := hr14.cut (i := 0) (j := 0) (Nat.le_refl _) (Nat.zero_le _) (lo := some (.int .i64 ((0 : Nat) : Int))) (hi := some (.int .i64 ((0 : Nat) : Int))) (.inl rfl) (.inl rfl)
   have e1 : imin ((0 : Nat) : Int) (wi (((0 : Nat) : Int) + (y2 : Int))) = ((0 : Nat) : Int) := by
    rw [wi_eq (by omega) (by omega)]; unfold imin; split <;> omega
   rw [e1]
   refine onM_s hsl (g13n hh h25 (a := 0) rfl ?_)
   intro R1 hR1
   refine hR1 _ _ ⟨_, rfl, fun _ => ⟨0, rfl, ifT_f (ifT_t (s14 (B := fz T1 (dkU D i14 [(LG, .row (lgC D m .nilslice))])) hh (A := T1) (a := []) (b := []) Rp.rd.nil ?_ (by decide) (by decide) ⟨_, rfl, ?_⟩))⟩⟩
   ·have := hr29.x x25
    simpa using this
   ·refine ifT_t ⟨0, rfl, _, hln, ?_⟩
    exact ifT_t awake
  ·have hln := hr14.len'
   rw [hjl] at hln
   have hFt : (F.take j).length ≤ 40 := by omega
   refine ⟨_, rfl, fun _ => ⟨_, hln, ?_⟩⟩
   rw [show wi (((j : Nat) : Int) + 1) = ((j + 1 : Nat) : Int) by rw [wi_eq (by omega) (by omega)]; rfl]
   refine s8 hh (by omega) (by omega) fun y1 hy1 => ⟨_, rfl, s8 hh (by decide) (by decide) fun y2 hy2 => ⟨_, rfl, ?_⟩⟩
   rw [show wi (7 + ((y1 : Nat) : Int)) = ((7 + y1 : Nat) : Int) by rw [wi_eq (by omega) (by omega)]; omega]
   have hb300 : ∀ o ∈ O, ∀ t ∈ o.2.2, t.length ≤ 300 := fun o ho t ht => by
    refine hF300 t (List.mem_of_mem_take (i := j) ?_)
    rw [← hfl, flat_app]
    refine List.mem_append_left _ (List.mem_flatMap.2 ⟨(o.1, o.2.2), List.mem_map.2 ⟨o, ho, rfl⟩, ht⟩)
   refine g12 hh h14 hb300 hfl hFt (by rw [hjl]; omega) (by omega) fun v26 w25 h25 x25 hr25 => ⟨_, _, rfl, _, hln, ?_⟩
   rw [show imin ((j : Nat) : Int) (wi ((y1 : Int) + (y2 : Int))) = ((min j (y1 + y2) : Nat) : Int) by rw [wi_eq (by omega) (by omega)]; unfold imin; split <;> omega]
   obtain ⟨v29, hsl, hr29⟩ := hr14.cut (i := y1) (j := min j (y1 + y2)) (by omega) (by rw [hjl]; omega) (lo := some (.int .i64 (y1 : Int))) (hi := some (.int .i64 ((min j (y1 + y2) : Nat) : Int))) (.inl rfl) (.inl rfl)
   refine onM_s hsl ?_
   have hO := chain_count h14.ch
   rw [hfl, List.length_append, List.length_singleton] at hO
   have hoBl : (oB O).length = O.length := List.length_map _
   have hoPl : (oP O).length = O.length := List.length_map _
   have hPl : (oP O ++ [(n', S)]).length = O.length + 1 := by simp [hoPl]
   refine g13 hh h25 (a := 3) (b := 2) rfl rfl h14.pts (by omega) fun v30 w31 h31 x31 hr30 => ?_
   have hln30 := hr30.len'
   rw [List.length_map, hPl] at hln30
   have hfst : ∀ q (hq : q < O.length + 1), ((oP O ++ [(n', S)]).map fun q => (q.1 : Int))[q]'(by rw [List.length_map]; omega) = (((allB O n' bs)[q]'(by simp [hoBl]; omega)).1 : Int) := fun q hq => by
    rw [List.getElem_map, oPB (bs := bs)]
   refine loopP_ind (fun mm l w34 => ∃ q : Nat, mm = O.length + 1 - q ∧ q ≤ O.length + 1 ∧ l = [.int .i64 q] ∧ w34 = w31) ?_ ⟨0, rfl, Nat.zero_le _, rfl, rfl⟩
   rintro mm l w34 ⟨q, rfl, hq, rfl, rfl⟩ R1 ih
   refine ⟨_, rfl, fun _ => ⟨_, hln30, ifT_d (fun hc => ?_) fun hc => ?_⟩⟩
   ·have hql : q < O.length + 1 := by omega
    have hg := chain_ge (Q := allB O n' bs) (j := q) (by simp [hoBl]; omega) h14.ch
    have hg2 : flat (allB O n' bs) = F.take j := hfl
    rw [hg2, hjl] at hg
    have next : R1 [.int .i64 (wi ((q : Int) + 1))] w34 := ih (O.length + 1 - (q + 1)) (by omega) _ _ ⟨q + 1, rfl, by omega, by rw [wi_eq (by omega) (by omega)]; rfl, rfl⟩
    have at9 : ∀ p (hp : p < O.length + 1), ((oP O ++ [(n', S)]).map fun q => (q.1 : Int)).getD ((p : Int)).toNat 0 = (((allB O n' bs)[p]'(by simp [hoBl]; omega)).1 : Int) := fun p hp => by
     rw [Int.toNat_natCast, List.getD_eq_getElem?_getD, List.getElem?_eq_getElem (by rw [List.length_map]; omega), Option.getD_some, hfst p hp]
    refine hr30.rsI.at (by omega) (by rw [List.length_map]; omega) fun b o g => ⟨_, g, ?_⟩
    rw [at9 q hql] at *
    refine ifT_d (fun hc => by omega) fun _ => ifT_d (fun hc0 => ?_) fun _ => next
    refine hr30.rsI.at (by omega) (by rw [List.length_map]; omega) fun b o g => ⟨_, g, ?_⟩
    rw [at9 q hql]
    rw [show wi ((q : Int) - 1) = ((q - 1 : Nat) : Int) by rw [wi_eq (by omega) (by omega)]; omega]
    refine hr30.rsI.at (by omega) (by rw [List.length_map]; omega) fun b o g => ⟨_, g, ?_⟩
    rw [at9 (q - 1) (by omega)]
    have hlt := chain_lt (Q := allB O n' bs) (j := q - 1) (k := q) (by simp [hoBl]; omega) (by omega) h14.ch
    exact ifT_d (fun hc => by omega) fun _ => next
   ·refine ifT_t (s14 hh (hr25.x x31) ((hr29.x x25).x x31) (by rw [List.length_take, List.length_drop]; omega) (by rw [List.length_drop, List.length_take]; omega) ⟨_, rfl, ?_⟩)
    have e1 : ((F.take j).drop y1).take y2 = ((F.take j).take (min j (y1 + y2))).drop y1 := by
     rw [List.take_drop]
     have : (F.take j).take (min j (y1 + y2)) = (F.take j).take (y1 + y2) := by
      rw [List.take_take, List.take_take]
      congr 1; omega
     rw [this]
    rw [e1]
    simp only [beq_self_eq_true]
    refine ifT_t ⟨_, hln30, _, hln, ?_⟩
    refine ifT_d (fun _ => awake) fun hne => absurd ?_ hne
    have e1 : decide (((O.length + 1 : Nat) : Int) = 0) = false := by simp; omega
    have e2 : decide (((j : Nat) : Int) = 0) = false := by simp; omega
    rw [e1, e2]
 ·intro J hJ
  have h10' := h10
  obtain ⟨hr0, xr0⟩ := h10.room
  obtain ⟨h11, x11⟩ := hr0.permL (L' := [(LG, .row (lgC D m .nilslice)), (0, .none)]) (List.Perm.swap _ _ _)
  refine loopP_ind (fun mm l w56 => ∃ (j : Nat) (all : AV) (af : Nat) (ao : Ob) (cs : List AV), mm = 40 - j ∧ j ≤ 40 ∧ j ≤ F.length ∧ l = [all, .int .i64 j] ∧ Sv 1 ao all cs ∧ At w w56 D LG m F j [(af, ao)] fun A => Chk (rL rU) A w56 cs (F.take j)) ?_
   ⟨0, .nilslice, 0, .none, [], rfl, by omega, by omega, rfl, Sv.nil, .inl ⟨rfl, i10, h11, by simp; rfl⟩⟩
  rintro mm l w56 ⟨j, all, af, ao, cs, rfl, hj, hjF, rfl, hsv, hat⟩ R1 ih
  have hjl : (F.take j).length = j := by rw [List.length_take]; omega
  have hcl : cs.length = j := by
   rcases hat with ⟨_, _, _, hc⟩ | ⟨_, _, _, _, _, _, _, _, _, _, _, _, _, _, _, _, hc⟩ <;> (have := hc.len; rw [hjl] at this; simpa [rL] using this)
  have done : J [all] w56 := by
   refine hJ _ _ ⟨j, all, rfl, hj, hjF, ?_⟩
   rcases hat with ⟨rfl, i1, h1, hc⟩ | ⟨hj0, i1, d1, O, n', S, bs, pf, po, pv', ef, eo, bv, ev, h1, hfl, hc⟩
   ·obtain ⟨h2, x2⟩ := h1.permL (L' := [(af, ao), (LG, .row (lgC D m .nilslice))]) (List.Perm.swap _ _ _)
    obtain ⟨h3, x3, hr⟩ := dropR (r := rL rU) (by decide) h2 hsv (Chk.x2 hc x2)
    exact .inl ⟨rfl, i1, h3, hr⟩
   ·have hpm : List.Perm (GL D S ef pf LG n' eo po bv ev pv' m [(af, ao)]) ((af, ao) :: GL D S ef pf LG n' eo po bv ev pv' m []) := List.perm_middle (a := (af, ao)) (l₁ := [(S, .row (segC D (fnm n') bv ev false)), (ef, eo), (pf, po), (LG, .row (lgC D m pv'))]) (l₂ := [])
    obtain ⟨h2, x2⟩ := h1.dk.permL hpm
    obtain ⟨h3, x3, hr⟩ := dropR (r := rL rU) (by decide) h2 hsv (Chk.x2 hc x2)
    exact .inr ⟨hj0, i1, d1, O, n', S, bs, pf, po, pv', ef, eo, bv, ev, lg_re h1 h3 (x2.trans x3), hfl, hr⟩
  have hblen : ∃ A, (rL (rL rU)).rd A w56 [v] bodies := by
   rcases hat with ⟨_, _, h1, _⟩ | ⟨_, _, _, _, _, _, _, _, _, _, _, _, _, _, h1, _, _⟩
   ·exact ⟨_, h1.ow.arg pv.mem h⟩
   ·exact ⟨_, h1.dk.ow.arg pv.mem h⟩
  obtain ⟨A9, hb9⟩ := hblen
  refine ⟨_, _, rfl, fun _ => ⟨_, hb9.len', ifT_d (fun hc => ifT_d (fun hc2 => ?_) fun _ => done) fun _ => done⟩⟩
  clear done
  have hjb : j < bodies.length := by omega
  have hjF1 : j < F.length := by omega
  have hFj := hFat j hjb
  have hFjl : (F[j]).length ≤ 300 := hF300 _ (List.getElem_mem hjF1)
  have htk : F.take (j + 1) = F.take j ++ [F[j]] := List.take_succ_eq_append_getElem hjF1
  have main : ∀ A, (rL (rL rU)).rd A w56 [v] bodies → (∀ v67, (rL rU).rd A w56 [v67] F[j] → Cl Tryz.prog hk 11 [.ptr LG 0, v67] w56 fun r_68 w_69 => ∃ x_70 : Int, ∃ x_71 : Int, r_68 = .tup [(.int .i64 x_70), (.int .i64 x_71)] ∧
    ifT (!decide (x_70 = (wi (7 + (j : Int))))) ((AV.bool false) = .bool true) (ifT (!decide (x_71 = 0)) ((AV.bool false) = .bool true) (gd (okCell v67) (new w_69 [v67] fun b_72 w_73 => onE (appS 1 24 w_73 all (.slice b_72 0 1 1 none)) fun all_74 w_75 => R1 [all_74, (.int .i64 (wi ((j : Int) + 1)))] w_75)))) →
    atP (idxS 1 v (.int .i64 (j : Int))) fun b_60 o_61 => onM (ld w56 b_60 o_61) fun x_62 => atP (idxS 1 v (.int .i64 (j : Int))) fun b_63 o_64 => onM (ld w56 b_63 o_64) fun x_65 => ∃ x_66 : Int, lenS x_65 = some (.int .i64 x_66) ∧ onM (slS 1 x_62 none (some (.int .i64 (imin x_66 300))) none) fun x_67 => Cl Tryz.prog hk 11 [.ptr LG 0, x_67] w56 fun r_68 w_69 => ∃ x_70 : Int, ∃ x_71 : Int, r_68 = .tup [(.int .i64 x_70), (.int .i64 x_71)] ∧
    ifT (!decide (x_70 = (wi (7 + (j : Int))))) ((AV.bool false) = .bool true) (ifT (!decide (x_71 = 0)) ((AV.bool false) = .bool true) (gd (okCell x_67) (new w_69 [x_67] fun b_72 w_73 => onE (appS 1 24 w_73 all (.slice b_72 0 1 1 none)) fun all_74 w_75 => R1 [all_74, (.int .i64 (wi ((j : Int) + 1)))] w_75))) := by
   intro A hb hK
   refine hb.at1 rfl hjb fun b o a hr hld => onM_s hld (hb.at1 rfl hjb fun b' o' a' hr' hld' => onM_s hld' ⟨_, hr'.len', ?_⟩)
   rw [show imin ((bodies[j].length : Nat) : Int) 300 = ((min bodies[j].length 300 : Nat) : Int) by unfold imin; split <;> omega]
   obtain ⟨v67, hsl, h67⟩ := hr.cut (i := 0) (j := min bodies[j].length 300) (by omega) (by omega) (.inr ⟨rfl, rfl⟩) (.inl rfl)
   refine onM_s hsl (hK v67 ?_)
   rw [hFj]
   have : ((bodies[j]).take (min bodies[j].length 300)).drop 0 = (bodies[j]).take 300 := by
    rw [List.drop_zero]
    rcases Nat.le_total bodies[j].length 300 with hle | hle
    ·rw [Nat.min_eq_left hle, List.take_of_length_le (Nat.le_refl _), List.take_of_length_le hle]
    ·rw [Nat.min_eq_right hle]
   rw [← this]; exact h67
  have ret : wi (7 + ((j : Nat) : Int)) = ((7 + j : Nat) : Int) := by rw [wi_eq (by omega) (by omega)]; omega
  have fin : ∀ {v67 : AV} {w2 : AW} {i2 : DI} {d2 : Dsk} {O : Olds} {n' S : Nat} {bs : List Byts} {pf : Nat} {po : Ob} {pv' : AV} {ef : Nat} {eo : Ob} {bv ev : AV}, Lg w w2 D i2 d2 ((j + 1) * 40000) LG m O n' S bs pf po pv' ef eo bv ev [(af, ao)] → flat (oB O ++ [(n', bs)]) = F.take (j + 1) → (rL rU).rd (fz T1 (dkU D i2 (GL D S ef pf LG n' eo po bv ev pv' m [(af, ao)]))) w2 [v67] F[j] → Chk (rL rU) (fz T1 (dkU D i2 (GL D S ef pf LG n' eo po bv ev pv' m [(af, ao)]))) w2 cs (F.take j) →
    gd (okCell v67) (new w2 [v67] fun b_72 w_73 => onE (appS 1 24 w_73 all (.slice b_72 0 1 1 none)) fun all_74 w_75 => R1 [all_74, (.int .i64 (wi ((j : Int) + 1)))] w_75) := by
   intro v67 w2 i2 d2 O n' S bs pf po pv' ef eo bv ev h2 hfl h67 hc
   refine gd_t h67.ok1 (h2.dk.new' fun b72 w73 h73 x73 => ?_)
   have hb72 : Box w73 b72 [v67] := (h73.ow.box (b72, _) (nth_mem (i := 6) rfl) rfl).1
   refine h73.accL 5 rfl hsv (by decide) (hb72.rs rfl) (by rw [hcl]; omega) (by rw [hcl]; omega) fun all2 af2 ao2 w75 h75 x75 hsv2 => ?_
   have h75 : Dk T1 [] w w75 D i2 d2 ((j + 1) * 40000) ((b72, .row [v67]) :: GL D S ef pf LG n' eo po bv ev pv' m [(af2, ao2)]) := h75
   obtain ⟨h76, x76, _⟩ := h75.drop
   have xx := (x73.trans x75).trans x76
   refine ih (40 - (j + 1)) (by omega) _ _ ⟨j + 1, all2, af2, ao2, cs ++ [v67], rfl, by omega, by omega, by rw [wi_eq (by omega) (by omega)]; rfl, hsv2, .inr ⟨by omega, i2, d2, O, n', S, bs, pf, po, pv', ef, eo, bv, ev, lg_re h2 h76 xx, hfl, ?_⟩⟩
   rw [htk]
   exact (Chk.x2 hc xx).app (Chk.one (h67.x xx))
  rcases hat with ⟨rfl, i1, h1, hc1⟩ | ⟨hj0, i1, d1, O, n', S, bs, pf, po, pv', ef, eo, bv, ev, h1, hfl, hc1⟩
  ·refine main _ (h1.ow.arg pv.mem h) fun v67 h67 => ?_
   have h67 : (rL rU).rd (fz T1 (dkU D i1 [(LG, .row (lgC D m .nilslice)), (af, ao)])) w56 [v67] F[0] := h67
   refine g11n hh h1 h67 hFjl (by decide) fun S ef eo pf po pv2 bv ev i2 d2 w2 h2 x2 => ⟨_, _, rfl, ifT_nd (fun hne => absurd (by decide) hne) fun _ => ifT_f ?_⟩
   refine fin h2 ?_ (h67.x x2) (Chk.x2 hc1 x2)
   rw [htk]; simp [flat, oB]
  ·refine main _ (h1.dk.ow.arg pv.mem h) fun v67 h67 => ?_
   have h67 : (rL rU).rd (fz T1 (dkU D i1 (GL D S ef pf LG n' eo po bv ev pv' m [(af, ao)]))) w56 [v67] F[j] := h67
   refine g11 hh h1 h67 hFjl (by omega) (by omega) (by omega) (by rw [hfl, hjl]; omega) fun O2 n2 S2 bs2 pf2 po2 pv2 ef2 eo2 bv2 ev2 i2 d2 w2 h2 x2 hfl2 => ⟨_, _, rfl, ?_⟩
   rw [hfl] at hfl2
   refine ifT_nd (fun hne => absurd ?_ hne) fun _ => ifT_f (fin (by rw [show (j + 1) * 40000 = j * 40000 + 40000 by omega]; exact h2) (by rw [hfl2, htk]) (h67.x x2) (Chk.x2 hc1 x2))
   rw [ret, hfl, hjl]
end
end Go.Proofs.YthpjoogmmjikmaaGreatDoor
