/-
  A log of one segment, over memory: Read and Segments.
  No condition beyond those that each theorem names.
-/
import Derived.Test.YthpjoogmmjikmaaGreatDoorSR10
set_option linter.unusedSimpArgs false
open Go.Sx
set_option linter.unusedVariables false
set_option linter.unusedSimpArgs false
namespace Go.Proofs.YthpjoogmmjikmaaGreatDoor
section
variable {hk : Hook} {A B : Nat → Prop} {I : List Nat} {w0 w w' : AW} {D S LG pf : Nat} {i i' : DI} {d d' : Dsk} {k k' : Nat} {L L' R : Obs} {K : AV → AW → Prop} {nm bs t : Byts} {bv ev pv : AV} {ef : Nat} {eo : Ob}
theorem s129 {b : Nat} (hh : HK hk) (hb : ldN 2 w b 0 = some (.agg [.int .i64 0, .int .i64 0])) (hK : K (.bool true) w) : Cl Tryz.prog hk 129 [.slice b 0 1 1 (some 2)] w K := by
  apply in129 (hh.no _ _ _ (by decide) (by decide))
  unfold F129
  refine ⟨1, rfl, ifT_f (idxz (by decide) ⟨0, 0, hb, false, by kernel_rfl, ifT_f ?_⟩)⟩
  intro R1 hR1
  exact hR1 _ _ ⟨_, rfl, fun _ => ⟨1, rfl, ifT_f hK⟩⟩
theorem s88 {af : Nat} (hh : HK hk) (h : Dk A I w0 w D i d k ((af, .row [.int .i64 0, .int .i64 0]) :: L)) (hK : ∀ w', Dk A I w0 w' D i d k ((af, .row [.int .i64 0, .int .i64 0]) :: L) → Xt (dkU D i ((af, .row [.int .i64 0, .int .i64 0]) :: L)) w (dkU D i ((af, .row [.int .i64 0, .int .i64 0]) :: L)) w' → K (.tup [.agg [.int .i64 0, .int .i64 0], .int .i64 0]) w') : Cl Tryz.prog hk 88 [.slice af 0 1 1 (some 2), .int .i64 0] w K := by
  apply in88 (hh.no _ _ _ (by decide) (by decide))
  unfold F88
  refine h.new' fun b2 w3 h3 x3 => h3.new' fun b4 w5 h5 x5 => s129 hh (h5.ow.ldN 8 rfl rfl rfl) ⟨_, rfl, ifT_f ⟨0, h5.ow.ld 7 rfl rfl, ifT_f ?_⟩⟩
  apply in130 (hh.no _ _ _ (by decide) (by decide))
  unfold F130
  refine ⟨1, rfl, ?_⟩
  intro R1 hR1
  refine hR1 _ _ ⟨_, rfl, fun _ => ifT_t (idxz (by decide) ⟨0, 0, h5.ow.ldN 8 rfl rfl rfl, ?_⟩)⟩
  show Cl Tryz.prog hk 131 [.agg [.int .i64 0, .int .i64 0], .ptr b2 0] w5 _
  apply in131 (hh.no _ _ _ (by decide) (by decide))
  unfold F131
  refine h5.new' fun b3 w12 h12 x12 => ⟨0, h12.ow.ld 6 rfl rfl, ?_⟩
  simp only [onP]
  refine ⟨0, h12.ow.ld 8 rfl rfl, _, rfl, ifT_f ?_⟩
  refine hR1 _ _ ⟨_, rfl, fun _ => ifT_f ⟨_, rfl, ?_⟩⟩
  refine join_of (fun l w20 => l = [.int .i64 1] ∧ w20 = w12) ?_ fun J hJ => ifT_t ⟨1, rfl, hJ _ _ ⟨rfl, rfl⟩⟩
  rintro l w20 ⟨rfl, rfl⟩
  refine ⟨_, rfl, fun _ => ?_⟩
  rw [show wi (1 - 1) = 0 from by decide]
  refine idxz (by decide) ⟨0, 0, h12.ow.ldN 9 rfl rfl rfl, h12.wr 1 rfl (by simp) fun w27 h27 x27 => ⟨0, 0, h27.ow.ldN 7 rfl rfl rfl, ?_⟩⟩
  obtain ⟨h28, x28⟩ := Dk.spoilM (M := [_, _, _]) (L := (af, .row [.int .i64 0, .int .i64 0]) :: L) h27 (Nat.le_refl _) h27.ow.mem fun _ _ _ => rfl
  exact hK w27 h28 ((((x3.trans x5).trans x12).trans x27).trans x28)
set_option maxRecDepth 20000 in
theorem s52 (hh : HK hk) (h : Dk A I w0 w D i d k L) {a b : Nat} (ha : nth L a = some (LG, .row (logC D (.slice pf 0 1 1 (some 2))))) (hp : nth L b = some (pf, .row [.int .i64 1, .ptr S 0])) (hK : ∀ w', Dk A I w0 w' D i d k L → Xt (dkU D i L) w (dkU D i L) w' → K (.int .i64 0) w') : Cl Tryz.prog hk 52 [.ptr LG 0, .int .i64 1] w K := by
  apply in52 (hh.no _ _ _ (by decide) (by decide))
  unfold F52
  have ha0 : nth (dkL D i d L) (a + 6) = some (LG, .row (logC D (.slice pf 0 1 1 (some 2)))) := ha
  have hp0 : nth (dkL D i d L) (b + 6) = some (pf, .row [.int .i64 1, .ptr S 0]) := hp
  simp only [onP]
  refine onM_s (v := .slice pf 0 1 1 (some 2)) (h.ow.ld _ ha0 rfl) ⟨1, rfl, ?_⟩
  intro R1 hR1
  refine hR1 _ _ ⟨_, _, rfl, fun _ => ifT_t (idxz (by decide) ⟨1, .ptr S 0, h.ow.ldN _ hp0 rfl rfl, h.new' fun b15 w16 h16 x16 => gd_t rfl (h16.wr 0 rfl (by simp) fun w17 h17 x17 => ?_)⟩)⟩
  have h17 : Dk A I w0 w17 D i d k ((b15, .row [.int .i64 1, .ptr S 0]) :: L) := h17
  have x17 : Xt (dkU D i ((b15, .row [.int .i64 0, .nilptr]) :: L)) w16 (dkU D i ((b15, .row [.int .i64 1, .ptr S 0]) :: L)) w17 := x17
  have ha1 : nth (dkL D i d ((b15, .row [.int .i64 1, .ptr S 0]) :: L)) (a + 7) = some (LG, .row (logC D (.slice pf 0 1 1 (some 2)))) := ha
  have hp1 : nth (dkL D i d ((b15, .row [.int .i64 1, .ptr S 0]) :: L)) (b + 7) = some (pf, .row [.int .i64 1, .ptr S 0]) := hp
  refine ⟨1, h17.ow.ld 6 rfl rfl, onM_s (v := .slice pf 0 1 1 (some 2)) (h17.ow.ld _ ha1 rfl) (idxz (by decide) ⟨1, h17.ow.ld _ hp1 rfl, ?_⟩)⟩
  rw [show wi (1 - 1) = 0 from by decide]
  refine h17.new' fun b25 w26 h26 x26 => ?_
  have ha2 : nth (dkL D i d ((b25, .row [.int .i64 0, .int .i64 0]) :: (b15, .row [.int .i64 1, .ptr S 0]) :: L)) (a + 8) = some (LG, .row (logC D (.slice pf 0 1 1 (some 2)))) := ha
  have hp2 : nth (dkL D i d ((b25, .row [.int .i64 0, .int .i64 0]) :: (b15, .row [.int .i64 1, .ptr S 0]) :: L)) (b + 8) = some (pf, .row [.int .i64 1, .ptr S 0]) := hp
  refine ⟨h26.ow.ld _ hp2 rfl, h26.ow.ld _ ha2 rfl, h26.ow.ld 7 rfl rfl, ?_⟩
  have hb25 : Box w26 b25 [.int .i64 0, .int .i64 0] := (h26.ow.box (b25, .row [.int .i64 0, .int .i64 0]) (nth_mem (i := 6) rfl) rfl).1
  refine appNil (sz := 2) h26 (hb25.rs rfl) (by decide) rfl (by decide) fun af w28 _ h28 x28 => ?_
  refine hR1 _ _ ⟨_, _, rfl, fun _ => ifT_f (s23 hh h28 (a := a + 3) (b := b + 3) ha hp ⟨_, rfl, ?_⟩)⟩
  rw [show wi (1 - 1) = 0 from by decide]
  refine s88 hh h28 fun w33 h33 x33 => ⟨_, _, _, rfl, h33.new' fun b37 w38 h38 x38 => h38.wr 0 rfl (by simp) fun w39 h39 x39 => ⟨0, h39.ow.ld 6 rfl rfl, ?_⟩⟩
  obtain ⟨h40, x40⟩ := Dk.spoilM (M := [_, _, _, _]) (L := L) h39 (Nat.le_refl _) h39.ow.mem fun _ _ _ => rfl
  exact hK w39 h40 ((((((((x16.trans x17).trans x26).trans x28).trans x33).trans x38).trans x39).trans x40))
set_option maxRecDepth 20000 in
theorem s12 (hh : HK hk) (h : Dk A I w0 w D i d k L) {a b c : Nat} (ha : nth L a = some (LG, .row (logC D (.slice pf 0 1 1 (some 2))))) (hp : nth L b = some (pf, .row [.int .i64 1, .ptr S 0])) (hS : nth L c = some (S, .row (segC D segnm bv ev false))) (hE : nth L (c + 1) = some (ef, eo))
    (hes : Sv 1 eo ev (cst [([] ++ frame t).length])) (hbv : (rL rU).rd (fz A (dkU D i L)) w [bv] ([] ++ frame t)) (htl : t.length ≤ 3000)
    (hK : ∀ c1 ex xf w', Dk A I w0 w' D i d k ((xf, .row [.slice c1 0 t.length t.length ex]) :: (c1, .row (cellsOfBytes t)) :: L) → Xt (dkU D i L) w (dkU D i ((xf, .row [.slice c1 0 t.length t.length ex]) :: (c1, .row (cellsOfBytes t)) :: L)) w' → (ex = none ∨ ex = some 1) → K (.tup [.slice xf 0 1 1 (some 1), .int .i64 0]) w') : Cl Tryz.prog hk 12 [.ptr LG 0, .int .i64 1, .int .i64 1] w K := by
  apply in12 (hh.no _ _ _ (by decide) (by decide))
  unfold F12
  have ha0 : nth (dkL D i d L) (a + 6) = some (LG, .row (logC D (.slice pf 0 1 1 (some 2)))) := ha
  have hfl := frame_length t
  have hbl : ([] ++ frame t : Byts).length = 4 + t.length := by rw [List.nil_append, hfl]
  refine s51 hh (h.ow.ld _ ha0 rfl) ⟨_, rfl, ifT_f (ifT_f (s23 hh h ha hp ⟨_, rfl, ifT_f (s24 hh h ha hp hS hE hes rfl fun w10 h10 x10 => ⟨_, rfl, ifT_f ?_⟩)⟩))⟩
  intro R1 hR1
  refine hR1 _ _ ⟨_, _, rfl, fun _ => s24 hh h10 ha hp hS hE hes rfl fun w18 h18 x18 => ⟨_, rfl, ifT_t ⟨0, rfl, ifT_t ?_⟩⟩⟩
  simp only [onP]
  refine onM_s (v := .slice pf 0 1 1 (some 2)) (h18.ow.ld _ ha0 rfl) (h18.new' fun b24 w25 h25 x25 => ?_)
  have ha1 : nth (dkL D i d ((b24, .row [.int .i64 0, .nilptr]) :: L)) (a + 7) = some (LG, .row (logC D (.slice pf 0 1 1 (some 2)))) := ha
  have hp1 : nth (dkL D i d ((b24, .row [.int .i64 0, .nilptr]) :: L)) (b + 7) = some (pf, .row [.int .i64 1, .ptr S 0]) := hp
  refine ⟨h25.ow.ld _ ha1 rfl, s52 hh h25 (a := a + 1) (b := b + 1) ha hp fun w27 h27 x27 => ⟨_, rfl, h27.ow.ld _ ha1 rfl, idxz (by decide) ⟨1, .ptr S 0, h27.ow.ldN _ hp1 rfl rfl, gd_t rfl (h27.wr 0 rfl (by simp) fun w33 h33 x33 => ?_)⟩⟩⟩
  have h33 : Dk A I w0 w33 D i d k ((b24, .row [.int .i64 1, .ptr S 0]) :: L) := h33
  have x33 : Xt (dkU D i ((b24, .row [.int .i64 0, .nilptr]) :: L)) w27 (dkU D i ((b24, .row [.int .i64 1, .ptr S 0]) :: L)) w33 := x33
  refine onM_s (v := .ptr S 0) (h33.ow.ld 6 rfl rfl) ⟨1, h33.ow.ld 6 rfl rfl, ?_⟩
  rw [show wi (1 - 1) = 0 from by decide]
  have xx := ((((x10.trans x18).trans x25).trans x27).trans x33)
  have hbv33 := hbv.x xx
  have hS2 : nth (dkL D i d ((b24, .row [.int .i64 1, .ptr S 0]) :: L)) (c + 7) = some (S, .row (segC D segnm bv ev false)) := hS
  have hE2 : nth (dkL D i d ((b24, .row [.int .i64 1, .ptr S 0]) :: L)) (c + 1 + 7) = some (ef, eo) := hE
  have hrs : RsI w33 ev [((([] ++ frame t : Byts).length : Nat) : Int)] := h33.ow.sv hE2 hes (by decide) (k := 1) rfl
  have hne : bv ≠ .nilslice := by
    rintro rfl
    have := hbv.len'
    simp only [lenS, Option.some.injEq, AV.int.injEq, true_and] at this
    omega
  have hbd : (([] ++ frame t).take ([] ++ frame t : Byts).length).drop (0 + 4) = t := by simp [frame, be4]
  refine s53 (i0 := 0) (st := 0) (en := ([] ++ frame t : Byts).length) (D := D) (br := false) (es := [((([] ++ frame t : Byts).length : Nat) : Int)]) hh h33.ow.mem h33.ow.P0.pos (h33.ow.ld _ hS2 rfl) (h33.ow.ld _ hS2 rfl) (h33.ow.ld _ hS2 rfl) (h33.ow.ld _ hS2 rfl) hbv33 hrs hne (by simp) (by simp) rfl rfl (by omega) (Nat.le_refl _) (by omega) fun c1 ex w37 f37 hc bx hx => ⟨_, _, rfl, gd_t rfl ?_⟩
  rw [hbd] at bx ⊢
  obtain ⟨h37, x37⟩ := h33.push f37 bx hc
  refine h37.new' fun b40 w41 h41 x41 => ?_
  have hb40 : Box w41 b40 [.slice c1 0 t.length t.length ex] := (h41.ow.box (b40, .row [.slice c1 0 t.length t.length ex]) (nth_mem (i := 6) rfl) rfl).1
  refine appNil (sz := 1) h41 (hb40.rs rfl) (by decide) rfl (by decide) fun xf w43 _ h43 x43 => ?_
  refine hR1 _ _ ⟨_, _, rfl, fun _ => s24 hh h43 (a := a + 4) (b := b + 4) (c := c + 4) ha hp hS hE hes rfl fun w44 h44 x44 => ⟨_, rfl, ifT_f ?_⟩⟩
  have hpm : List.Perm ([(xf, Ob.row [.slice c1 0 t.length t.length ex]), (b40, Ob.row [.slice c1 0 t.length t.length ex]), (c1, Ob.row (cellsOfBytes t)), (b24, Ob.row [.int .i64 1, .ptr S 0])] ++ L)
      ([(b40, Ob.row [.slice c1 0 t.length t.length ex]), (b24, Ob.row [.int .i64 1, .ptr S 0])] ++ ((xf, Ob.row [.slice c1 0 t.length t.length ex]) :: (c1, Ob.row (cellsOfBytes t)) :: L)) := by
    refine List.Perm.append_right L (l₁ := [(xf, Ob.row [.slice c1 0 t.length t.length ex]), (b40, Ob.row [.slice c1 0 t.length t.length ex]), (c1, Ob.row (cellsOfBytes t)), (b24, Ob.row [.int .i64 1, .ptr S 0])]) (l₂ := [(b40, Ob.row [.slice c1 0 t.length t.length ex]), (b24, Ob.row [.int .i64 1, .ptr S 0]), (xf, Ob.row [.slice c1 0 t.length t.length ex]), (c1, Ob.row (cellsOfBytes t))]) ?_
    refine (List.Perm.swap _ _ _).trans (.cons _ ?_)
    exact List.perm_append_comm (l₁ := [(xf, Ob.row [.slice c1 0 t.length t.length ex]), (c1, Ob.row (cellsOfBytes t))]) (l₂ := [(b24, Ob.row [.int .i64 1, .ptr S 0])])
  obtain ⟨h45, x45⟩ := h44.permL hpm
  have h45 : Dk A I w0 w44 D i d k ([(b40, Ob.row [.slice c1 0 t.length t.length ex]), (b24, Ob.row [.int .i64 1, .ptr S 0])] ++ ((xf, Ob.row [.slice c1 0 t.length t.length ex]) :: (c1, Ob.row (cellsOfBytes t)) :: L)) := h45
  obtain ⟨h46, x46⟩ := h45.spoilM (Nat.le_refl _) h45.ow.mem fun _ _ _ => rfl
  exact hK c1 ex xf w44 h46 ((((((xx.trans x37).trans x41).trans x43).trans x44).trans x45).trans x46) hx
theorem s13 (hh : HK hk) (h : Dk A I w0 w D i d k L) {a b : Nat} (ha : nth L a = some (LG, .row (logC D (.slice pf 0 1 1 (some 2))))) (hp : nth L b = some (pf, .row [.int .i64 1, .ptr S 0]))
    (hK : ∀ f w', Dk A I w0 w' D i d k ((f, .row [.int .i64 1]) :: L) → Xt (dkU D i L) w (dkU D i ((f, .row [.int .i64 1]) :: L)) w' → K (.slice f 0 1 1 (some 1)) w') : Cl Tryz.prog hk 13 [.ptr LG 0] w K := by
  apply in13 (hh.no _ _ _ (by decide) (by decide))
  unfold F13
  have ha0 : nth (dkL D i d L) (a + 6) = some (LG, .row (logC D (.slice pf 0 1 1 (some 2)))) := ha
  have hp0 : nth (dkL D i d L) (b + 6) = some (pf, .row [.int .i64 1, .ptr S 0]) := hp
  refine s51 hh (h.ow.ld _ ha0 rfl) ⟨_, rfl, ifT_f ?_⟩
  simp only [onP]
  refine onM_s (v := .slice pf 0 1 1 (some 2)) (h.ow.ld _ ha0 rfl) ⟨1, rfl, ?_⟩
  intro R1 hR1
  refine hR1 _ _ ⟨_, _, rfl, fun _ => ifT_t (idxz (by decide) ⟨1, .ptr S 0, h.ow.ldN _ hp0 rfl rfl, h.new' fun b17 w18 h18 x18 => gd_t rfl (h18.wr 0 rfl (by simp) fun w19 h19 x19 => ⟨1, h19.ow.ld 6 rfl rfl, h19.new' fun b21 w22 h22 x22 => ?_⟩)⟩)⟩
  have hb21 : Box w22 b21 [.int .i64 1] := (h22.ow.box (b21, .row [.int .i64 1]) (nth_mem (i := 6) rfl) rfl).1
  refine appNil (sz := 1) h22 (hb21.rs rfl) (by decide) rfl (by decide) fun f w24 _ h24 x24 => ?_
  refine hR1 _ _ ⟨_, _, rfl, fun _ => ifT_f ?_⟩
  have h24 : Dk A I w0 w24 D i d k ((f, Ob.row [.int .i64 1]) :: (b21, Ob.row [.int .i64 1]) :: (b17, Ob.row [.int .i64 1, .ptr S 0]) :: L) := h24
  have hpm : List.Perm ([(f, Ob.row [.int .i64 1]), (b21, Ob.row [.int .i64 1]), (b17, Ob.row [.int .i64 1, .ptr S 0])] ++ L) ([(b21, Ob.row [.int .i64 1]), (b17, Ob.row [.int .i64 1, .ptr S 0]), (f, Ob.row [.int .i64 1])] ++ L) :=
    List.Perm.append_right L (List.perm_append_comm (l₁ := [(f, Ob.row [.int .i64 1])]) (l₂ := [(b21, Ob.row [.int .i64 1]), (b17, Ob.row [.int .i64 1, .ptr S 0])]))
  obtain ⟨h25, x25⟩ := h24.permL hpm
  have h25 : Dk A I w0 w24 D i d k ([(b21, Ob.row [.int .i64 1]), (b17, Ob.row [.int .i64 1, .ptr S 0])] ++ ((f, Ob.row [.int .i64 1]) :: L)) := h25
  obtain ⟨h26, x26⟩ := h25.spoilM (Nat.le_refl _) h25.ow.mem fun _ _ _ => rfl
  have xz := ((x18.trans x19).trans x22).trans x24
  exact hK f w24 h26 ((xz.trans x25).trans x26)
end
end Go.Proofs.YthpjoogmmjikmaaGreatDoor
