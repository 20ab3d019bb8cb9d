/-
  PlogSpares.
  No condition beyond those that each theorem names.
-/
import Derived.Test.YthpjoogmmjikmaaGreatDoorST10
import Derived.Test.YthpjoogmmjikmaaGreatDoorZ10
set_option linter.unusedSimpArgs false
open Go.Sx
set_option linter.unusedVariables false
set_option linter.unusedSimpArgs false
namespace Go.Proofs.YthpjoogmmjikmaaGreatDoor
section
variable {hk : Hook} {w : AW}
set_option maxRecDepth 20000 in
theorem s4 {v : AV} {s : Byts} (hh : HK hk) (pv : Pv (fun _ => True) w) (h : (rL rU).rd (fun _ => True) w [v] s) : Cl Tryz.prog hk 4 [v] w fun r _ => r = .bool true := by
  apply in4 (hh.no _ _ _ (by decide) (by decide))
  unfold F4
  have awake : ∀ {w : AW}, Cl Tryz.prog hk 15 [] w fun r w => ∃ x : Bool, r = .bool x ∧ (AV.bool x) = .bool true := fun {w} => Cl_hook (hh.awake _) ⟨_, rfl, rfl⟩
  refine ⟨_, h.len', ?_⟩
  rw [show imin ((s.length : Nat) : Int) 3000 = ((min s.length 3000 : Nat) : Int) by unfold imin; split <;> omega]
  obtain ⟨v2, hsl, h2⟩ := h.cut (i := 0) (j := min s.length 3000) (by omega) (by omega) (.inr ⟨rfl, rfl⟩) (.inl rfl)
  refine onM_s hsl ?_
  generalize ht : (s.take (min s.length 3000)).drop 0 = t at h2
  have htl : t.length ≤ 3000 := by rw [← ht]; simp; omega
  refine s9 hh pv.st fun D i0 w4 h4 x4 => ?_
  refine s10 hh h4 fun LG i6 w6 h6 x6 => ⟨_, _, rfl, ?_⟩
  have hb6 := (h2.inn (A := fun _ => True)).x (x4.trans x6)
  refine s16 hh h6.ow.P hb6.rsB (by omega) fun vin w10 f10 hin => ?_
  have he : ∃ e0 : Nat × Ob, Dk (fun _ => True) [] w w10 D i6 Dsk.none 0 ((LG, .row (logC D .nilslice)) :: [e0]) ∧ Xt (dkU D i6 [(LG, .row (logC D .nilslice))]) w6 (dkU D i6 ((LG, .row (logC D .nilslice)) :: [e0])) w10
      ∧ (∀ w' : AW, (e0.2.re = true → e0.2.is w' e0.1 ∧ e0.1 ≠ 0) → BS 1 w' vin t) ∧ ∀ c, blk vin = some c → e0.1 = c ∧ e0.2.re = true := by
    rcases hin with ⟨rfl, rfl⟩ | ⟨bx, rfl⟩
    · obtain ⟨a1, a2⟩ := h6.fr f10
      obtain ⟨c1, c2⟩ := a1.room
      obtain ⟨d1, d2⟩ := c1.permL (L' := (LG, .row (logC D .nilslice)) :: [(0, .none)]) (List.Perm.swap _ _ _)
      exact ⟨(0, .none), d1, (a2.trans c2).trans d2, fun _ _ => .inl ⟨rfl, rfl⟩, fun c hc => by cases hc⟩
    · obtain ⟨a1, a2⟩ := h6.push f10 bx (Nat.le_refl _)
      obtain ⟨d1, d2⟩ := a1.permL (L' := (LG, .row (logC D .nilslice)) :: [(w6.size, .row (cellsOfBytes t))]) (List.Perm.swap _ _ _)
      exact ⟨(w6.size, .row (cellsOfBytes t)), d1, a2.trans d2, fun w' hw' => .inr ⟨_, _, rfl, .inr rfl, by have := (hw' rfl).2; omega, (hw' rfl).1⟩, fun c hc => by cases hc; exact ⟨rfl, rfl⟩⟩
  obtain ⟨e0, h10, x10, hv, hbk⟩ := he
  have hok : okCell vin = true := by rcases hin with ⟨_, rfl⟩ | ⟨_, rfl⟩ <;> rfl
  have hve : ∀ {w' : AW} {i' : DI} {d' : Dsk} {k' : Nat} {L : Obs}, Dk (fun _ => True) [] w w' D i' d' k' L → e0 ∈ L → BS 1 w' vin t := fun hd hj => hv _ fun hr => by
    have := hd.ow.box e0 (by unfold dkL; simp [hj]) hr
    exact ⟨this.1, this.2.2.2⟩
  refine s11 hh h10 (fun w' i' d' k' M hdk => (hve hdk (List.mem_append_right M (List.mem_singleton_self e0))).rs) htl (by decide) fun S ef eo pf bv ev i12 d12 w12 h12 x12 hbv hes => ⟨_, _, rfl, ?_⟩
  have h12 : Dk (fun _ => True) [] w w12 D i12 d12 20000 (PL D S ef pf LG eo bv ev [e0]) := h12
  refine s12 hh h12 (a := 3) (b := 2) (c := 0) rfl rfl rfl rfl hes hbv htl fun c1 ex1 x1f w16 h16 x16 hx1 => ⟨_, _, rfl, ?_⟩
  refine s12 hh h16 (a := 5) (b := 4) (c := 2) rfl rfl rfl rfl hes (hbv.x x16) htl fun c2 ex2 x2f w20 h20 x20 hx2 => ⟨_, _, rfl, ?_⟩
  have hb20 := ((((hb6.x x10).x x12).x x16).x x20)
  rw [show wi (wi (0 + 0) + 0) = 0 from by decide]
  refine (show ∀ {K : Int → Prop} {x : Int}, K x → be x K from fun h => h) ?_
  rw [show wi (0 + 0) = 0 from by decide]
  refine ifT_f ⟨1, rfl, ifT_f ⟨1, rfl, ifT_f ?_⟩⟩
  have bsl : ∀ {w' : AW} {c : Nat} {ex : Option Nat}, Box w' c (cellsOfBytes t) → c ≠ 0 → (ex = none ∨ ex = some 1) → BS 1 w' (.slice c 0 t.length t.length ex) t := fun hb hc hx => .inr ⟨_, _, rfl, hx, by omega, hb⟩
  have o1 := h20.ow.box (c1, .row (cellsOfBytes t)) (nth_mem (i := 9) rfl) rfl
  refine idxz (by decide) (onM_s (h20.ow.ld 8 rfl rfl) (s17 hh (bsl o1.1 o1.2.2.2 hx1).rs hb20.rsB ⟨_, rfl, ?_⟩))
  rw [show (t == t) = true by simp]
  refine ifT_f (idxz (by decide) (onM_s (h20.ow.ld 8 rfl rfl) (idxz (by decide) (onM_s (h20.ow.ld 6 rfl rfl) (gd_t rfl (gd_t rfl (gd_t hok (h20.new' fun b30 w31 h31 x31 => ⟨h31.ow.ld 7 rfl rfl, h31.ow.ld 9 rfl rfl, ?_⟩))))))))
  have o0 := h31.ow.box (b30, .row [.slice c1 0 t.length t.length ex1, .slice c2 0 t.length t.length ex2, vin]) (nth_mem (i := 6) rfl) rfl
  have o1 := h31.ow.box (c1, .row (cellsOfBytes t)) (nth_mem (i := 10) rfl) rfl
  have o2 := h31.ow.box (c2, .row (cellsOfBytes t)) (nth_mem (i := 8) rfl) rfl
  have oe := hve h31 (by simp)
  have ne : ∀ {a b : Nat} {p q : Nat × Ob}, nth (dkL D i12 _ _) a = some p → nth (dkL D i12 _ _) b = some q → p.2.re = true → q.2.re = true → a ≠ b → p.1 ≠ q.1 := fun ha hb hp hq hab e => hab (Obs.uniq h31.ow.nd ha hb hp hq e)
  have n12 : c1 ≠ c2 := ne (a := 10) (b := 8) (p := (c1, .row (cellsOfBytes t))) (q := (c2, .row (cellsOfBytes t))) rfl rfl rfl rfl (by decide)
  have n10 : c1 ≠ b30 := ne (a := 10) (b := 6) (p := (c1, .row (cellsOfBytes t))) (q := (b30, .row [.slice c1 0 t.length t.length ex1, .slice c2 0 t.length t.length ex2, vin])) rfl rfl rfl rfl (by decide)
  have n20 : c2 ≠ b30 := ne (a := 8) (b := 6) (p := (c2, .row (cellsOfBytes t))) (q := (b30, .row [.slice c1 0 t.length t.length ex1, .slice c2 0 t.length t.length ex2, vin])) rfl rfl rfl rfl (by decide)
  have n1e : blk vin ≠ some c1 := fun e => by
    obtain ⟨q1, q2⟩ := hbk _ e
    exact ne (a := 10) (b := 15) (p := (c1, .row (cellsOfBytes t))) (q := e0) rfl rfl rfl q2 (by decide) q1.symm
  have n2e : blk vin ≠ some c2 := fun e => by
    obtain ⟨q1, q2⟩ := hbk _ e
    exact ne (a := 8) (b := 15) (p := (c2, .row (cellsOfBytes t))) (q := e0) rfl rfl rfl q2 (by decide) q1.symm
  have n0e : blk vin ≠ some b30 := fun e => by
    obtain ⟨q1, q2⟩ := hbk _ e
    exact ne (a := 6) (b := 15) (p := (b30, .row [.slice c1 0 t.length t.length ex1, .slice c2 0 t.length t.length ex2, vin])) (q := e0) rfl rfl rfl q2 (by decide) q1.symm
  refine s18 hh h31.ow.mem h31.ow.P0.pos (vs := [.slice c1 0 t.length t.length ex1, .slice c2 0 t.length t.length ex2, vin]) (ss := fun _ => t) (by simp) o0.1 (fun j hj => ?_) (fun _ _ => by omega) (fun a c ha hc hac x hx => ?_) (fun j hj => ?_) fun w33 s33 m33 g33 => ⟨_, rfl, ifT_f ?_⟩
  · match j, hj with
    | 0, _ => exact bsl o1.1 o1.2.2.2 hx1
    | 1, _ => exact bsl o2.1 o2.2.2.2 hx2
    | 2, _ => exact oe
  · match a, c, ha, hc with
    | 0, 0, _, _ => exact absurd rfl hac
    | 1, 1, _, _ => exact absurd rfl hac
    | 2, 2, _, _ => exact absurd rfl hac
    | 0, 1, _, _ => cases hx; exact fun e => n12 (by injection e with e; exact e.symm)
    | 0, 2, _, _ => cases hx; exact n1e
    | 1, 0, _, _ => cases hx; exact fun e => n12 (by injection e)
    | 1, 2, _, _ => cases hx; exact n2e
    | 2, 0, _, _ => exact fun e => n1e (by have e : some c1 = some x := e; rw [e]; exact hx)
    | 2, 1, _, _ => exact fun e => n2e (by have e : some c2 = some x := e; rw [e]; exact hx)
  · match j, hj with
    | 0, _ => exact fun e => n10 (by injection e)
    | 1, _ => exact fun e => n20 (by injection e)
    | 2, _ => exact n0e
  have hpm : List.Perm ([(b30, Ob.row [.slice c1 0 t.length t.length ex1, .slice c2 0 t.length t.length ex2, vin]), (x2f, Ob.row [.slice c2 0 t.length t.length ex2]), (c2, Ob.row (cellsOfBytes t)), (x1f, Ob.row [.slice c1 0 t.length t.length ex1]), (c1, Ob.row (cellsOfBytes t)), (S, Ob.row (segC D segnm bv ev false)), (ef, eo), (pf, Ob.row [.int .i64 1, .ptr S 0]), (LG, Ob.row (logC D (.slice pf 0 1 1 (some 2)))), e0])
      ([(b30, Ob.row [.slice c1 0 t.length t.length ex1, .slice c2 0 t.length t.length ex2, vin]), (c2, Ob.row (cellsOfBytes t)), (c1, Ob.row (cellsOfBytes t)), e0] ++ [(x2f, Ob.row [.slice c2 0 t.length t.length ex2]), (x1f, Ob.row [.slice c1 0 t.length t.length ex1]), (S, Ob.row (segC D segnm bv ev false)), (ef, eo), (pf, Ob.row [.int .i64 1, .ptr S 0]), (LG, Ob.row (logC D (.slice pf 0 1 1 (some 2))))]) := by
    refine .cons _ ((List.Perm.swap _ _ _).trans (.cons _ ?_))
    refine (List.Perm.cons _ (List.Perm.swap _ _ _)).trans ((List.Perm.swap _ _ _).trans (.cons _ ?_))
    exact List.perm_append_comm (l₁ := [(x2f, Ob.row [.slice c2 0 t.length t.length ex2]), (x1f, Ob.row [.slice c1 0 t.length t.length ex1]), (S, Ob.row (segC D segnm bv ev false)), (ef, eo), (pf, Ob.row [.int .i64 1, .ptr S 0]), (LG, Ob.row (logC D (.slice pf 0 1 1 (some 2))))]) (l₂ := [e0])
  obtain ⟨h32, x32⟩ := h31.permL hpm
  obtain ⟨h33, x33⟩ := h32.spoilM s33 m33 fun c hc hnc => g33 c hc fun j hj => by
    match j, hj with
    | 0, _ => exact fun e => hnc (by injection e with e; rw [← e]; exact ids_mem (p := (c1, .row (cellsOfBytes t))) (nth_mem (i := 2) rfl) rfl)
    | 1, _ => exact fun e => hnc (by injection e with e; rw [← e]; exact ids_mem (p := (c2, .row (cellsOfBytes t))) (nth_mem (i := 1) rfl) rfl)
    | 2, _ => exact fun e => hnc (by
        obtain ⟨q1, q2⟩ := hbk _ e
        rw [← q1]; exact ids_mem (p := e0) (nth_mem (i := 3) rfl) q2)
  have xx := ((x20.trans x31).trans x32).trans x33
  have hb33 := ((hb20.x x31).x x32).x x33
  refine s12 hh h33 (a := 5) (b := 4) (c := 2) rfl rfl rfl rfl hes ((hbv.x x16).x xx) htl fun c3 ex3 x3f w44 h44 x44 hx3 => ⟨_, _, rfl, ?_⟩
  refine s13 hh h44 (a := 7) (b := 6) rfl rfl fun ga w48 h48 x48 => s13 hh h48 (a := 8) (b := 7) rfl rfl fun gb w50 h50 x50 => ⟨1, rfl, ifT_f ⟨1, rfl, ifT_f (idxz (by decide) (h50.wr 1 rfl (by simp) fun w55 h55 x55 => ifT_t ?_))⟩⟩
  have o3 := h55.ow.box (c3, .row (cellsOfBytes t)) (nth_mem (i := 9) rfl) rfl
  have hb55 := (((hb33.x x44).x x48).x x50).x x55
  refine idxz (by decide) (onM_s (v := .slice c3 0 t.length t.length ex3) (h55.ow.ld 8 rfl rfl) (s17 hh (bsl o3.1 o3.2.2.2 hx3).rs hb55.rsB ⟨_, rfl, ?_⟩))
  rw [show (t == t) = true by simp]
  exact ifT_t (idxz (by decide) ⟨1, h55.ow.ld 6 rfl rfl, ifT_t awake⟩)
end
end Go.Proofs.YthpjoogmmjikmaaGreatDoor
