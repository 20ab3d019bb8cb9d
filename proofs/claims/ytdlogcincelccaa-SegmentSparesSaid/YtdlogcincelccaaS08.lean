/-
  SegmentSpares: what a segment's Read gives shares nothing with it.
  No condition beyond those that each theorem names.
-/
import Derived.Test.YtdlogcincelccaaO08
set_option linter.unusedSimpArgs false
open Go.Sx
set_option linter.unusedVariables false
set_option linter.unusedSimpArgs false
namespace Go.Proofs.Ytdlogcincelccaa
def Qt (d : Dsk) : Prop := d.down = false ∧ d.arm = 0 ∧ d.fault = 0
theorem qt_stopped {d : Dsk} (h : Qt d) : d.stopped = (d, 0) := by
  obtain ⟨h1, h2, h3⟩ := h
  obtain ⟨a, b, c, l, dn, ar, fa, wt⟩ := d
  simp only at h1 h2 h3
  subst h1; subst h2; subst h3
  rfl
theorem qt_more {d : Dsk} (h : Qt d) (l : List Stp) : d.more l = ({ d with steps := d.steps ++ l, now := l.foldl FS.does d.now }, 0) := by
  unfold Dsk.more
  rw [qt_stopped h]; simp
theorem put_next {d : Dsk} {nm data : Byts} {f : Int} {j : Nat} (hq : Qt d) (hn : named nm = true) (hl : data.length = 64) (hN : d.now.names = [(nm, f)]) (hF : (d.now.files f).length = j) (hj : j < 4096) :
    ∃ d', d.put nm j data = (d', 0) ∧ Qt d' ∧ d'.now.names = [(nm, f)] ∧ (d'.now.files f).length = j + 1 := by
  have hg : nget d.now.names nm = some f := by rw [hN]; simp [nget]
  unfold Dsk.put
  simp only [hg, hn, hl, Option.getD_some]
  rw [if_neg (by simp; omega), if_neg (by simp; omega), qt_more hq]
  refine ⟨_, rfl, hq, ?_, ?_⟩
  · simp [FS.does, hN]
  · simp [FS.does, updF, putS, hF]
theorem puts_ok {nm b : Byts} {f : Int} (hn : named nm = true) : ∀ (m j : Nat) (d : Dsk), Qt d → d.now.names = [(nm, f)] → (d.now.files f).length = j → j + m ≤ 4096 → (puts nm b m j d).2 = 0
  | 0, _, _, _, _, _, _ => rfl
  | m + 1, j, d, hq, hN, hF, hj => by
    obtain ⟨d', h1, h2, h3, h4⟩ := put_next (data := sector b j) hq hn (sector_length b j) hN hF (by omega)
    show (if (d.put nm j (sector b j)).2 ≠ 0 then d.put nm j (sector b j) else puts nm b m (j + 1) (d.put nm j (sector b j)).1).2 = 0
    rw [h1]
    exact puts_ok hn m (j + 1) d' h2 h3 h4 (by omega)
theorem puts_none {nm b : Byts} (hn : named nm = true) {m : Nat} (hm : m ≤ 4096) : (puts nm b m 0 Dsk.none).2 = 0 := by
  cases m with
  | zero => rfl
  | succ m =>
    have h : ∃ d', Dsk.none.put nm ((0 : Nat) : Int) (sector b 0) = (d', 0) ∧ Qt d' ∧ d'.now.names = [(nm, 1)] ∧ (d'.now.files 1).length = 1 := by
      unfold Dsk.put
      simp [Dsk.none, FS.none, nget, hn, sector_length, Dsk.more, Dsk.stopped, spent, FS.does, nset, updF, putS, Qt]
    obtain ⟨d', h1, h2, h3, h4⟩ := h
    show (if (Dsk.none.put nm ((0 : Nat) : Int) (sector b 0)).2 ≠ 0 then Dsk.none.put nm ((0 : Nat) : Int) (sector b 0) else puts nm b m 1 (Dsk.none.put nm ((0 : Nat) : Int) (sector b 0)).1).2 = 0
    rw [h1]
    exact puts_ok hn m 1 d' h2 h3 h4 (by omega)
theorem body_of (t : Byts) : (([] ++ frame t).take ([] ++ frame t).length).drop (0 + 4) = t := by simp [frame, be4]
section
variable {hk : Hook} {w : AW}
set_option maxRecDepth 20000 in
/-- SegmentSpares. -/
theorem s4 {v : AV} {s : Byts} (hh : HK hk) (pv : Pv (fun _ => True) w) (h : (rL rU).rd (fun _ => True) w [v] s) : Cl Try.prog hk 4 [v] w fun r _ => r = .bool true := by
  apply in4 (hh.no _ _ _ (by decide) (by decide))
  unfold F4
  refine ⟨_, h.len', ?_⟩
  rw [show imin ((s.length : Nat) : Int) 3000 = ((min s.length 3000 : Nat) : Int) by unfold imin; split <;> omega]
  obtain ⟨v2, hsl, h2⟩ := h.cut (i := 0) (j := min s.length 3000) (by omega) (by omega) (.inr ⟨rfl, rfl⟩) (.inl rfl)
  refine onM_s hsl ?_
  generalize ht : (s.take (min s.length 3000)).drop 0 = t at h2
  have htl : t.length ≤ 3000 := by rw [← ht]; simp; omega
  refine s8 hh pv.st fun D i0 w4 h4 x4 => ?_
  refine s11n hh h4 rfl fun S w6 h6 x6 => ⟨_, _, rfl, ?_⟩
  have hb6 := (h2.inn (A := fun _ => True)).x (x4.trans x6)
  refine s10 hh h6.ow.P hb6.rsB (by omega) fun vin w10 f10 hin => ?_
  have he : ∃ e0 : Nat × Ob, Dk (fun _ => True) [] w w10 D i0 Dsk.none 0 ((S, .row (segC D [115] .nilslice .nilslice false)) :: (0, .none) :: [e0]) ∧ Xt (dkU D i0 [(S, .row (segC D [115] .nilslice .nilslice false))]) w6 (dkU D i0 ((S, .row (segC D [115] .nilslice .nilslice false)) :: (0, .none) :: [e0])) w10
      ∧ (∀ w' : AW, (e0.2.re = true → e0.2.is w' e0.1 ∧ e0.1 ≠ 0) → BS 1 w' vin t) ∧ ∀ c, blk vin = some c → e0.1 = c ∧ e0.2.re = true := by
    rcases hin with ⟨rfl, rfl⟩ | ⟨bx, rfl⟩
    · obtain ⟨a1, a2⟩ := h6.fr f10
      obtain ⟨b1, b2⟩ := a1.room
      obtain ⟨c1, c2⟩ := b1.room
      obtain ⟨d1, d2⟩ := c1.permL (L' := (S, .row (segC D [115] .nilslice .nilslice false)) :: (0, .none) :: [(0, .none)]) (List.perm_append_comm (l₁ := [(0, Ob.none), (0, Ob.none)]) (l₂ := [(S, Ob.row (segC D [115] .nilslice .nilslice false))]))
      exact ⟨(0, .none), d1, ((a2.trans b2).trans c2).trans d2, fun _ _ => .inl ⟨rfl, rfl⟩, fun c hc => by cases hc⟩
    · obtain ⟨a1, a2⟩ := h6.push f10 bx (Nat.le_refl _)
      obtain ⟨b1, b2⟩ := a1.room
      obtain ⟨d1, d2⟩ := b1.permL (L' := (S, .row (segC D [115] .nilslice .nilslice false)) :: (0, .none) :: [(w6.size, .row (cellsOfBytes t))]) ((List.perm_append_comm (l₁ := [(0, Ob.none), (w6.size, Ob.row (cellsOfBytes t))]) (l₂ := [(S, Ob.row (segC D [115] .nilslice .nilslice false))])))
      exact ⟨(w6.size, .row (cellsOfBytes t)), d1, (a2.trans b2).trans d2, fun w' hw' => .inr ⟨_, _, rfl, .inr rfl, by have := (hw' rfl).2; omega, (hw' rfl).1⟩, fun c hc => by cases hc; exact ⟨rfl, rfl⟩⟩
  obtain ⟨e0, h10, x10, hv, hbk⟩ := he
  have hok : okCell vin = true := by rcases hin with ⟨_, rfl⟩ | ⟨_, rfl⟩ <;> rfl
  have hve : ∀ {w' : AW} {i' : DI} {d' : Dsk} {k' : Nat} {L : Obs} (j : Nat), Dk (fun _ => True) [] w w' D i' d' k' L → nth L j = some e0 → BS 1 w' vin t := fun j hd hj => hv _ fun hr => by
    have := hd.ow.box e0 (nth_mem (i := j + 6) hj) hr
    exact ⟨this.1, this.2.2.2⟩
  have hfl := frame_length t
  have hpn := puts_none (nm := [115]) (b := [] ++ frame t) rfl (m := nsec ([] ++ frame t) - ([] : Byts).length / 62) (by unfold nsec; rw [List.nil_append, hfl]; omega)
  refine s16 (nm := [115]) (bs := []) (es := []) hh h10 Rp.rd.nil Sv.nil (fun w' b2 b4 b6 hd _ => (hve 5 hd rfl).rs) (by omega) (by simp; omega) (by simp) (by decide) (fun _ i1 w12 bv ev ef eo h12 x12 hbs hes => ?_) (fun hne => absurd hpn hne)
  have hb12 := (hb6.x x10).x x12
  have hbl : ([] ++ frame t).length = 4 + t.length := by simp [hfl]
  have hbv : bv ≠ .nilslice := by
    rintro rfl
    obtain ⟨all, g1, g2⟩ := hbs.rs
    rcases g1 with ⟨_, h2, _⟩ | ⟨b, o, cap, ex, al, h2, _⟩
    · rw [hbl] at h2; omega
    · cases h2
  have hes : Sv 1 eo ev ([((([] ++ frame t).length : Nat) : Int)].map (AV.int .i64)) := hes
  refine ⟨_, _, rfl, ?_⟩
  have rd1 : ∀ {w1 : AW} {i1 : DI} {d1 : Dsk} {k1 : Nat} {L1 : Obs} (j : Nat) (K : AV → AW → Prop), Dk (fun _ => True) [] w w1 D i1 d1 k1 L1 → nth L1 j = some (S, .row (segC D [115] bv ev false)) → nth L1 (j + 1) = some (ef, eo) → (rL rU).rd (fz (fun _ => True) (dkU D i1 L1)) w1 [bv] ([] ++ frame t) →
      (∀ c ex w', Fr w1.size w1 w' → w1.size ≤ c → Box w' c (cellsOfBytes t) → (ex = none ∨ ex = some 1) → K (.tup [.slice c 0 t.length t.length ex, .int .i64 0]) w') → Cl Try.prog hk 19 [.ptr S 0, .int .i64 0] w1 K := by
    intro w1 i1 d1 k1 L1 j K hd hj hj2 hrd hK
    have e1 : nth (dkL D i1 d1 L1) (j + 6) = some (S, .row (segC D [115] bv ev false)) := hj
    have e2 : nth (dkL D i1 d1 L1) (j + 1 + 6) = some (ef, eo) := hj2
    have hrs : RsI w1 ev [((([] ++ frame t : Byts).length : Nat) : Int)] := hd.ow.sv e2 hes (by decide) (k := 1) (by simp)
    refine s19 (i0 := 0) (st := 0) (en := ([] ++ frame t : Byts).length) (D := D) (br := false) (es := [((([] ++ frame t : Byts).length : Nat) : Int)]) hh hd.ow.mem hd.ow.P0.pos (hd.ow.ld _ e1 rfl) (hd.ow.ld _ e1 rfl) (hd.ow.ld _ e1 rfl) (hd.ow.ld _ e1 rfl) hrd hrs hbv (by simp) (by simp) rfl rfl (by rw [hbl]; omega) (Nat.le_refl _) (by rw [hbl]; omega) ?_
    rw [body_of]
    exact hK
  refine rd1 0 _ h12 rfl rfl hbs fun c1 ex1 w16 f16 g1 bx1 hx1 => ⟨_, _, rfl, ?_⟩
  obtain ⟨h16, x16⟩ := h12.push f16 bx1 g1
  refine rd1 1 _ h16 rfl rfl (hbs.x x16) fun c2 ex2 w20 f20 g2 bx2 hx2 => ⟨_, _, rfl, ?_⟩
  obtain ⟨h20, x20⟩ := h16.push f20 bx2 g2
  have hb20 := (hb12.x x16).x x20
  rw [show wi (wi (0 + 0) + 0) = 0 from by decide]
  refine (show ∀ {K : Int → Prop} {x : Int}, K x → be x K from fun h => h) ?_
  rw [show wi (0 + 0) = 0 from by decide]
  refine ifT_f ?_
  have bsl : ∀ {w' : AW} {c : Nat} {ex : Option Nat}, Box w' c (cellsOfBytes t) → c ≠ 0 → (ex = none ∨ ex = some 1) → BS 1 w' (.slice c 0 t.length t.length ex) t := fun hb hc hx => .inr ⟨_, _, rfl, hx, by omega, hb⟩
  have o1 := h20.ow.box (c1, .row (cellsOfBytes t)) (nth_mem (i := 7) rfl) rfl
  have o2 := h20.ow.box (c2, .row (cellsOfBytes t)) (nth_mem (i := 6) rfl) rfl
  refine s20 hh (bsl o1.1 o1.2.2.2 hx1).rs hb20.rsB ⟨_, rfl, ?_⟩
  rw [show (t == t) = true by simp]
  refine ifT_f (s20 hh (bsl o2.1 o2.2.2.2 hx2).rs hb20.rsB ⟨_, rfl, ?_⟩)
  rw [show (t == t) = true by simp]
  refine ifT_f (gd_t rfl (gd_t rfl (gd_t hok (h20.new' fun b30 w31 h31 x31 => ?_))))
  have o0 := h31.ow.box (b30, .row [.slice c1 0 t.length t.length ex1, .slice c2 0 t.length t.length ex2, vin]) (nth_mem (i := 6) rfl) rfl
  have o1 := h31.ow.box (c1, .row (cellsOfBytes t)) (nth_mem (i := 8) rfl) rfl
  have o2 := h31.ow.box (c2, .row (cellsOfBytes t)) (nth_mem (i := 7) rfl) rfl
  have oe := hve 5 h31 rfl
  have ne : ∀ {a b : Nat} {p q : Nat × Ob}, nth (dkL D i1 _ _) a = some p → nth (dkL D i1 _ _) b = some q → p.2.re = true → q.2.re = true → a ≠ b → p.1 ≠ q.1 := fun ha hb hp hq hab e => hab (Obs.uniq h31.ow.nd ha hb hp hq e)
  have n12 : c1 ≠ c2 := ne (a := 8) (b := 7) (p := (c1, .row (cellsOfBytes t))) (q := (c2, .row (cellsOfBytes t))) rfl rfl rfl rfl (by decide)
  have n10 : c1 ≠ b30 := ne (a := 8) (b := 6) (p := (c1, .row (cellsOfBytes t))) (q := (b30, .row [.slice c1 0 t.length t.length ex1, .slice c2 0 t.length t.length ex2, vin])) rfl rfl rfl rfl (by decide)
  have n20 : c2 ≠ b30 := ne (a := 7) (b := 6) (p := (c2, .row (cellsOfBytes t))) (q := (b30, .row [.slice c1 0 t.length t.length ex1, .slice c2 0 t.length t.length ex2, vin])) rfl rfl rfl rfl (by decide)
  have n1e : blk vin ≠ some c1 := fun e => by
    obtain ⟨q1, q2⟩ := hbk _ e
    exact ne (a := 8) (b := 11) (p := (c1, .row (cellsOfBytes t))) (q := e0) rfl rfl rfl q2 (by decide) q1.symm
  have n2e : blk vin ≠ some c2 := fun e => by
    obtain ⟨q1, q2⟩ := hbk _ e
    exact ne (a := 7) (b := 11) (p := (c2, .row (cellsOfBytes t))) (q := e0) rfl rfl rfl q2 (by decide) q1.symm
  have n0e : blk vin ≠ some b30 := fun e => by
    obtain ⟨q1, q2⟩ := hbk _ e
    exact ne (a := 6) (b := 11) (p := (b30, .row [.slice c1 0 t.length t.length ex1, .slice c2 0 t.length t.length ex2, vin])) (q := e0) rfl rfl rfl q2 (by decide) q1.symm
  refine s21 hh h31.ow.mem h31.ow.P0.pos (vs := [.slice c1 0 t.length t.length ex1, .slice c2 0 t.length t.length ex2, vin]) (ss := fun _ => t) (by simp) o0.1 (fun j hj => ?_) (fun _ _ => by omega) (fun a c ha hc hac x hx => ?_) (fun j hj => ?_) fun w33 s33 m33 g33 => ?_
  · match j, hj with
    | 0, _ => exact bsl o1.1 o1.2.2.2 hx1
    | 1, _ => exact bsl o2.1 o2.2.2.2 hx2
    | 2, _ => exact oe
  · match a, c, ha, hc with
    | 0, 0, _, _ => exact absurd rfl hac
    | 1, 1, _, _ => exact absurd rfl hac
    | 2, 2, _, _ => exact absurd rfl hac
    | 0, 1, _, _ => cases hx; exact fun e => n12 (by injection e with e; exact e.symm)
    | 0, 2, _, _ => cases hx; exact n1e
    | 1, 0, _, _ => cases hx; exact fun e => n12 (by injection e)
    | 1, 2, _, _ => cases hx; exact n2e
    | 2, 0, _, _ => exact fun e => n1e (by have e : some c1 = some x := e; rw [e]; exact hx)
    | 2, 1, _, _ => exact fun e => n2e (by have e : some c2 = some x := e; rw [e]; exact hx)
  · match j, hj with
    | 0, _ => exact fun e => n10 (by injection e)
    | 1, _ => exact fun e => n20 (by injection e)
    | 2, _ => exact n0e
  obtain ⟨h32, x32⟩ := h31.permL (L' := [(b30, .row [.slice c1 0 t.length t.length ex1, .slice c2 0 t.length t.length ex2, vin]), (c2, .row (cellsOfBytes t)), (c1, .row (cellsOfBytes t)), e0] ++ [(S, .row (segC D [115] bv ev false)), (ef, eo)])
    (.cons _ (.cons _ (.cons _ (List.perm_append_comm (l₁ := [(S, Ob.row (segC D [115] bv ev false)), (ef, eo)]) (l₂ := [e0])))))
  obtain ⟨h33, x33⟩ := h32.spoilM s33 m33 fun c hc hnc => g33 c hc fun j hj => by
    match j, hj with
    | 0, _ => exact fun e => hnc (by injection e with e; rw [← e]; exact ids_mem (p := (c1, .row (cellsOfBytes t))) (nth_mem (i := 2) rfl) rfl)
    | 1, _ => exact fun e => hnc (by injection e with e; rw [← e]; exact ids_mem (p := (c2, .row (cellsOfBytes t))) (nth_mem (i := 1) rfl) rfl)
    | 2, _ =>
      intro e
      obtain ⟨q1, q2⟩ := hbk c e
      exact hnc (by rw [← q1]; exact ids_mem (p := e0) (nth_mem (i := 3) rfl) q2)
  have xx := ((x16.trans x20).trans x31).trans (x32.trans x33)
  refine ⟨_, rfl, ifT_f ?_⟩
  refine rd1 0 _ h33 rfl rfl (hbs.x xx) fun c3 ex3 w36 f36 g3 bx3 hx3 => ⟨_, _, rfl, ?_⟩
  obtain ⟨h36, x36⟩ := h33.push f36 bx3 g3
  have o3 := h36.ow.box (c3, .row (cellsOfBytes t)) (nth_mem (i := 6) rfl) rfl
  refine ifT_t (s20 hh (bsl o3.1 o3.2.2.2 hx3).rs ((hb12.x xx).x x36).rsB ⟨_, rfl, ?_⟩)
  rw [show (t == t) = true by simp]
  exact ifT_t (Cl_hook (hh.awake _) ⟨_, rfl, rfl⟩)
end
end Go.Proofs.Ytdlogcincelccaa
