/-
  A segment's calls, over memory (the first part).
  No condition beyond those that each theorem names.
-/
import Derived.Test.YthpjoogmmjikmaaGreatDoorB10
set_option linter.unusedSimpArgs false
open Go.Sx
set_option linter.unusedVariables false
set_option linter.unusedSimpArgs false
namespace Go.Proofs.YthpjoogmmjikmaaGreatDoor
def segC (D : Nat) (nm : Byts) (bv ev : AV) (br : Bool) : List AV := [.ptr D 0, .str nm, bv, ev, .bool br]
def puts (nm b : Byts) : Nat → Nat → Dsk → Dsk × Int
  | 0, _, d => (d, 0)
  | m + 1, i, d => if (d.put nm i (sector b i)).2 ≠ 0 then d.put nm i (sector b i) else puts nm b m (i + 1) (d.put nm i (sector b i)).1
def nsec (b : Byts) : Nat := (b.length + 61) / 62
theorem take_one {w : AW} {d : Nat} (h : w.get d = some .deferred) : takeAll w [d] = some (w.set d .gone) := by simp only [takeAll]; rw [h]
theorem loop_of {w : AW} {l : Nat} {r : LoopA} (h : w.get l = some (LoopA.ob r)) : loopAt w l = some r := by unfold loopAt; rw [h]; rfl
theorem ob_no {r : LoopA} : ∀ cs f own d, LoopA.ob r ≠ .cells cs f own d := fun _ _ _ _ h => by unfold LoopA.ob at h; cases h
theorem busy_no {r : LoopA} : ∀ cs f own d, busyOb r ≠ .cells cs f own d := fun _ _ _ _ h => ob_no _ _ _ _ h
theorem ready_eq {R0 : LoopA} (h1 : R0.st = .ready) (h2 : R0.pending = none) : ({ ({ R0 with st := .busy } : LoopA) with st := if (jumpOf .normal).isNone then .ready else .done, pending := jumpOf .normal } : LoopA) = R0 := by
  obtain ⟨a, b, c, d, e, f, g, i⟩ := R0
  simp only at h1 h2
  subst h1; subst h2; rfl
section
variable {hk : Hook} {A B : Nat → Prop} {I : List Nat} {w0 w w' : AW} {D S : Nat} {i i' : DI} {d d' : Dsk} {k k' : Nat} {L L' : Obs} {K : AV → AW → Prop} {nm bs : Byts} {es : List Int} {bv ev : AV} {br : Bool}
set_option maxRecDepth 20000 in
theorem s83 (hh : HK hk) (h0 : ld w S 0 = some (.ptr D 0)) (h4 : ld w S 4 = some (.bool br)) (hK : K (.int .i64 (if br then 4 else 0)) w) : Cl Tryz.prog hk 83 [.ptr S 0] w K := by
  apply in83 (hh.no _ _ _ (by decide) (by decide))
  unfold F83
  refine ⟨false, by kernel_rfl, ifT_f ?_⟩
  simp only [onP]
  refine onM_s (v := .ptr D 0) h0 ⟨false, by kernel_rfl, ifT_f ⟨br, h4, ?_⟩⟩
  cases br
  · exact ifT_f hK
  · exact ifT_t hK
theorem s84 {e : Int} (hh : HK hk) (h0 : e = 0 → K (.int .i64 0) w) (h1 : e ≠ 0 → onM (w.putCells S 4 [.bool true]) fun w' => K (.int .i64 e) w') : Cl Tryz.prog hk 84 [.ptr S 0, .int .i64 e] w K := by
  apply in84 (hh.no _ _ _ (by decide) (by decide))
  unfold F84
  refine ifT_nd (fun h => ?_) fun h => ?_
  · simp only [onP, Nat.zero_add]; exact h1 h
  · subst h; exact h0 rfl
theorem s87 {v : AV} {fr : Int} (hh : HK hk) (h : Dk A I w0 w D i d k L) (hv : okCell v = true) (hK : ∀ c1 c2 w', Dk A I w0 w' D i d k ((c1, .row [.int .i64 fr]) :: (c2, .row [v]) :: L) → Xt (dkU D i L) w (dkU D i ((c1, .row [.int .i64 fr]) :: (c2, .row [v]) :: L)) w' → K (.func 128 [] [.ptr c1 0, .ptr c2 0]) w') : Cl Tryz.prog hk 87 [v, .int .i64 fr] w K := by
  apply in87 (hh.no _ _ _ (by decide) (by decide))
  unfold F87
  exact gd_t hv (h.new' fun c2 w3 h3 x3 => h3.new' fun c1 w5 h5 x5 => hK c1 c2 w5 h5 (x3.trans x5))
theorem rd_any {w : AW} {v : AV} {s : Byts} {U : List Nat} {n : Nat} (h : (rL rU).rd (fun c => n ≤ c) w [v] s) (hU : ∀ c ∈ U, c < n) : (rL rU).rd (fz (fun _ => True) U) w [v] s :=
  h.xa ⟨fun c f all a b e => ⟨⟨trivial, fun hx => by have := hU c hx; omega⟩, ⟨trivial, fun hx => by have := hU f hx; omega⟩, e⟩⟩
set_option maxRecDepth 20000 in
theorem s50 {body : Byts} {dv : AV} {ef : Nat} {eo : Ob} (hh : HK hk) (h : Dk A [] w0 w D i d k ((S, .row (segC D nm bv ev false)) :: (ef, eo) :: L)) (hbs : (rL rU).rd (fz A (dkU D i ((S, .row (segC D nm bv ev false)) :: (ef, eo) :: L))) w [bv] bs)
    (hes : Sv 1 eo ev (es.map (AV.int .i64))) (hd : ∀ (w' : AW) (b2 b4 b6 : Nat), Dk A [] w0 w' D i d k ((b6, .row [.int .i64 0]) :: (b4, .row [.int .i64 0]) :: (b2, .row [.ptr S 0]) :: (S, .row (segC D nm bv ev false)) :: (ef, eo) :: L) → Xt (dkU D i ((S, .row (segC D nm bv ev false)) :: (ef, eo) :: L)) w (dkU D i ((b6, .row [.int .i64 0]) :: (b4, .row [.int .i64 0]) :: (b2, .row [.ptr S 0]) :: (S, .row (segC D nm bv ev false)) :: (ef, eo) :: L)) w' → RsB w' dv body) (hbl : body.length ≤ 65536) (hfull : bs.length + (4 + body.length) ≤ 253952) (hel : es.length < 2 ^ 26) (hkk : k + 10000 < 2 ^ 27)
    (hK : (puts nm (bs ++ frame body) (nsec (bs ++ frame body) - bs.length / 62) (bs.length / 62) d).2 = 0 → ∀ i' w' bv' ev' ef' eo', Dk A [] w0 w' D i' (puts nm (bs ++ frame body) (nsec (bs ++ frame body) - bs.length / 62) (bs.length / 62) d).1 (k + 10000) ((S, .row (segC D nm bv' ev' false)) :: (ef', eo') :: L) →
      Xt (dkU D i ((S, .row (segC D nm bv ev false)) :: (ef, eo) :: L)) w (dkU D i' ((S, .row (segC D nm bv' ev' false)) :: (ef', eo') :: L)) w' →
      (rL rU).rd (fz A (dkU D i' ((S, .row (segC D nm bv' ev' false)) :: (ef', eo') :: L))) w' [bv'] (bs ++ frame body) → Sv 1 eo' ev' ((es ++ [((bs ++ frame body).length : Int)]).map (AV.int .i64)) → K (.tup [.int .i64 es.length, .int .i64 0]) w')
    (hE : (puts nm (bs ++ frame body) (nsec (bs ++ frame body) - bs.length / 62) (bs.length / 62) d).2 ≠ 0 → ∀ i' w', Dk A [] w0 w' D i' (puts nm (bs ++ frame body) (nsec (bs ++ frame body) - bs.length / 62) (bs.length / 62) d).1 (k + 10000) ((S, .row (segC D nm bv ev true)) :: (ef, eo) :: L) →
      Xt (dkU D i ((S, .row (segC D nm bv ev false)) :: (ef, eo) :: L)) w (dkU D i' ((S, .row (segC D nm bv ev true)) :: (ef, eo) :: L)) w' → K (.tup [.int .i64 0, .int .i64 (puts nm (bs ++ frame body) (nsec (bs ++ frame body) - bs.length / 62) (bs.length / 62) d).2]) w') :
    Cl Tryz.prog hk 50 [.ptr S 0, dv] w K := by
  apply in50 (hh.no _ _ _ (by decide) (by decide))
  unfold F50
  have hfl := frame_length body
  have hal : (bs ++ frame body).length = bs.length + (4 + body.length) := by rw [List.length_append, hfl]
  refine gd_t rfl (h.new' fun b2 w3 h3 x3 => h3.new' fun b4 w5 h5 x5 => h5.new' fun b6 w7 h7 x7 => ?_)
  have x07 := (x3.trans x5).trans x7
  refine onM_s (v := .ptr S 0) (h7.ow.ld 8 rfl rfl) ?_
  refine s83 (D := D) (br := false) hh (h7.ow.ld 9 rfl rfl) (h7.ow.ld 9 rfl rfl) ⟨0, rfl, ifT_f ?_⟩
  refine s85 hh h7.ow.P (hd w7 b2 b4 b6 h7 x07) hbl fun v18 w17 f17 hg17 => ⟨_, _, rfl, ifT_f ?_⟩
  obtain ⟨h17, x17⟩ := h7.fr f17
  have hfr17 := hg17.rd (by decide)
  refine onM_s (v := .ptr S 0) (h17.ow.ld 8 rfl rfl) ?_
  simp only [onP]
  have x017 := x07.trans x17
  refine onM_s (v := bv) (h17.ow.ld 9 rfl rfl) ⟨_, hbs.len', _, hfr17.len', ?_⟩
  rw [hfl]
  refine ifT_d (fun hc => ?_) fun _ => ?_
  · rw [wi_eq (by omega) (by omega)] at hc; omega
  refine onM_s (v := .ptr S 0) (h17.ow.ld 8 rfl rfl) ?_
  simp only [onP]
  refine onM_s (v := bv) (h17.ow.ld 9 rfl rfl) (gd_t hbs.ok1 (gd_t hfr17.ok1 (h17.new' fun b38 w39 h39 x39 => ?_)))
  have x039 := x017.trans x39
  have hb38 : Box w39 b38 [bv, v18] := (h39.ow.box (b38, .row [bv, v18]) (nth_mem (i := 6) rfl) rfl).1
  refine s86 hh h39.ow.P hb38 (hbs.x x039).rsB (hfr17.x x39).rsB (by rw [hfl]; omega) (by rw [hfl]; omega) fun w41 f41 hbAB => ?_
  obtain ⟨h41, x41⟩ := h39.push f41 hbAB (Nat.le_refl _)
  have x041 := x039.trans x41
  refine onM_s (v := .ptr S 0) (h41.ow.ld 10 rfl rfl) ?_
  simp only [onP]
  refine onM_s (v := bv) (h41.ow.ld 11 rfl rfl) ⟨_, hbs.len', ?_⟩
  have efr : wi (Int.tdiv ((bs.length : Nat) : Int) 62) = ((bs.length / 62 : Nat) : Int) := by
    rw [show Int.tdiv ((bs.length : Nat) : Int) 62 = ((bs.length / 62 : Nat) : Int) from rfl, wi_eq (by omega) (by omega)]
  rw [efr]
  refine s87 hh h41 rfl fun c1 c2 w48 h48 x48 => ?_
  have x048 := x041.trans x48
  generalize hfrn : bs.length / 62 = fr at *
  generalize hall : bs ++ frame body = all at *
  have hnl : nsec all ≤ 4096 := by unfold nsec; omega
  have hfn : fr ≤ nsec all := by unfold nsec; omega
  have hm48 := h48.ow.mem
  intro R0 hst hpend hY
  obtain ⟨h49, x49⟩ := h48.pushObj (o := .deferred) (fun _ _ _ _ h => by cases h)
  obtain ⟨h50, x50⟩ := h49.pushObj (o := LoopA.ob R0) ob_no
  rw [show (w48.push .deferred).size = w48.size + 1 from rfl] at h50 x50
  have x050 := (x048.trans x49).trans x50
  show Cl Tryz.prog hk 128 [.yield (w48.size + 1), .ptr c1 0, .ptr c2 0] _ _
  let LM : AO → Bool → Obs := fun o e => (w48.size + 1, .obj o) :: (w48.size, .obj .deferred) :: (c1, .row [.int .i64 (fr : Int)]) :: (c2, .row [.slice w39.size 0 all.length all.length (some 1)]) :: (w39.size, .row (cellsOfBytes all)) :: (b38, .row [bv, v18]) :: (b6, .row [.int .i64 0]) :: (b4, .row [.int .i64 0]) :: (b2, .row [.ptr S 0]) :: (S, .row (segC D nm bv ev e)) :: (ef, eo) :: L
  have hc1 : Box ((w48.push .deferred).push (LoopA.ob R0)) c1 [.int .i64 (fr : Int)] := (h50.ow.box (c1, _) (nth_mem (i := 8) rfl) rfl).1
  refine s128 (fr := fr) (b := all) (bv := .slice w39.size 0 all.length all.length (some 1)) hh (fun j wx => ∃ i' d', Dk A [] w0 wx D i' d' (k + 2 * (j - fr)) (LM (LoopA.ob R0) false) ∧ Xt (dkU D i ((S, .row (segC D nm bv ev false)) :: (ef, eo) :: L)) w (dkU D i' (LM (LoopA.ob R0) false)) wx ∧ fr ≤ j ∧ j ≤ nsec all ∧ puts nm all (nsec all - fr) fr d = puts nm all (nsec all - j) j d')
    (fun j wx ⟨i', d', hdk, _⟩ => ⟨hdk.ow.mem, hdk.ow.P0.pos, (hdk.ow.box (c2, _) (nth_mem (i := 9) rfl) rfl).1, Box.sl (hdk.ow.box (w39.size, .row (cellsOfBytes all)) (nth_mem (i := 10) rfl) rfl).1 trivial rfl (Chk.bytes.2 rfl)⟩)
    hc1 ⟨i, d, by rw [Nat.sub_self]; exact h50, x050, Nat.le_refl _, hfn, rfl⟩ (by omega) (by omega) ?_ ?_
  · rintro j wj wj' xv ⟨i', d', hdk, hx, hj1, hj2, hpe⟩ hlt hf hg
    have hjn : j < nsec all := by unfold nsec; omega
    obtain ⟨m, hm⟩ : ∃ m, nsec all - j = m + 1 := ⟨nsec all - j - 1, by omega⟩
    rw [hm] at hpe
    have hpe' : puts nm all (nsec all - fr) fr d = if (d'.put nm j (sector all j)).2 ≠ 0 then d'.put nm j (sector all j) else puts nm all m (j + 1) (d'.put nm j (sector all j)).1 := hpe
    obtain ⟨hk', xk⟩ := hdk.fr hf
    have hrd := rd_any (U := dkU D i' (LM (LoopA.ob R0) false)) (hg.rd (by decide)) fun c hc => hdk.ow.ids_lt hc
    have hl' : loopAt wj' (w48.size + 1) = some R0 := loop_of (hk'.ow.box (w48.size + 1, .obj (LoopA.ob R0)) (nth_mem (i := 6) rfl) rfl).1.1
    refine hY _ _ wj' _ hl' ⟨hl', fun wb hwb => ?_⟩
    subst hwb
    obtain ⟨hb, xb⟩ := hk'.setObj 0 (o2 := busyOb R0) rfl busy_no
    have hb : Dk A [] w0 _ D i' d' (k + 2 * (j - fr)) (LM (busyOb R0) false) := hb
    refine onM_s (v := .ptr S 0) (hb.ow.ld 14 rfl rfl) (onM_s (v := .ptr S 0) (hb.ow.ld 14 rfl rfl) ?_)
    simp only [onP]
    refine onM_s (v := .ptr D 0) (hb.ow.ld 15 rfl rfl) (onM_s (v := .ptr S 0) (hb.ow.ld 14 rfl rfl) ?_)
    simp only [onP]
    refine ⟨nm, hb.ow.ld 15 rfl rfl, ?_⟩
    refine s29 hh hb (by omega) (hrd.x xb).rsB ?_
    intro i2 w65 h65 x65
    have xx := ((hx.trans xk).trans xb).trans x65
    refine ⟨_, rfl, h65.ow.ld 14 rfl rfl, ?_⟩
    refine s84 hh (fun he => ⟨0, rfl, ifT_f ?_⟩) fun he => ?_
    · rw [if_neg (by simpa using he)] at hpe'
      refine ⟨{ R0 with st := .busy }, loop_of (h65.ow.box (w48.size + 1, .obj (busyOb R0)) (nth_mem (i := 6) rfl) rfl).1.1, .inl ⟨rfl, ?_⟩⟩
      rw [ready_eq hst hpend]
      obtain ⟨h66, x66⟩ := h65.setObj 0 (o2 := LoopA.ob R0) rfl ob_no
      exact ⟨i2, _, by rw [show k + 2 * (j + 1 - fr) = k + 2 * (j - fr) + 2 by omega]; exact h66, xx.trans x66, by omega, by omega, by rw [hpe', show nsec all - (j + 1) = m by omega]⟩
    · rw [if_pos he] at hpe'
      rw [hpe'] at hE
      refine h65.wr 9 rfl (by simp [segC]) fun w4' h66 x66 => ⟨_, rfl, ifT_nd (fun _ => ?_) fun h => absurd h he⟩
      refine h66.wr 7 rfl (by simp) fun w70 h70 x70 => h70.wr 6 rfl (by simp) fun w71 h71 x71 => ?_
      refine ⟨{ R0 with st := .busy }, loop_of (h71.ow.box (w48.size + 1, .obj (busyOb R0)) (nth_mem (i := 6) rfl) rfl).1.1, .inr ⟨rfl, ?_⟩⟩
      obtain ⟨h72, x72⟩ := h71.setObj 0 (o2 := LoopA.ob { ({ R0 with st := .busy } : LoopA) with st := .done, pending := some .ret }) rfl ob_no
      refine ⟨_, loop_of (h72.ow.box (w48.size + 1, .obj _) (nth_mem (i := 6) rfl) rfl).1.1, by simp, ?_⟩
      obtain ⟨h73, x73⟩ := h72.setObj 0 (o2 := LoopA.ob { ({ ({ R0 with st := .busy } : LoopA) with st := .done, pending := some .ret } : LoopA) with st := .exhausted }) rfl ob_no
      have hdd := (h73.ow.box (w48.size, .obj .deferred) (nth_mem (i := 7) rfl) rfl).1.1
      obtain ⟨h74, x74⟩ := h73.setObj 1 (o2 := .gone) rfl (fun _ _ _ _ h => by cases h)
      refine onM_s (take_one hdd) ⟨0, h74.ow.ld 13 rfl rfl, _, h74.ow.ld 12 rfl rfl, ?_⟩
      obtain ⟨h75, x75, _⟩ := h74.drop
      obtain ⟨h76, x76, _⟩ := h75.drop
      obtain ⟨h77, x77, _⟩ := h76.drop
      obtain ⟨h78, x78, _⟩ := h77.drop
      obtain ⟨h79, x79, _⟩ := h78.drop
      obtain ⟨h80, x80, _⟩ := h79.drop
      obtain ⟨h81, x81, _⟩ := h80.drop
      obtain ⟨h82, x82, _⟩ := h81.drop
      obtain ⟨h83, x83, _⟩ := h82.drop
      have y1 := (((((xx.trans x66).trans x70).trans x71).trans x72).trans x73).trans x74
      have y2 := (((((((x75.trans x76).trans x77).trans x78).trans x79).trans x80).trans x81).trans x82).trans x83
      exact hE he i2 _ (h83.le (by omega) hkk) (y1.trans y2)
  · rintro j wj ⟨i', d', hdk, hx, hj1, hj2, hpe⟩ hge hor
    obtain rfl : j = nsec all := by unfold nsec at hj2 ⊢; omega
    rw [Nat.sub_self] at hpe
    have hpe : puts nm all (nsec all - fr) fr d = (d', 0) := hpe
    rw [hpe] at hK
    refine ⟨R0, loop_of (hdk.ow.box (w48.size + 1, .obj (LoopA.ob R0)) (nth_mem (i := 6) rfl) rfl).1.1, by rw [hst]; simp, ?_⟩
    rw [hpend]
    obtain ⟨h51, x51⟩ := hdk.setObj 0 (o2 := LoopA.ob { R0 with st := .exhausted, pending := none }) rfl ob_no
    refine onM_s (v := .ptr S 0) (h51.ow.ld 14 rfl rfl) (onM_s (v := .ptr S 0) (h51.ow.ld 14 rfl rfl) (onM_s (v := .ptr S 0) (h51.ow.ld 14 rfl rfl) ?_))
    simp only [onP]
    refine onM_s (v := ev) (h51.ow.ld 15 rfl rfl) ⟨_, rfl, h51.new' fun b80 w81 h81 x81 => ⟨h81.ow.ld 16 rfl rfl, h81.ow.ld 15 rfl rfl, h81.ow.ld 15 rfl rfl, h81.ow.ld 15 rfl rfl, ?_⟩⟩
    have hb80 : Box w81 b80 [.int .i64 (all.length : Int)] := (h81.ow.box (b80, .row [.int .i64 (all.length : Int)]) (nth_mem (i := 6) rfl) rfl).1
    have hml : (es.map (AV.int .i64)).length = es.length := List.length_map _
    refine h81.accL 11 rfl hes (by decide) (hb80.rs rfl) (by rw [hml]; omega) (by rw [hml]; omega) fun ev' ef' eo' w83 h83 x83 hes' => ⟨h83.ow.ld 15 rfl rfl, h83.ow.ld 15 rfl rfl, ?_⟩
    refine gd_t rfl (h83.wr 10 rfl (by simp [segC]) fun w86 h86 x86 => ⟨h86.ow.ld 15 rfl rfl, ?_⟩)
    refine gd_t hes'.ok (h86.wr 10 rfl (by simp [segC, listPut]) fun w89 h89 x89 => ?_)
    refine onM_s (v := .ptr S 0) (h89.ow.ld 15 rfl rfl) ?_
    simp only [onP]
    have hes2 : Sv 1 eo' ev' ((es ++ [(all.length : Int)]).map (AV.int .i64)) := by rw [List.map_append]; exact hes'
    have hrs := h89.ow.sv (i := 17) (f := ef') (o := eo') rfl hes2 (by decide) (k := es.length + 1) (by simp)
    refine onM_s (v := ev') (h89.ow.ld 16 rfl rfl) ⟨_, hrs.len, ?_⟩
    rw [show wi (((es.length + 1 : Nat) : Int) - 1) = ((es.length : Nat) : Int) by rw [wi_eq (by omega) (by omega)]; omega]
    refine h89.wr 8 rfl (by simp) fun w95 h95 x95 => h95.wr 7 rfl (by simp) fun w96 h96 x96 => ?_
    have hdd := (h96.ow.box (w48.size, .obj .deferred) (nth_mem (i := 8) rfl) rfl).1.1
    obtain ⟨h97, x97⟩ := h96.setObj 2 (o2 := .gone) rfl (fun _ _ _ _ h => by cases h)
    refine onM_s (take_one hdd) ⟨_, h97.ow.ld 14 rfl rfl, 0, h97.ow.ld 13 rfl rfl, ?_⟩
    obtain ⟨h98, x98, _⟩ := h97.drop
    obtain ⟨h99, x99, _⟩ := h98.drop
    obtain ⟨h100, x100, _⟩ := h99.drop
    obtain ⟨h101, x101, _⟩ := h100.drop
    obtain ⟨h102, x102, _⟩ := h101.drop
    obtain ⟨h103, x103, hA, hbx⟩ := h102.drop
    obtain ⟨h104, x104, _⟩ := h103.drop
    obtain ⟨h105, x105, _⟩ := h104.drop
    obtain ⟨h106, x106, _⟩ := h105.drop
    obtain ⟨h107, x107, _⟩ := h106.drop
    have hbx : Box _ w39.size (cellsOfBytes all) := hbx
    have hrd := (Box.sl (r := rU) (n := all.length) (cap := all.length) (ex := some 1) hbx hA rfl (Chk.bytes.2 rfl)).x (((x104.trans x105).trans x106).trans x107)
    have y1 := ((((((((hx.trans x51).trans x81).trans x83).trans x86).trans x89).trans x95).trans x96).trans x97).trans x98
    have y2 := ((((((((x99.trans x100).trans x101).trans x102).trans x103).trans x104).trans x105).trans x106).trans x107)
    exact hK rfl i' _ _ ev' ef' eo' (h107.le (by omega) hkk) (y1.trans y2) hrd hes2
end
end Go.Proofs.YthpjoogmmjikmaaGreatDoor
