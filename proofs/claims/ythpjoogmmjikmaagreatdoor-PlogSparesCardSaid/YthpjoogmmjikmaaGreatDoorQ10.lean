/-
  A segment's trim, over memory.
  No condition beyond those that each theorem names.
-/
import Derived.Test.YthpjoogmmjikmaaGreatDoorT10
set_option linter.unusedSimpArgs false
open Go.Sx
set_option linter.unusedVariables false
set_option linter.unusedSimpArgs false
namespace Go.Proofs.YthpjoogmmjikmaaGreatDoor
def trimD (nm b : Byts) (d : Dsk) : Dsk × Int :=
  if (puts nm b (nsec b - b.length / 62) (b.length / 62) d).2 ≠ 0 then puts nm b (nsec b - b.length / 62) (b.length / 62) d else
  if ((puts nm b (nsec b - b.length / 62) (b.length / 62) d).1.cut nm (nsec b)).2 ≠ 0 then (puts nm b (nsec b - b.length / 62) (b.length / 62) d).1.cut nm (nsec b) else
  ((puts nm b (nsec b - b.length / 62) (b.length / 62) d).1.cut nm (nsec b)).1.sync nm
section
variable {hk : Hook} {A B : Nat → Prop} {I : List Nat} {w0 w w' : AW} {D S : Nat} {i i' : DI} {d d' : Dsk} {k k' : Nat} {L L' : Obs} {K : AV → AW → Prop} {nm bs : Byts} {es : List Int} {bv ev : AV} {br : Bool} {ef : Nat} {eo : Ob}
set_option maxRecDepth 20000 in
theorem s81 (hh : HK hk) (h : Dk A [] w0 w D i d k ((S, .row (segC D nm bv ev false)) :: L)) (hbs : (rL rU).rd (fz A (dkU D i ((S, .row (segC D nm bv ev false)) :: L))) w [bv] bs)
    (hl : bs.length ≤ 253952) (hkk : k + 10000 < 2 ^ 27)
    (hK : ∀ i' w', Dk A [] w0 w' D i' (trimD nm bs d).1 (k + 10000) ((S, .row (segC D nm bv ev (decide ((trimD nm bs d).2 ≠ 0)))) :: L) →
      Xt (dkU D i ((S, .row (segC D nm bv ev false)) :: L)) w (dkU D i' ((S, .row (segC D nm bv ev (decide ((trimD nm bs d).2 ≠ 0)))) :: L)) w' → K (.int .i64 (trimD nm bs d).2) w') :
    Cl Tryz.prog hk 81 [.ptr S 0] w K := by
  apply in81 (hh.no _ _ _ (by decide) (by decide))
  unfold F81
  refine gd_t rfl (h.new' fun b1 w2 h2 x2 => h2.new' fun b3 w4 h4 x4 => ?_)
  refine onM_s (v := .ptr S 0) (h4.ow.ld 7 rfl rfl) ?_
  simp only [onP]
  refine onM_s (v := bv) (h4.ow.ld 8 rfl rfl) ⟨_, hbs.len', h4.new' fun b10 w11 h11 x11 => ?_⟩
  have efr : wi (Int.tdiv ((bs.length : Nat) : Int) 62) = ((bs.length / 62 : Nat) : Int) := by
    rw [show Int.tdiv ((bs.length : Nat) : Int) 62 = ((bs.length / 62 : Nat) : Int) from rfl, wi_eq (by omega) (by omega)]
  rw [efr]
  refine h11.wr 0 rfl (by simp) fun w12 h12 x12 => ?_
  refine onM_s (v := .ptr S 0) (h12.ow.ld 8 rfl rfl) ?_
  simp only [onP]
  refine onM_s (v := bv) (h12.ow.ld 9 rfl rfl) ?_
  refine s87 hh h12 hbs.ok1 fun c1 c2 w48 h48 x48 => ?_
  have x048 := (((x2.trans x4).trans x11).trans x12).trans x48
  unfold trimD at hK
  generalize hfrn : bs.length / 62 = fr at *
  have hnl : nsec bs ≤ 4096 := by unfold nsec; omega
  have hfn : fr ≤ nsec bs := by unfold nsec; omega
  intro R0 hst hpend hY
  obtain ⟨h49, x49⟩ := h48.pushObj (o := .deferred) (fun _ _ _ _ h => by cases h)
  obtain ⟨h50, x50⟩ := h49.pushObj (o := LoopA.ob R0) ob_no
  rw [show (w48.push .deferred).size = w48.size + 1 from rfl] at h50 x50
  have x050 := (x048.trans x49).trans x50
  show Cl Tryz.prog hk 128 [.yield (w48.size + 1), .ptr c1 0, .ptr c2 0] _ _
  let LM : AO → Bool → Nat → Obs := fun o e j => (w48.size + 1, .obj o) :: (w48.size, .obj .deferred) :: (c1, .row [.int .i64 (fr : Int)]) :: (c2, .row [bv]) :: (b10, .row [.int .i64 (j : Int)]) :: (b3, .row [.int .i64 0]) :: (b1, .row [.ptr S 0]) :: (S, .row (segC D nm bv ev e)) :: L
  have hc1 : Box ((w48.push .deferred).push (LoopA.ob R0)) c1 [.int .i64 (fr : Int)] := (h50.ow.box (c1, _) (nth_mem (i := 8) rfl) rfl).1
  refine s128 (fr := fr) (b := bs) (bv := bv) hh (fun j wx => ∃ i' d', Dk A [] w0 wx D i' d' (k + 2 * (j - fr)) (LM (LoopA.ob R0) false j) ∧ Xt (dkU D i ((S, .row (segC D nm bv ev false)) :: L)) w (dkU D i' (LM (LoopA.ob R0) false j)) wx ∧ fr ≤ j ∧ j ≤ nsec bs ∧ puts nm bs (nsec bs - fr) fr d = puts nm bs (nsec bs - j) j d')
    (fun j wx ⟨i', d', hdk, hx, _⟩ => ⟨hdk.ow.mem, hdk.ow.P0.pos, (hdk.ow.box (c2, _) (nth_mem (i := 9) rfl) rfl).1, (hbs.x hx).xa ⟨fun c f all _ _ e => ⟨trivial, trivial, e⟩⟩⟩)
    hc1 ⟨i, d, by rw [Nat.sub_self]; exact h50, x050, Nat.le_refl _, hfn, rfl⟩ (by omega) (by omega) ?_ ?_
  · rintro j wj wj' xv ⟨i', d', hdk, hx, hj1, hj2, hpe⟩ hlt hf hg
    have hjn : j < nsec bs := by unfold nsec; omega
    obtain ⟨m, hm⟩ : ∃ m, nsec bs - j = m + 1 := ⟨nsec bs - j - 1, by omega⟩
    rw [hm] at hpe
    have hpe' : puts nm bs (nsec bs - fr) fr d = if (d'.put nm j (sector bs j)).2 ≠ 0 then d'.put nm j (sector bs j) else puts nm bs m (j + 1) (d'.put nm j (sector bs j)).1 := hpe
    obtain ⟨hk', xk⟩ := hdk.fr hf
    have hrd := rd_any (U := dkU D i' (LM (LoopA.ob R0) false j)) (hg.rd (by decide)) fun c hc => hdk.ow.ids_lt hc
    have hl' : loopAt wj' (w48.size + 1) = some R0 := loop_of (hk'.ow.box (w48.size + 1, .obj (LoopA.ob R0)) (nth_mem (i := 6) rfl) rfl).1.1
    refine hY _ _ wj' _ hl' ⟨hl', fun wb hwb => ?_⟩
    subst hwb
    obtain ⟨hb, xb⟩ := hk'.setObj 0 (o2 := busyOb R0) rfl busy_no
    have hb : Dk A [] w0 _ D i' d' (k + 2 * (j - fr)) (LM (busyOb R0) false j) := hb
    refine onM_s (v := .ptr S 0) (hb.ow.ld 12 rfl rfl) (onM_s (v := .ptr S 0) (hb.ow.ld 12 rfl rfl) ?_)
    simp only [onP]
    refine onM_s (v := .ptr D 0) (hb.ow.ld 13 rfl rfl) (onM_s (v := .ptr S 0) (hb.ow.ld 12 rfl rfl) ?_)
    simp only [onP]
    refine ⟨nm, hb.ow.ld 13 rfl rfl, ?_⟩
    refine s29 hh hb (by omega) (hrd.x xb).rsB ?_
    intro i2 w65 h65 x65
    have xx := ((hx.trans xk).trans xb).trans x65
    refine ⟨_, rfl, h65.ow.ld 12 rfl rfl, ?_⟩
    refine s84 hh (fun he => ⟨0, rfl, ifT_f ⟨_, h65.ow.ld 10 rfl rfl, ?_⟩⟩) fun he => ?_
    · rw [if_neg (by simpa using he)] at hpe'
      refine h65.wr 4 rfl (by simp) fun w42 h66 x66 => ?_
      refine ⟨{ R0 with st := .busy }, loop_of (h66.ow.box (w48.size + 1, .obj (busyOb R0)) (nth_mem (i := 6) rfl) rfl).1.1, .inl ⟨rfl, ?_⟩⟩
      rw [ready_eq hst hpend]
      obtain ⟨h67, x67⟩ := h66.setObj 0 (o2 := LoopA.ob R0) rfl ob_no
      have ej : wi ((j : Int) + 1) = ((j + 1 : Nat) : Int) := by rw [wi_eq (by omega) (by omega)]; push_cast; rfl
      rw [ej] at h67 x67 x66
      exact ⟨i2, _, by rw [show k + 2 * (j + 1 - fr) = k + 2 * (j - fr) + 2 by omega]; exact h67, (xx.trans x66).trans x67, by omega, by omega, by rw [hpe', show nsec bs - (j + 1) = m by omega]⟩
    · rw [if_pos he] at hpe'
      rw [hpe', if_pos he] at hK
      have edc : decide ((d'.put nm j (sector bs j)).2 ≠ 0) = true := by simpa using he
      rw [edc] at hK
      refine h65.wr 7 rfl (by simp [segC]) fun w4' h66 x66 => ⟨_, rfl, ifT_nd (fun _ => ?_) fun h => absurd h he⟩
      refine h66.wr 5 rfl (by simp) fun w71 h71 x71 => ?_
      refine ⟨{ R0 with st := .busy }, loop_of (h71.ow.box (w48.size + 1, .obj (busyOb R0)) (nth_mem (i := 6) rfl) rfl).1.1, .inr ⟨rfl, ?_⟩⟩
      obtain ⟨h72, x72⟩ := h71.setObj 0 (o2 := LoopA.ob { ({ R0 with st := .busy } : LoopA) with st := .done, pending := some .ret }) rfl ob_no
      refine ⟨_, loop_of (h72.ow.box (w48.size + 1, .obj _) (nth_mem (i := 6) rfl) rfl).1.1, by simp, ?_⟩
      obtain ⟨h73, x73⟩ := h72.setObj 0 (o2 := LoopA.ob { ({ ({ R0 with st := .busy } : LoopA) with st := .done, pending := some .ret } : LoopA) with st := .exhausted }) rfl ob_no
      have hdd := (h73.ow.box (w48.size, .obj .deferred) (nth_mem (i := 7) rfl) rfl).1.1
      obtain ⟨q0, x74⟩ := h73.setObj 1 (o2 := .gone) rfl (fun _ _ _ _ h => by cases h)
      refine onM_s (take_one hdd) ⟨_, q0.ow.ld 11 rfl rfl, ?_⟩
      obtain ⟨q1, yq1, _⟩ := q0.drop
      obtain ⟨q2, yq2, _⟩ := q1.drop
      obtain ⟨q3, yq3, _⟩ := q2.drop
      obtain ⟨q4, yq4, _⟩ := q3.drop
      obtain ⟨q5, yq5, _⟩ := q4.drop
      obtain ⟨q6, yq6, _⟩ := q5.drop
      obtain ⟨q7, yq7, _⟩ := q6.drop
      exact hK i2 _ (q7.le (by omega) hkk) ((((((xx.trans x66).trans x71).trans x72).trans x73).trans x74).trans ((((((yq1.trans yq2).trans yq3).trans yq4).trans yq5).trans yq6).trans yq7))
  · rintro j wj ⟨i', d', hdk, hx, hj1, hj2, hpe⟩ hge hor
    obtain rfl : j = nsec bs := by unfold nsec at hj2 ⊢; omega
    rw [Nat.sub_self] at hpe
    have hpe : puts nm bs (nsec bs - fr) fr d = (d', 0) := hpe
    rw [hpe, if_neg (by simp)] at hK
    refine ⟨R0, loop_of (hdk.ow.box (w48.size + 1, .obj (LoopA.ob R0)) (nth_mem (i := 6) rfl) rfl).1.1, by rw [hst]; simp, ?_⟩
    rw [hpend]
    obtain ⟨h51, x51⟩ := hdk.setObj 0 (o2 := LoopA.ob { R0 with st := .exhausted, pending := none }) rfl ob_no
    refine onM_s (v := .ptr S 0) (h51.ow.ld 12 rfl rfl) (onM_s (v := .ptr S 0) (h51.ow.ld 12 rfl rfl) ?_)
    simp only [onP]
    refine onM_s (v := .ptr D 0) (h51.ow.ld 13 rfl rfl) (onM_s (v := .ptr S 0) (h51.ow.ld 12 rfl rfl) ?_)
    simp only [onP]
    refine ⟨nm, h51.ow.ld 13 rfl rfl, _, h51.ow.ld 10 rfl rfl, ?_⟩
    refine s124 hh h51 (by omega) ?_
    intro i3 w55 h55 x55
    simp only [] at hK
    generalize hcu : d'.cut nm (nsec bs) = cu at *
    refine ⟨_, rfl, h55.ow.ld 12 rfl rfl, ?_⟩
    refine s84 hh (fun he => ⟨0, rfl, ifT_f ?_⟩) fun he => ?_
    · rw [if_neg (by simpa using he)] at hK
      refine onM_s (v := .ptr S 0) (h55.ow.ld 12 rfl rfl) (onM_s (v := .ptr S 0) (h55.ow.ld 12 rfl rfl) ?_)
      simp only [onP]
      refine onM_s (v := .ptr D 0) (h55.ow.ld 13 rfl rfl) (onM_s (v := .ptr S 0) (h55.ow.ld 12 rfl rfl) ?_)
      simp only [onP]
      refine ⟨nm, h55.ow.ld 13 rfl rfl, ?_⟩
      refine s37 hh h55 ?_
      intro i4 w73 h73 x73
      refine ⟨_, rfl, h73.ow.ld 12 rfl rfl, ?_⟩
      refine s84 hh (fun he2 => ⟨0, rfl, ?_⟩) fun he2 => ?_
      · rw [he2] at hK
        refine h73.wr 5 rfl (by simp) fun w78 h78 x78 => ?_
        have hdd := (h78.ow.box (w48.size, .obj .deferred) (nth_mem (i := 7) rfl) rfl).1.1
        obtain ⟨q0, x79⟩ := h78.setObj 1 (o2 := .gone) rfl (fun _ _ _ _ h => by cases h)
        refine onM_s (take_one hdd) ⟨_, q0.ow.ld 11 rfl rfl, ?_⟩
        obtain ⟨q1, yq1, _⟩ := q0.drop
        obtain ⟨q2, yq2, _⟩ := q1.drop
        obtain ⟨q3, yq3, _⟩ := q2.drop
        obtain ⟨q4, yq4, _⟩ := q3.drop
        obtain ⟨q5, yq5, _⟩ := q4.drop
        obtain ⟨q6, yq6, _⟩ := q5.drop
        obtain ⟨q7, yq7, _⟩ := q6.drop
        exact hK i4 _ (q7.le (by omega) hkk) ((((((hx.trans x51).trans x55).trans x73).trans x78).trans x79).trans ((((((yq1.trans yq2).trans yq3).trans yq4).trans yq5).trans yq6).trans yq7))
      · have edc : decide ((cu.1.sync nm).2 ≠ 0) = true := by simpa using he2
        rw [edc] at hK
        refine h73.wr 7 rfl (by simp [segC]) fun w76 h76 x76 => ⟨_, rfl, h76.wr 5 rfl (by simp) fun w78 h78 x78 => ?_⟩
        have hdd := (h78.ow.box (w48.size, .obj .deferred) (nth_mem (i := 7) rfl) rfl).1.1
        obtain ⟨q0, x79⟩ := h78.setObj 1 (o2 := .gone) rfl (fun _ _ _ _ h => by cases h)
        refine onM_s (take_one hdd) ⟨_, q0.ow.ld 11 rfl rfl, ?_⟩
        obtain ⟨q1, yq1, _⟩ := q0.drop
        obtain ⟨q2, yq2, _⟩ := q1.drop
        obtain ⟨q3, yq3, _⟩ := q2.drop
        obtain ⟨q4, yq4, _⟩ := q3.drop
        obtain ⟨q5, yq5, _⟩ := q4.drop
        obtain ⟨q6, yq6, _⟩ := q5.drop
        obtain ⟨q7, yq7, _⟩ := q6.drop
        exact hK i4 _ (q7.le (by omega) hkk) (((((((hx.trans x51).trans x55).trans x73).trans x76).trans x78).trans x79).trans ((((((yq1.trans yq2).trans yq3).trans yq4).trans yq5).trans yq6).trans yq7))
    · rw [if_pos he] at hK
      have edc : decide (cu.2 ≠ 0) = true := by simpa using he
      rw [edc] at hK
      refine h55.wr 7 rfl (by simp [segC]) fun w57 h57 x57 => ⟨_, rfl, ifT_nd (fun _ => ?_) fun h => absurd h he⟩
      refine h57.wr 5 rfl (by simp) fun w60 h60 x60 => ?_
      have hdd := (h60.ow.box (w48.size, .obj .deferred) (nth_mem (i := 7) rfl) rfl).1.1
      obtain ⟨q0, x79⟩ := h60.setObj 1 (o2 := .gone) rfl (fun _ _ _ _ h => by cases h)
      refine onM_s (take_one hdd) ⟨_, q0.ow.ld 11 rfl rfl, ?_⟩
      obtain ⟨q1, yq1, _⟩ := q0.drop
      obtain ⟨q2, yq2, _⟩ := q1.drop
      obtain ⟨q3, yq3, _⟩ := q2.drop
      obtain ⟨q4, yq4, _⟩ := q3.drop
      obtain ⟨q5, yq5, _⟩ := q4.drop
      obtain ⟨q6, yq6, _⟩ := q5.drop
      obtain ⟨q7, yq7, _⟩ := q6.drop
      exact hK i3 _ (q7.le (by omega) hkk) ((((((hx.trans x51).trans x55).trans x57).trans x60).trans x79).trans ((((((yq1.trans yq2).trans yq3).trans yq4).trans yq5).trans yq6).trans yq7))
end
end Go.Proofs.YthpjoogmmjikmaaGreatDoor
