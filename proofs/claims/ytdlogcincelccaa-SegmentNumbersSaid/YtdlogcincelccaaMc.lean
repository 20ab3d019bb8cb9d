/-
 A segment's trim, over memory.
 No condition beyond those that each theorem names.
-/
import Derived.Test.YtdlogcincelccaaMb
import Derived.Test.YtdlogcincelccaaSxu
import Derived.Test.YtdlogcincelccaaProg
import Derived.KernelRfl
set_option linter.unusedSimpArgs false
open Go.Sx
set_option linter.unusedVariables false
set_option linter.unusedSimpArgs false
namespace Go.Proofs.Ytdlogcincelccaa
def trimD (nm b : Byts) (d : Dsk) : Dsk × Int :=
 if (puts nm b (nsec b - b.length / 62) (b.length / 62) d).2 ≠ 0 then puts nm b (nsec b - b.length / 62) (b.length / 62) d else
 if ((puts nm b (nsec b - b.length / 62) (b.length / 62) d).1.cut nm (nsec b)).2 ≠ 0 then (puts nm b (nsec b - b.length / 62) (b.length / 62) d).1.cut nm (nsec b) else
 ((puts nm b (nsec b - b.length / 62) (b.length / 62) d).1.cut nm (nsec b)).1.sync nm
section
variable {hk : Hook} {A B : Nat → Prop} {I : List Nat} {w0 w w' : AW} {D S : Nat} {i i' : DI} {d d' : Dsk} {k k' : Nat} {L L' : Obs} {K : AV → AW → Prop} {nm bs : Byts} {es : List Int} {bv ev : AV} {br : Bool} {ef : Nat} {eo : Ob}
set_option maxRecDepth 20000 in
theorem s38 (hh : HK hk) (h : Dk A [] w0 w D i d k ((S, .row (segC D nm bv ev false)) :: L)) (hbs : (rL rU).rd (fz A (dkU D i ((S, .row (segC D nm bv ev false)) :: L))) w [bv] bs)
  (hl : bs.length ≤ 253952) (hkk : k + 10000 < 2 ^ 27)
  (hK : ∀ i' w', Dk A [] w0 w' D i' (trimD nm bs d).1 (k + 10000) ((S, .row (segC D nm bv ev (decide ((trimD nm bs d).2 ≠ 0)))) :: L) →
   Xt (dkU D i ((S, .row (segC D nm bv ev false)) :: L)) w (dkU D i' ((S, .row (segC D nm bv ev (decide ((trimD nm bs d).2 ≠ 0)))) :: L)) w' → K (.int .i64 (trimD nm bs d).2) w') :
  Cl Try.prog hk 38 [.ptr S 0] w K := by
 apply in38 (hh.no _ _ _ (by decide) (by decide))
 unfold F38
 refine gd_t rfl (h.new' fun b1 w2 h2 x2 => h2.new' fun b3 w4 h4 x4 => ?_)
 refine onM_s (v := .ptr S 0) (h4.ow.ld 7 rfl rfl) ?_
 simp only [onP]
 refine onM_s (v := bv) (h4.ow.ld 8 rfl rfl) ⟨_, hbs.len', h4.new' fun b10 w11 h11 x11 => ?_⟩
 have efr : wi (Int.tdiv ((bs.length : Nat) : Int) 62) = ((bs.length / 62 : Nat) : Int) := by
  rw [show Int.tdiv ((bs.length : Nat) : Int) 62 = ((bs.length / 62 : Nat) : Int) from rfl, wi_eq (by omega) (by omega)]
 rw [efr]
 refine h11.wr 0 rfl (by simp) fun w12 h12 x12 => ?_
 refine onM_s (v := .ptr S 0) (h12.ow.ld 8 rfl rfl) ?_
 simp only [onP]
 refine onM_s (v := bv) (h12.ow.ld 9 rfl rfl) ?_
 refine s42 hh h12 hbs.ok1 fun c1 c2 w48 h48 x48 => ?_
 have x048 := (((x2.trans x4).trans x11).trans x12).trans x48
 unfold trimD at hK
 generalize hfrn : bs.length / 62 = fr at *
 have hnl : nsec bs ≤ 4096 := by unfold nsec; omega
 have hfn : fr ≤ nsec bs := by unfold nsec; omega
 intro R0 hst hpend hY
 obtain ⟨h49, x49⟩ := h48.pushObj (o := .deferred) (fun _ _ _ _ h => by cases h)
 obtain ⟨h50, x50⟩ := h49.pushObj (o := LoopA.ob R0) ob_no
 rw [show (w48.push .deferred).size = w48.size + 1 from rfl] at h50 x50
 have x050 := (x048.trans x49).trans x50
 show Cl Try.prog hk 59 [.yield (w48.size + 1), .ptr c1 0, .ptr c2 0] _ _
 let LM : AO → Bool → Nat → Obs := fun o e j => (w48.size + 1, .obj o) :: (w48.size, .obj .deferred) :: (c1, .row [.int .i64 (fr : Int)]) :: (c2, .row [bv]) :: (b10, .row [.int .i64 (j : Int)]) :: (b3, .row [.int .i64 0]) :: (b1, .row [.ptr S 0]) :: (S, .row (segC D nm bv ev e)) :: L
 have hc1 : Box ((w48.push .deferred).push (LoopA.ob R0)) c1 [.int .i64 (fr : Int)] := (h50.ow.box (c1, _) (nth_mem (i := 8) rfl) rfl).1
 refine s59 (fr := fr) (b := bs) (bv := bv) hh (fun j wx => ∃ i' d', Dk A [] w0 wx D i' d' (k + 2 * (j - fr)) (LM (LoopA.ob R0) false j) ∧ Xt (dkU D i ((S, .row (segC D nm bv ev false)) :: L)) w (dkU D i' (LM (LoopA.ob R0) false j)) wx ∧ fr ≤ j ∧ j ≤ nsec bs ∧ puts nm bs (nsec bs - fr) fr d = puts nm bs (nsec bs - j) j d')
  (fun j wx ⟨i', d', hdk, hx, _⟩ => ⟨hdk.ow.mem, hdk.ow.P0.pos, (hdk.ow.box (c2, _) (nth_mem (i := 9) rfl) rfl).1, (hbs.x hx).xa ⟨fun c f all _ _ e => ⟨trivial, trivial, e⟩⟩⟩)
  hc1 ⟨i, d, by rw [Nat.sub_self]; exact h50, x050, Nat.le_refl _, hfn, rfl⟩ (by omega) (by omega) ?_ ?_
 ·rintro j wj wj' xv ⟨i', d', hdk, hx, hj1, hj2, hpe⟩ hlt hf hg
  have hjn : j < nsec bs := by unfold nsec; omega
  obtain ⟨m, hm⟩ : ∃ m, nsec bs - j = m + 1 := ⟨nsec bs - j - 1, by omega⟩
  rw [hm] at hpe
  have hpe' : puts nm bs (nsec bs - fr) fr d = if (d'.put nm j (sector bs j)).2 ≠ 0 then d'.put nm j (sector bs j) else puts nm bs m (j + 1) (d'.put nm j (sector bs j)).1 := hpe
  obtain ⟨hk', xk⟩ := hdk.fr hf
  have hrd := rd_any (U := dkU D i' (LM (LoopA.ob R0) false j)) (hg.rd (by decide)) fun c hc => hdk.ow.ids_lt hc
  have hl' : loopAt wj' (w48.size + 1) = some R0 := loop_of (hk'.ow.box (w48.size + 1, .obj (LoopA.ob R0)) (nth_mem (i := 6) rfl) rfl).1.1
  refine hY _ _ wj' _ hl' ⟨hl', fun wb hwb => ?_⟩
  subst hwb
  obtain ⟨hb, xb⟩ := hk'.setObj 0 (o2 := busyOb R0) rfl busy_no
  have hb : Dk A [] w0 _ D i' d' (k + 2 * (j - fr)) (LM (busyOb R0) false j) := hb
  refine onM_s (v := .ptr S 0) (hb.ow.ld 12 rfl rfl) (onM_s (v := .ptr S 0) (hb.ow.ld 12 rfl rfl) ?_)
  simp only [onP]
  refine onM_s (v := .ptr D 0) (hb.ow.ld 13 rfl rfl) (onM_s (v := .ptr S 0) (hb.ow.ld 12 rfl rfl) ?_)
  simp only [onP]
  refine ⟨nm, hb.ow.ld 13 rfl rfl, ?_⟩
  refine s9 hh hb (by omega) (hrd.x xb).rsB ?_
  intro i2 w65 h65 x65
  have xx := ((hx.trans xk).trans xb).trans x65
  refine ⟨_, rfl, h65.ow.ld 12 rfl rfl, ?_⟩
  refine s43 hh (fun he => ⟨0, rfl, ifT_f ⟨_, h65.ow.ld 10 rfl rfl, ?_⟩⟩) fun he => ?_
  ·rw [if_neg (by simpa using he)] at hpe'
   refine h65.wr 4 rfl (by simp) fun w42 h66 x66 => ?_
   refine ⟨{ R0 with st := .busy }, loop_of (h66.ow.box (w48.size + 1, .obj (busyOb R0)) (nth_mem (i := 6) rfl) rfl).1.1, .inl ⟨rfl, ?_⟩⟩
   rw [ready_eq hst hpend]
   obtain ⟨h67, x67⟩ := h66.setObj 0 (o2 := LoopA.ob R0) rfl ob_no
   have ej : wi ((j : Int) + 1) = ((j + 1 : Nat) : Int) := by rw [wi_eq (by omega) (by omega)]; push_cast; rfl
   rw [ej] at h67 x67 x66
   exact ⟨i2, _, by rw [show k + 2 * (j + 1 - fr) = k + 2 * (j - fr) + 2 by omega]; exact h67, (xx.trans x66).trans x67, by omega, by omega, by rw [hpe', show nsec bs - (j + 1) = m by omega]⟩
  ·rw [if_pos he] at hpe'
   rw [hpe', if_pos he] at hK
   have edc : decide ((d'.put nm j (sector bs j)).2 ≠ 0) = true := by simpa using he
   rw [edc] at hK
   refine h65.wr 7 rfl (by simp [segC]) fun w4' h66 x66 => ⟨_, rfl, ifT_nd (fun _ => ?_) fun h => absurd h he⟩
   refine h66.wr 5 rfl (by simp) fun w71 h71 x71 => ?_
   refine ⟨{ R0 with st := .busy }, loop_of (h71.ow.box (w48.size + 1, .obj (busyOb R0)) (nth_mem (i := 6) rfl) rfl).1.1, .inr ⟨rfl, ?_⟩⟩
   obtain ⟨h72, x72⟩ := h71.setObj 0 (o2 := LoopA.ob { ({ R0 with st := .busy } : LoopA) with st := .done, pending := some .ret }) rfl ob_no
   refine ⟨_, loop_of (h72.ow.box (w48.size + 1, .obj _) (nth_mem (i := 6) rfl) rfl).1.1, by simp, ?_⟩
   obtain ⟨h73, x73⟩ := h72.setObj 0 (o2 := LoopA.ob { ({ ({ R0 with st := .busy } : LoopA) with st := .done, pending := some .ret } : LoopA) with st := .exhausted }) rfl ob_no
   have hdd := (h73.ow.box (w48.size, .obj .deferred) (nth_mem (i := 7) rfl) rfl).1.1
   obtain ⟨q0, x74⟩ := h73.setObj 1 (o2 := .gone) rfl (fun _ _ _ _ h => by cases h)
   refine onM_s (take_one hdd) ⟨_, q0.ow.ld 11 rfl rfl, ?_⟩
   obtain ⟨q1, yq1, _⟩ := q0.drop
   obtain ⟨q2, yq2, _⟩ := q1.drop
   obtain ⟨q3, yq3, _⟩ := q2.drop
   obtain ⟨q4, yq4, _⟩ := q3.drop
   obtain ⟨q5, yq5, _⟩ := q4.drop
   obtain ⟨q6, yq6, _⟩ := q5.drop
   obtain ⟨q7, yq7, _⟩ := q6.drop
   exact hK i2 _ (q7.le (by omega) hkk) ((((((xx.trans x66).trans x71).trans x72).trans x73).trans x74).trans ((((((yq1.trans yq2).trans yq3).trans yq4).trans yq5).trans yq6).trans yq7))
 ·rintro j wj ⟨i', d', hdk, hx, hj1, hj2, hpe⟩ hge hor
  obtain rfl : j = nsec bs := by unfold nsec at hj2 ⊢; omega
  rw [Nat.sub_self] at hpe
  have hpe : puts nm bs (nsec bs - fr) fr d = (d', 0) := hpe
  rw [hpe, if_neg (by simp)] at hK
  refine ⟨R0, loop_of (hdk.ow.box (w48.size + 1, .obj (LoopA.ob R0)) (nth_mem (i := 6) rfl) rfl).1.1, by rw [hst]; simp, ?_⟩
  rw [hpend]
  obtain ⟨h51, x51⟩ := hdk.setObj 0 (o2 := LoopA.ob { R0 with st := .exhausted, pending := none }) rfl ob_no
  refine onM_s (v := .ptr S 0) (h51.ow.ld 12 rfl rfl) (onM_s (v := .ptr S 0) (h51.ow.ld 12 rfl rfl) ?_)
  simp only [onP]
  refine onM_s (v := .ptr D 0) (h51.ow.ld 13 rfl rfl) (onM_s (v := .ptr S 0) (h51.ow.ld 12 rfl rfl) ?_)
  simp only [onP]
  refine ⟨nm, h51.ow.ld 13 rfl rfl, _, h51.ow.ld 10 rfl rfl, ?_⟩
  refine s56 hh h51 (by omega) ?_
  intro i3 w55 h55 x55
  simp only [] at hK
  generalize hcu : d'.cut nm (nsec bs) = cu at *
  refine ⟨_, rfl, h55.ow.ld 12 rfl rfl, ?_⟩
  refine s43 hh (fun he => ⟨0, rfl, ifT_f ?_⟩) fun he => ?_
  ·rw [if_neg (by simpa using he)] at hK
   refine onM_s (v := .ptr S 0) (h55.ow.ld 12 rfl rfl) (onM_s (v := .ptr S 0) (h55.ow.ld 12 rfl rfl) ?_)
   simp only [onP]
   refine onM_s (v := .ptr D 0) (h55.ow.ld 13 rfl rfl) (onM_s (v := .ptr S 0) (h55.ow.ld 12 rfl rfl) ?_)
   simp only [onP]
   refine ⟨nm, h55.ow.ld 13 rfl rfl, ?_⟩
   refine s44 hh h55 ?_
   intro i4 w73 h73 x73
   refine ⟨_, rfl, h73.ow.ld 12 rfl rfl, ?_⟩
   refine s43 hh (fun he2 => ⟨0, rfl, ?_⟩) fun he2 => ?_
   ·rw [he2] at hK
    refine h73.wr 5 rfl (by simp) fun w78 h78 x78 => ?_
    have hdd := (h78.ow.box (w48.size, .obj .deferred) (nth_mem (i := 7) rfl) rfl).1.1
    obtain ⟨q0, x79⟩ := h78.setObj 1 (o2 := .gone) rfl (fun _ _ _ _ h => by cases h)
    refine onM_s (take_one hdd) ⟨_, q0.ow.ld 11 rfl rfl, ?_⟩
    obtain ⟨q1, yq1, _⟩ := q0.drop
    obtain ⟨q2, yq2, _⟩ := q1.drop
    obtain ⟨q3, yq3, _⟩ := q2.drop
    obtain ⟨q4, yq4, _⟩ := q3.drop
    obtain ⟨q5, yq5, _⟩ := q4.drop
    obtain ⟨q6, yq6, _⟩ := q5.drop
    obtain ⟨q7, yq7, _⟩ := q6.drop
    exact hK i4 _ (q7.le (by omega) hkk) ((((((hx.trans x51).trans x55).trans x73).trans x78).trans x79).trans ((((((yq1.trans yq2).trans yq3).trans yq4).trans yq5).trans yq6).trans yq7))
   ·have edc : decide ((cu.1.sync nm).2 ≠ 0) = true := by simpa using he2
    rw [edc] at hK
    refine h73.wr 7 rfl (by simp [segC]) fun w76 h76 x76 => ⟨_, rfl, h76.wr 5 rfl (by simp) fun w78 h78 x78 => ?_⟩
    have hdd := (h78.ow.box (w48.size, .obj .deferred) (nth_mem (i := 7) rfl) rfl).1.1
    obtain ⟨q0, x79⟩ := h78.setObj 1 (o2 := .gone) rfl (fun _ _ _ _ h => by cases h)
    refine onM_s (take_one hdd) ⟨_, q0.ow.ld 11 rfl rfl, ?_⟩
    obtain ⟨q1, yq1, _⟩ := q0.drop
    obtain ⟨q2, yq2, _⟩ := q1.drop
    obtain ⟨q3, yq3, _⟩ := q2.drop
    obtain ⟨q4, yq4, _⟩ := q3.drop
    obtain ⟨q5, yq5, _⟩ := q4.drop
    obtain ⟨q6, yq6, _⟩ := q5.drop
    obtain ⟨q7, yq7, _⟩ := q6.drop
    exact hK i4 _ (q7.le (by omega) hkk) (((((((hx.trans x51).trans x55).trans x73).trans x76).trans x78).trans x79).trans ((((((yq1.trans yq2).trans yq3).trans yq4).trans yq5).trans yq6).trans yq7))
  ·rw [if_pos he] at hK
   have edc : decide (cu.2 ≠ 0) = true := by simpa using he
   rw [edc] at hK
   refine h55.wr 7 rfl (by simp [segC]) fun w57 h57 x57 => ⟨_, rfl, ifT_nd (fun _ => ?_) fun h => absurd h he⟩
   refine h57.wr 5 rfl (by simp) fun w60 h60 x60 => ?_
   have hdd := (h60.ow.box (w48.size, .obj .deferred) (nth_mem (i := 7) rfl) rfl).1.1
   obtain ⟨q0, x79⟩ := h60.setObj 1 (o2 := .gone) rfl (fun _ _ _ _ h => by cases h)
   refine onM_s (take_one hdd) ⟨_, q0.ow.ld 11 rfl rfl, ?_⟩
   obtain ⟨q1, yq1, _⟩ := q0.drop
   obtain ⟨q2, yq2, _⟩ := q1.drop
   obtain ⟨q3, yq3, _⟩ := q2.drop
   obtain ⟨q4, yq4, _⟩ := q3.drop
   obtain ⟨q5, yq5, _⟩ := q4.drop
   obtain ⟨q6, yq6, _⟩ := q5.drop
   obtain ⟨q7, yq7, _⟩ := q6.drop
   exact hK i3 _ (q7.le (by omega) hkk) ((((((hx.trans x51).trans x55).trans x57).trans x60).trans x79).trans ((((((yq1.trans yq2).trans yq3).trans yq4).trans yq5).trans yq6).trans yq7))
end
end Go.Proofs.Ytdlogcincelccaa
/-
 stream, and Open of any file, over memory.
 No condition beyond those that each theorem names.
-/
set_option linter.unusedSimpArgs false
open Go.Sx
set_option linter.unusedVariables false
set_option linter.unusedSimpArgs false
namespace Go.Proofs.Ytdlogcincelccaa
def stream (b : Byts) : Byts := streamN (b.length / 64 + 1) b
section
variable {hk : Hook} {A B : Nat → Prop} {I : List Nat} {w0 w w' : AW} {D S : Nat} {i i' : DI} {d d' : Dsk} {k k' : Nat} {L L' : Obs} {K : AV → AW → Prop} {nm bs : Byts} {es : List Int} {bv ev : AV} {br : Bool} {ef : Nat} {eo : Ob}
theorem streamN_length : ∀ (m : Nat) (b : Byts), (streamN m b).length ≤ b.length
  | 0, _ => Nat.zero_le _
  | m + 1, b => by
    unfold streamN
    split
    · simp
    · rename_i h
      simp only []
      have ih := streamN_length m (b.drop 64)
      simp only [List.length_drop] at ih
      generalize hn : (if 62 < (b.getD 0 0).toNat then 0 else (b.getD 0 0).toNat) = n
      have : n ≤ 62 := by rw [← hn]; split <;> omega
      simp only [List.length_append, List.length_take, List.length_drop]
      split
      · simp; omega
      · omega
theorem s35 {v : AV} {b : Byts} (hh : HK hk) (pv : Pv A w) (h : (rL rU).rd B w [v] b) (hl : b.length ≤ 2 ^ 20) (hK : ∀ v' w', Fr w.size w w' → Ga rU A w w' v' (stream b) → K v' w') : Cl Try.prog hk 35 [v] w K := by
 apply in35 (hh.no _ _ _ (by decide) (by decide))
 unfold F35
 refine loopP_ind (fun m l w3 => ∃ (at_ : Nat) (out : AV) (acc : Byts), m = b.length / 64 + 1 - at_ / 64 ∧ at_ % 64 = 0 ∧ at_ ≤ b.length ∧ l = [out, .int .i64 at_] ∧ Ow A [] w w3 [] ∧ Ga rU (fz A []) w w3 out acc ∧ acc.length ≤ at_ ∧ acc ++ streamN (b.length / 64 + 1 - at_ / 64) (b.drop at_) = stream b) ?_
  ⟨0, .nilslice, [], rfl, rfl, Nat.zero_le _, rfl, pv.st, Ga.nil, by simp, by simp [stream]⟩
 rintro m l w3 ⟨at_, out, acc, rfl, hmod, hat, rfl, st, hg, hacc, hst⟩ R ih
 have hrd : (rL rU).rd (fz B (ids [])) w3 [v] b := st.arg pv.mem h
 refine ⟨_, _, rfl, fun _ => ⟨_, hrd.len', ?_⟩⟩
 rw [show wi ((at_ : Int) + 64) = ((at_ + 64 : Nat) : Int) by rw [wi_eq (by omega) (by omega)]; push_cast; rfl]
 obtain ⟨f, hf⟩ : ∃ f, b.length / 64 + 1 - at_ / 64 = f + 1 := ⟨b.length / 64 - at_ / 64, by omega⟩
 rw [hf] at hst
 refine ifT_d (fun hc => ?_) fun hc => ?_
 ·have hc : at_ + 64 ≤ b.length := by omega
  have hlt : at_ < b.length := by omega
  refine hrd.at1 rfl hlt fun bk ok a ha hld => ⟨(b[at_].toNat : Int), ?_, ?_⟩
  ·have ha : [a] = [AV.int .u8 (b[at_].toNat : Int)] := ha
   rw [hld]; injection ha with ha; rw [ha]
  have h8 : b[at_].toNat < 256 := b[at_].toNat_lt
  have ew : wi (b[at_].toNat : Int) = (b[at_].toNat : Int) := wi_eq (by omega) (by omega)
  rw [ew]
  have hget : (b.drop at_).getD 0 0 = b[at_] := by rw [List.getD_eq_getElem?_getD, List.getElem?_drop, Nat.add_zero, List.getElem?_eq_getElem hlt]; rfl
  unfold streamN at hst
  rw [if_neg (by simp; omega), hget] at hst
  simp only [] at hst
  generalize hn : (if 62 < b[at_].toNat then 0 else b[at_].toNat) = n at hst
  have hn62 : n ≤ 62 := by rw [← hn]; split <;> omega
  refine join_of (fun lv w11 => lv = [.int .i64 (n : Int)] ∧ w11 = w3) ?_ ?_
  ·rintro lv w11 ⟨rfl, rfl⟩
   refine ⟨_, rfl, fun _ => ?_⟩
   rw [show wi ((at_ : Int) + 2) = ((at_ + 2 : Nat) : Int) by rw [wi_eq (by omega) (by omega)]; push_cast; rfl, show wi (((at_ + 2 : Nat) : Int) + (n : Int)) = ((at_ + 2 + n : Nat) : Int) by rw [wi_eq (by omega) (by omega)]; push_cast; rfl]
   obtain ⟨part, hsl, hpart⟩ := hrd.cut (i := at_ + 2) (j := at_ + 2 + n) (by omega) (by omega) (.inl rfl) (.inl rfl)
   have epart : (b.take (at_ + 2 + n)).drop (at_ + 2) = ((b.drop at_).drop 2).take n := by
    rw [List.drop_take, List.drop_drop, show at_ + 2 + n - (at_ + 2) = n by omega]
   rw [epart] at hpart
   generalize hpt : ((b.drop at_).drop 2).take n = pt at hpart hst
   have hptl : pt.length = n := by rw [← hpt]; simp; omega
   refine onM_s hsl (Ow.appSrc (r := rU) (l' := pt) st hg (Rs.src hpart.rsB) (Chk.bytes.2 rfl) (by decide) (fun c hc => pv.new c (by have := st.size; omega)) (by omega) (by omega) fun out' w16 st16 x16 hg16 => ?_)
   refine ifT_d (fun hc2 => ?_) fun hc2 => ?_
   ·rw [if_pos (by omega), List.append_nil] at hst
    rw [hst] at hg16
    exact hK out' w16 st16.fr hg16.out
   ·rw [if_neg (by omega), List.drop_drop] at hst
    refine ih (b.length / 64 + 1 - (at_ + 64) / 64) (by omega) _ _ ⟨at_ + 64, out', acc ++ pt, rfl, by omega, by omega, rfl, st16, hg16, by simp; omega, ?_⟩
    rw [show b.length / 64 + 1 - (at_ + 64) / 64 = f by omega, List.append_assoc]
    exact hst
  ·intro J hJ
   refine ifT_d (fun hc2 => ?_) fun hc2 => ?_
   ·have : n = 0 := by rw [← hn, if_pos (by omega)]
    subst this
    exact hJ _ _ ⟨rfl, rfl⟩
   ·have : n = b[at_].toNat := by rw [← hn, if_neg (by omega)]
    rw [this] at hJ
    exact hJ _ _ ⟨rfl, rfl⟩
 ·unfold streamN at hst
  rw [if_pos (by simp; omega), List.append_nil] at hst
  rw [hst] at hg
  exact hK out w3 st.fr hg.out
end
end Go.Proofs.Ytdlogcincelccaa
/-
 Open of any file, over memory.
 No condition beyond those that each theorem names.
-/
set_option linter.unusedSimpArgs false
open Go.Sx
set_option linter.unusedVariables false
set_option linter.unusedSimpArgs false
namespace Go.Proofs.Ytdlogcincelccaa
def u32 (b : Byts) (at_ : Nat) : Nat := (b.getD at_ 0).toNat * 2 ^ 24 + (b.getD (at_ + 1) 0).toNat * 2 ^ 16 + (b.getD (at_ + 2) 0).toNat * 2 ^ 8 + (b.getD (at_ + 3) 0).toNat
def parseN : Nat → Byts → Nat → List Nat
 | 0, _, _ => []
 | m + 1, b, a => if a + 4 ≤ b.length then (if 65536 < u32 b a ∨ b.length < a + 4 + u32 b a then [] else (a + 4 + u32 b a) :: parseN m b (a + 4 + u32 b a)) else []
def ends (b : Byts) : List Nat := parseN (b.length + 1) b 0
def sizeE (E : List Nat) : Nat := E.getLastD 0
def kept (f : Byts) : Byts := (stream f).take (sizeE (ends (stream f)))
def openD (nm : Byts) (d : Dsk) : Dsk × Int :=
 if (d.read nm).2 ≠ 0 ∧ (d.read nm).2 ≠ 70 then (d, (d.read nm).2) else
 if clean (kept (d.read nm).1) == (d.read nm).1 then (d, 0) else trimD nm (kept (d.read nm).1) d
theorem bOr_add {a c k : Nat} (hc : c < 2 ^ k) (h : a * 2 ^ k + c < 2 ^ 32) : bOr .i64 ((a * 2 ^ k : Nat) : Int) (c : Int) = ((a * 2 ^ k + c : Nat) : Int) := by
 unfold bOr
 have h1 : a * 2 ^ k < 2 ^ 32 := by omega
 have h2 : c < 2 ^ 32 := by omega
 have e1 : (BitVec.ofInt 64 ((a * 2 ^ k : Nat) : Int)).toNat = a * 2 ^ k := by
  rw [BitVec.toNat_ofInt]; omega
 have e2 : (BitVec.ofInt 64 ((c : Nat) : Int)).toNat = c := by
  rw [BitVec.toNat_ofInt]; omega
 have e3 : (BitVec.ofInt (IntKind.bits .i64) ((a * 2 ^ k : Nat) : Int) ||| BitVec.ofInt (IntKind.bits .i64) (c : Int)).toNat = a * 2 ^ k + c := by
  show (BitVec.ofInt 64 ((a * 2 ^ k : Nat) : Int) ||| BitVec.ofInt 64 (c : Int)).toNat = _
  rw [BitVec.toNat_or, e1, e2, Nat.mul_comm, ← Nat.two_pow_add_eq_or_of_lt hc]
 rw [e3]
 exact wi_eq (by omega) (by omega)
theorem shl_add {a k : Nat} (hk : k ≤ 24) (h : a < 256) : shlI .i64 (wi (a : Int)) (k : Int) = ((a * 2 ^ k : Nat) : Int) := by
 have hp : a * 2 ^ k < 2 ^ 32 := by
  calc a * 2 ^ k ≤ 255 * 2 ^ k := Nat.mul_le_mul_right _ (by omega)
   _ ≤ 255 * 2 ^ 24 := Nat.mul_le_mul_left _ (Nat.pow_le_pow_right (by decide) hk)
   _ < 2 ^ 32 := by decide
 unfold shlI
 rw [wi_eq (by omega) (by omega)]
 have : min ((k : Int).toNat) (IntKind.bits .i64) = k := by
  show min (k : Int).toNat 64 = k
  omega
 rw [this]
 have e : (a : Int) * 2 ^ k = ((a * 2 ^ k : Nat) : Int) := by push_cast; rfl
 rw [e]
 exact wi_eq (by omega) (by omega)
theorem u32_or {a b c e : Nat} (ha : a < 256) (hb : b < 256) (hc : c < 256) (he : e < 256) :
  bOr .i64 (bOr .i64 (bOr .i64 (shlI .i64 (wi (a : Int)) 24) (shlI .i64 (wi (b : Int)) 16)) (shlI .i64 (wi (c : Int)) 8)) (wi (e : Int)) = ((a * 2 ^ 24 + b * 2 ^ 16 + c * 2 ^ 8 + e : Nat) : Int) := by
 have h1 := shl_add (k := 24) (by decide) ha
 have h2 := shl_add (k := 16) (by decide) hb
 have h3 := shl_add (k := 8) (by decide) hc
 rw [show ((24 : Nat) : Int) = 24 from rfl] at h1
 rw [show ((16 : Nat) : Int) = 16 from rfl] at h2
 rw [show ((8 : Nat) : Int) = 8 from rfl] at h3
 rw [h1, h2, h3, wi_eq (x := (e : Int)) (by omega) (by omega)]
 rw [bOr_add (a := a) (k := 24) (c := b * 2 ^ 16) (by omega) (by omega)]
 rw [show a * 2 ^ 24 + b * 2 ^ 16 = (a * 2 ^ 8 + b) * 2 ^ 16 by omega, bOr_add (k := 16) (c := c * 2 ^ 8) (by omega) (by omega)]
 rw [show (a * 2 ^ 8 + b) * 2 ^ 16 + c * 2 ^ 8 = ((a * 2 ^ 8 + b) * 2 ^ 8 + c) * 2 ^ 8 by omega, bOr_add (k := 8) (c := e) (by omega) (by omega)]
theorem parse_le : ∀ (m : Nat) (b : Byts) (a : Nat), a ≤ b.length → (parseN m b a).length ≤ b.length - a ∧ ∀ e ∈ parseN m b a, a < e ∧ e ≤ b.length
  | 0, _, _, _ => by simp [parseN]
  | m + 1, b, a, h => by
    unfold parseN
    split
    · split
      · simp
      · rename_i h1 h2
        have h2 : ¬ 65536 < u32 b a ∧ ¬ b.length < a + 4 + u32 b a := not_or.1 h2
        obtain ⟨g1, g2⟩ := parse_le m b (a + 4 + u32 b a) (by omega)
        refine ⟨by simp only [List.length_cons]; omega, fun e he => ?_⟩
        rcases List.mem_cons.1 he with rfl | he
        · omega
        · have := g2 e he; omega
    · simp
theorem sizeE_le {b : Byts} : sizeE (ends b) ≤ b.length := by
  unfold sizeE
  have h := (parse_le (b.length + 1) b 0 (Nat.zero_le _)).2
  cases hE : ends b with
  | nil => simp
  | cons a l =>
    have : (a :: l).getLastD 0 ∈ ends b := by
      rw [hE, List.getLastD_eq_getLast?, List.getLast?_eq_some_getLast (by simp)]
      exact List.getLast_mem _
    rw [hE] at this
    exact (h _ (by rw [show parseN (b.length + 1) b 0 = ends b from rfl, hE]; exact this)).2
end Go.Proofs.Ytdlogcincelccaa
/-
 Open of any file, over memory: the walk.
 No condition beyond those that each theorem names.
-/
set_option linter.unusedSimpArgs false
open Go.Sx
set_option linter.unusedVariables false
set_option linter.unusedSimpArgs false
namespace Go.Proofs.Ytdlogcincelccaa
def cst (E : List Nat) : List AV := E.map fun n : Nat => AV.int .i64 ((n : Nat) : Int)
theorem cst_length (E : List Nat) : (cst E).length = E.length := List.length_map _
section
variable {hk : Hook} {A B : Nat → Prop} {I : List Nat} {w0 w w' : AW} {D S : Nat} {i i' : DI} {d d' : Dsk} {k k' : Nat} {L L' : Obs} {K : AV → AW → Prop} {nm bs : Byts} {E : List Nat} {bv ev : AV} {br : Bool} {ef : Nat} {eo : Ob}
theorem s13 (hh : HK hk) (h3 : ld w S 3 = some ev) (he : Rs w 1 E.length ev (cst E)) (hl : E.length < 2 ^ 60) (hK : K (.int .i64 (sizeE E : Nat)) w) : Cl Try.prog hk 13 [.ptr S 0] w K := by
 apply in13 (hh.no _ _ _ (by decide) (by decide))
 unfold F13
 refine ⟨false, by kernel_rfl, ifT_f ?_⟩
 simp only [onP]
 refine onM_s h3 ⟨_, he.len, ifT_d (fun hc => ?_) fun hc => ?_⟩
 ·have : E = [] := by
   have : E.length = 0 := by omega
   simpa using this
  subst this
  exact hK
 ·have hpos : 0 < E.length := by omega
  refine onM_s h3 (onM_s h3 ⟨_, he.len, ?_⟩)
  rw [show wi (((E.length : Nat) : Int) - 1) = ((E.length - 1 : Nat) : Int) by rw [wi_eq (by omega) (by omega)]; omega]
  refine Rs.at he (i := ((E.length - 1 : Nat) : Int)) (by omega) (by omega) fun b o hf _ => ⟨_, ?_, hK⟩
  have := hf 0 (by decide)
  rw [Nat.add_zero] at this
  rw [this]
  have hge : E.getLast? = some E[E.length - 1] := by
   rw [List.getLast?_eq_getElem?, List.getElem?_eq_getElem (by omega)]
  have : sizeE E = E[E.length - 1] := by
   unfold sizeE
   rw [List.getLastD_eq_getLast?, hge]; rfl
  rw [this]
  simp [cst, hpos]
  exact ⟨_, List.getElem?_eq_getElem (by omega), rfl⟩
set_option maxRecDepth 20000 in
theorem s11 (hh : HK hk) (h : Dk A [] w0 w D i d k L) (hb : (d.read nm).1.length ≤ 253952) (hkk : k + 10000 < 2 ^ 27)
    (hE : (openD nm d).2 ≠ 0 → ∀ i' w', Dk A [] w0 w' D i' (openD nm d).1 (k + 10000) L → Xt (dkU D i L) w (dkU D i' L) w' → K (.tup [.nilptr, .int .i64 (openD nm d).2]) w')
    (hK : (openD nm d).2 = 0 → ∀ S bv ev ef eo i' w', Dk A [] w0 w' D i' (openD nm d).1 (k + 10000) ((S, .row (segC D nm bv ev false)) :: (ef, eo) :: L) → Xt (dkU D i L) w (dkU D i' ((S, .row (segC D nm bv ev false)) :: (ef, eo) :: L)) w' →
      (rL rU).rd (fz A (dkU D i' ((S, .row (segC D nm bv ev false)) :: (ef, eo) :: L))) w' [bv] (kept (d.read nm).1) → Sv 1 eo ev (cst (ends (stream (d.read nm).1))) → K (.tup [.ptr S 0, .int .i64 0]) w') : Cl Try.prog hk 11 [.ptr D 0, .str nm] w K := by
  apply in11 (hh.no _ _ _ (by decide) (by decide))
  unfold F11
  refine s26 hh h fun v3 w3 f3 hg3 => ⟨_, _, rfl, ?_⟩
  obtain ⟨h3, x3⟩ := h.fr f3
  have hr3 := hg3.rd (by decide)
  unfold openD at hE hK
  generalize hrdn : (d.read nm).1 = fb at *
  generalize hrde : (d.read nm).2 = fe at *
  have hsl := streamN_length (fb.length / 64 + 1) fb
  have hsl : (stream fb).length ≤ fb.length := hsl
  refine join_of (fun lv w7 => lv = [] ∧ w7 = w3 ∧ ¬(fe ≠ 0 ∧ fe ≠ 70)) ?_ ?_
  · rintro lv w7 ⟨rfl, rfl, hok⟩
    rw [if_neg hok] at hE hK
    refine ⟨rfl, fun _ => gd_t rfl (gd_t rfl (h3.new' fun S w10 h10 x10 => ?_))⟩
    refine s35 hh h10.ow.P (hr3.x x10) (by omega) fun v11 w12 f12 hg12 => ?_
    obtain ⟨h12, x12⟩ := h10.fr f12
    have hr12 := hg12.rd (by decide)
    obtain ⟨h12r, x12r⟩ := h12.room
    obtain ⟨h13, x13⟩ := h12r.permL (L' := (S, .row (segC D nm .nilslice .nilslice false)) :: (0, .none) :: L) (.swap _ _ _)
    have x013 := ((x3.trans x10).trans x12).trans (x12r.trans x13)
    have hall := hr12.x (x12r.trans x13)
    generalize hal : stream fb = all at *
    have hkp : kept fb = all.take (sizeE (ends all)) := by unfold kept; rw [hal]
    rw [hkp] at hE hK
    refine join_of (fun lv w14 => lv = [] ∧ ∃ ev ef eo, Dk A [] w0 w14 D i d k ((S, .row (segC D nm .nilslice ev false)) :: (ef, eo) :: L) ∧ Xt (dkU D i ((S, .row (segC D nm .nilslice .nilslice false)) :: (0, .none) :: L)) w12 (dkU D i ((S, .row (segC D nm .nilslice ev false)) :: (ef, eo) :: L)) w14 ∧ Sv 1 eo ev (cst (ends all))) ?_ ?_
    · rintro lv w14 ⟨rfl, ev, ef, eo, h14, x14, hsv⟩
      have hel := (parse_le (all.length + 1) all 0 (Nat.zero_le _)).1
      have hel : (ends all).length ≤ all.length := hel
      have hrs := h14.ow.sv (i := 7) (f := ef) (o := eo) rfl hsv (by decide) (k := (ends all).length) (by rw [cst_length]; omega)
      refine ⟨rfl, fun _ => s13 hh (h14.ow.ld 6 rfl rfl) hrs (by omega) ⟨_, rfl, ?_⟩⟩
      obtain ⟨bv, hcut, hbv⟩ := (hall.x x14).cut (i := 0) (j := sizeE (ends all)) (Nat.zero_le _) sizeE_le (.inr ⟨rfl, rfl⟩) (.inl rfl)
      rw [List.drop_zero] at hbv
      refine onM_s hcut (gd_t hbv.ok1 (h14.wr 0 rfl (by simp [segC]) fun w20 h20 x20 => ?_))
      have h20 : Dk A [] w0 w20 D i d k ((S, .row (segC D nm bv ev false)) :: (ef, eo) :: L) := h20
      have x20 : Xt (dkU D i ((S, .row (segC D nm .nilslice ev false)) :: (ef, eo) :: L)) w14 (dkU D i ((S, .row (segC D nm bv ev false)) :: (ef, eo) :: L)) w20 := x20
      have hbv20 := hbv.x x20
      generalize hkb : all.take (sizeE (ends all)) = kb at *
      have hkbl : kb.length ≤ all.length := by rw [← hkb]; simp; omega
      have x020 := (x013.trans x14).trans x20
      refine join_of (fun lv w22 => ∃ (e : Int) (br : Bool) (i' : DI) (d' : Dsk), lv = [.int .i64 e] ∧ Dk A [] w0 w22 D i' d' (k + 10000) ((S, .row (segC D nm bv ev br)) :: (ef, eo) :: L) ∧ Xt (dkU D i L) w (dkU D i' ((S, .row (segC D nm bv ev br)) :: (ef, eo) :: L)) w22 ∧ (rL rU).rd (fz A (dkU D i' ((S, .row (segC D nm bv ev br)) :: (ef, eo) :: L))) w22 [bv] kb ∧ (if clean kb == fb then (d, 0) else trimD nm kb d) = (d', e) ∧ br = decide (e ≠ 0)) ?_ ?_
      · rintro lv w22 ⟨e, br, i', d', rfl, h22, x22, hb22, heq, rfl⟩
        rw [heq] at hE hK
        refine ⟨e, rfl, fun _ => ifT_nd (fun hne => ?_) fun he => ?_⟩
        · obtain ⟨h23, x23⟩ := h22.forget
          obtain ⟨h24, x24⟩ := h23.forget
          exact hE hne i' _ h24 ((x22.trans x23).trans x24)
        · subst he
          exact hK rfl S bv ev ef eo i' _ h22 x22 hb22 hsv
      · intro J hJ
        refine onM_s (v := bv) (h20.ow.ld 6 rfl rfl) (s37 hh h20.ow.P hbv20 (by omega) fun v26 w27 f27 hg27 => ?_)
        obtain ⟨h27, x27⟩ := h20.fr f27
        have hcl : (clean kb).length = nsec kb * 64 := cleanN_length kb (nsec kb)
        refine s36 hh (hg27.rd (by decide)).rsB (((((hr3.x x10).x x12).x (x12r.trans x13)).x (x14.trans x20)).x x27).rsB (by rw [hcl]; unfold nsec; omega) (by omega) ⟨_, rfl, ?_⟩
        cases hq : (clean kb == fb) with
        | true => exact ifT_f (hJ _ _ ⟨0, false, i, d, rfl, h27.le (by omega) hkk, x020.trans x27, hbv20.x x27, by rw [hq]; rfl, rfl⟩)
        | false =>
          refine ifT_t (s38 hh h27 (hbv20.x x27) (by omega) hkk fun i' w32 h32 x32 => ⟨_, rfl, ?_⟩)
          exact hJ _ _ ⟨_, _, i', _, rfl, h32, (x020.trans x27).trans x32, (hbv20.x x27).x x32, by rw [hq]; rfl, rfl⟩
    · intro J hJ
      refine loopP_ind (fun m lv w36 => ∃ (a f : Nat) (E1 : List Nat) (ev : AV) (ef : Nat) (eo : Ob), m = all.length + 1 - a ∧ a ≤ all.length ∧ all.length - a < f ∧ lv = [.int .i64 a] ∧ Dk A [] w0 w36 D i d k ((S, .row (segC D nm .nilslice ev false)) :: (ef, eo) :: L) ∧ Xt (dkU D i ((S, .row (segC D nm .nilslice .nilslice false)) :: (0, .none) :: L)) w12 (dkU D i ((S, .row (segC D nm .nilslice ev false)) :: (ef, eo) :: L)) w36 ∧ Sv 1 eo ev (cst E1) ∧ E1.length ≤ a ∧ E1 ++ parseN f all a = ends all) ?_
        ⟨0, all.length + 1, [], .nilslice, 0, .none, rfl, Nat.zero_le _, by omega, rfl, h13, Xt.refl, Sv.nil, Nat.le_refl _, by simp [ends]⟩
      rintro m lv w36 ⟨a, f, E1, ev, ef, eo, rfl, ha, hf, rfl, h36, x36, hsv, hE1, hp⟩ R ih
      obtain ⟨f, rfl⟩ : ∃ f', f = f' + 1 := ⟨f - 1, by omega⟩
      have hr36 := hall.x x36
      unfold parseN at hp
      have stop : (E1 ++ [] = ends all) → J [] w36 := fun e => hJ _ _ ⟨rfl, ev, ef, eo, h36, x36, by rw [← e, List.append_nil]; exact hsv⟩
      refine ⟨_, rfl, fun _ => ⟨_, hr36.len', ?_⟩⟩
      rw [show wi ((a : Int) + 4) = ((a + 4 : Nat) : Int) by rw [wi_eq (by omega) (by omega)]; push_cast; rfl]
      refine ifT_d (fun hc => ?_) fun hc => ?_
      · have hc : a + 4 ≤ all.length := by omega
        rw [if_pos hc] at hp
        have at1 : ∀ (j : Nat) (hj : j < all.length) (K : Nat → Nat → Prop), (∀ b o, ld w36 b o = some (.int .u8 ((all.getD j 0).toNat : Int)) → K b o) → atP (idxS 1 v11 (.int .i64 (j : Int))) K := fun j hj K hK => by
          refine hr36.at1 rfl hj fun bk ok a ha hld => hK bk ok ?_
          have ha : [a] = [AV.int .u8 (all[j].toNat : Int)] := ha
          rw [hld]; injection ha with ha; rw [ha, List.getD_eq_getElem?_getD, List.getElem?_eq_getElem hj]; rfl
        refine at1 a (by omega) _ fun b1 o1 g1 => ⟨_, g1, ?_⟩
        rw [show wi ((a : Int) + 1) = ((a + 1 : Nat) : Int) by rw [wi_eq (by omega) (by omega)]; push_cast; rfl]
        refine at1 (a + 1) (by omega) _ fun b2 o2 g2 => ⟨_, g2, ?_⟩
        refine (show ∀ {K : Int → Prop} {x : Int}, K x → be x K from fun h => h) ?_
        rw [show wi ((a : Int) + 2) = ((a + 2 : Nat) : Int) by rw [wi_eq (by omega) (by omega)]; push_cast; rfl]
        refine at1 (a + 2) (by omega) _ fun b3 o3 g3 => ⟨_, g3, ?_⟩
        refine (show ∀ {K : Int → Prop} {x : Int}, K x → be x K from fun h => h) ?_
        rw [show wi ((a : Int) + 3) = ((a + 3 : Nat) : Int) by rw [wi_eq (by omega) (by omega)]; push_cast; rfl]
        refine at1 (a + 3) (by omega) _ fun b4 o4 g4 => ⟨_, g4, ?_⟩
        have hu := u32_or (UInt8.toNat_lt (all.getD a 0)) (UInt8.toNat_lt (all.getD (a + 1) 0)) (UInt8.toNat_lt (all.getD (a + 2) 0)) (UInt8.toNat_lt (all.getD (a + 3) 0))
        rw [show (all.getD a 0).toNat * 2 ^ 24 + (all.getD (a + 1) 0).toNat * 2 ^ 16 + (all.getD (a + 2) 0).toNat * 2 ^ 8 + (all.getD (a + 3) 0).toNat = u32 all a from rfl] at hu
        rw [hu]
        generalize u32 all a = n at hp
        refine ifT_d (fun hn => ?_) fun hn => ?_
        · rw [if_pos (.inl (by omega))] at hp; exact stop hp
        rw [show wi (((a + 4 : Nat) : Int) + (n : Int)) = ((a + 4 + n : Nat) : Int) by rw [wi_eq (by omega) (by omega)]; push_cast; rfl]
        refine (show ∀ {K : Int → Prop} {x : Int}, K x → be x K from fun h => h) ?_
        refine ⟨_, hr36.len', ifT_d (fun hn2 => ?_) fun hn2 => ?_⟩
        · rw [if_pos (.inr (by omega))] at hp; exact stop hp
        rw [if_neg (by omega)] at hp
        rw [show wi (4 + (n : Int)) = ((4 + n : Nat) : Int) by rw [wi_eq (by omega) (by omega)]; push_cast; rfl]
        refine (show ∀ {K : Int → Prop} {x : Int}, K x → be x K from fun h => h) ?_
        rw [show wi ((a : Int) + ((4 + n : Nat) : Int)) = ((a + 4 + n : Nat) : Int) by rw [wi_eq (by omega) (by omega)]; push_cast; omega]
        refine onM_s (v := ev) (h36.ow.ld 6 rfl rfl) (h36.new' fun b57 w58 h58 x58 => ?_)
        have hb57 : Box w58 b57 [.int .i64 ((a + 4 + n : Nat) : Int)] := (h58.ow.box (b57, .row [.int .i64 ((a + 4 + n : Nat) : Int)]) (nth_mem (i := 6) rfl) rfl).1
        refine h58.accL 2 rfl hsv (by decide) (hb57.rs rfl) (by rw [cst_length]; omega) (by rw [cst_length]; omega) fun ev' ef' eo' w60 h60 x60 hsv' => ?_
        refine gd_t hsv'.ok (h60.wr 1 rfl (by simp [segC]) fun w61 h61 x61 => ?_)
        obtain ⟨h62, x62, _⟩ := h61.drop
        have h62 : Dk A [] w0 w61 D i d k ((S, .row (segC D nm .nilslice ev' false)) :: (ef', eo') :: L) := h62
        refine ih (all.length + 1 - (a + 4 + n)) (by omega) _ _ ⟨a + 4 + n, f, E1 ++ [a + 4 + n], ev', ef', eo', rfl, by omega, by omega, rfl, h62, (((x36.trans x58).trans x60).trans x61).trans x62, by rw [show cst (E1 ++ [a + 4 + n]) = cst E1 ++ [.int .i64 ((a + 4 + n : Nat) : Int)] by simp [cst]]; exact hsv', by simp; omega, by rw [List.append_assoc]; exact hp⟩
      · rw [if_neg (by omega)] at hp; exact stop hp
  · intro J hJ
    refine ifT_nd (fun hne => ifT_nd (fun hne2 => ?_) fun he => hJ _ _ ⟨rfl, rfl, fun h => h.2 he⟩) fun he => hJ _ _ ⟨rfl, rfl, fun h => h.1 he⟩
    rw [if_pos ⟨hne, hne2⟩] at hE
    exact hE hne i _ (h3.le (by omega) hkk) x3
end
end Go.Proofs.Ytdlogcincelccaa
/-
 told, SameLists, Count, over memory.
 No condition beyond those that each theorem names.
-/
set_option linter.unusedSimpArgs false
open Go.Sx
set_option linter.unusedVariables false
set_option linter.unusedSimpArgs false
namespace Go.Proofs.Ytdlogcincelccaa
def stE (E : List Nat) (i : Nat) : Nat := if i = 0 then 0 else E.getD (i - 1) 0
def bd (B : Byts) (E : List Nat) (i : Nat) : Byts := (B.take (E.getD i 0)).drop (stE E i + 4)
def toldL (B : Byts) (E : List Nat) : List Byts := (List.range E.length).map (bd B E)
def Asc (B : Byts) (E : List Nat) : Prop := ∀ i, i < E.length → stE E i + 4 ≤ E.getD i 0 ∧ E.getD i 0 ≤ B.length
section
variable {hk : Hook} {A B : Nat → Prop} {I : List Nat} {w0 w w' : AW} {D S : Nat} {i i' : DI} {d d' : Dsk} {k k' : Nat} {L L' : Obs} {K : AV → AW → Prop} {nm bs : Byts} {E : List Nat} {bv ev : AV} {br : Bool} {ef : Nat} {eo : Ob}
theorem s23 (hh : HK hk) (h3 : ld w S 3 = some ev) (he : Rs w 1 E.length ev (cst E)) (hK : K (.int .i64 (E.length : Nat)) w) : Cl Try.prog hk 23 [.ptr S 0] w K := by
 apply in23 (hh.no _ _ _ (by decide) (by decide))
 unfold F23
 refine ⟨false, by kernel_rfl, ifT_f ?_⟩
 simp only [onP]
 exact onM_s h3 ⟨_, he.len, hK⟩
end
end Go.Proofs.Ytdlogcincelccaa
/-
 A segment's file, purely: what its sectors tell.
 No condition beyond those that each theorem names.
-/
set_option linter.unusedSimpArgs false
open Go.Sx
set_option linter.unusedVariables false
set_option linter.unusedSimpArgs false
namespace Go.Proofs.Ytdlogcincelccaa
def chunk (b : Byts) (i : Nat) : Byts := (b.drop (i * 62)).take 62
def SecOk (b : Byts) (i : Nat) (s : Byts) : Prop := s.length = 64 ∧ (s.getD 0 0).toNat = (chunk b i).length ∧ (s.drop 2).take (chunk b i).length = chunk b i
theorem chunk_length (b : Byts) (i : Nat) : (chunk b i).length ≤ 62 := by unfold chunk; simp; omega
theorem sector_ok (b : Byts) (i : Nat) : SecOk b i (sector b i) := by
 have h := chunk_length b i
 refine ⟨sector_length b i, ?_, ?_⟩
 ·show (UInt8.ofNat (chunk b i).length).toNat = _
  rw [UInt8.toNat_ofNat']; omega
 ·show ((chunk b i) ++ List.replicate (62 - (chunk b i).length) 0).take (chunk b i).length = _
  rw [List.take_left' rfl]
theorem chunk_drop (b : Byts) (i : Nat) : chunk (b.drop 62) i = chunk b (i + 1) := by
 unfold chunk; rw [List.drop_drop, show 62 + i * 62 = (i + 1) * 62 by omega]
theorem getD_app {s r : Byts} (h : 0 < s.length) : (s ++ r).getD 0 0 = s.getD 0 0 := by
 cases s with
 | nil => simp at h
 | cons a s => rfl
theorem drop_app {s r : Byts} (h : s.length = 64) : (s ++ r).drop 64 = r := List.drop_left' h
theorem stream_of : ∀ (ss : List Byts) (b : Byts) (m : Nat), ss.length < m → ss.length = nsec b → (∀ i (h : i < ss.length), SecOk b i ss[i]) → streamN m ss.flatten = b
  | [], b, m, hm, hn, _ => by
    have hb : b = [] := by
      have : b.length = 0 := by unfold nsec at hn; simp at hn; omega
      simpa using this
    subst hb
    cases m with
    | zero => simp at hm
    | succ m => simp [streamN]
  | s :: ss, b, m, hm, hn, hs => by
    obtain ⟨m, rfl⟩ : ∃ m', m = m' + 1 := ⟨m - 1, by simp at hm; omega⟩
    obtain ⟨h64, hg, hd⟩ := hs 0 (by simp)
    simp only [List.getElem_cons_zero] at h64 hg hd
    have hc := chunk_length b 0
    unfold streamN
    rw [if_neg (by simp; omega)]
    simp only [List.flatten_cons]
    rw [getD_app (by omega), hg, if_neg (by omega), drop_app h64]
    have e1 : ((s ++ ss.flatten).drop 2).take (chunk b 0).length = chunk b 0 := by
      rw [List.drop_append_of_le_length (by omega), List.take_append_of_le_length (by simp; omega)]; exact hd
    rw [e1]
    have hcl : (chunk b 0).length = min 62 b.length := by unfold chunk; simp
    by_cases h62 : (chunk b 0).length < 62
    · rw [if_pos h62, List.append_nil]
      unfold chunk
      rw [Nat.zero_mul, List.drop_zero, List.take_of_length_le (by omega)]
    · rw [if_neg h62]
      have ih := stream_of ss (b.drop 62) m (by simp at hm; omega) (by unfold nsec at hn ⊢; simp at hn ⊢; omega) fun i h => by
        have := hs (i + 1) (by simp; omega)
        simp only [List.getElem_cons_succ] at this
        unfold SecOk at this ⊢
        rw [chunk_drop]; exact this
      rw [ih]
      unfold chunk
      rw [Nat.zero_mul, List.drop_zero, List.take_append_drop]
theorem SecOk.take {b : Byts} {n i : Nat} {s : Byts} (h : SecOk b i s) (hi : (i + 1) * 62 ≤ n) : SecOk (b.take n) i s := by
 have : chunk (b.take n) i = chunk b i := by
  unfold chunk
  rw [List.drop_take, List.take_take, Nat.min_eq_left (by omega)]
 unfold SecOk at h ⊢
 rw [this]; exact h
theorem SecOk.app {b r : Byts} {i : Nat} {s : Byts} (h : SecOk b i s) (hi : (i + 1) * 62 ≤ b.length) : SecOk (b ++ r) i s := by
 have : chunk (b ++ r) i = chunk b i := by
  unfold chunk
  rw [List.drop_append_of_le_length (by omega), List.take_append_of_le_length (by simp; omega)]
 unfold SecOk at h ⊢
 rw [this]; exact h
end Go.Proofs.Ytdlogcincelccaa
/-
 A disk with one file and no faults, purely.
 No condition beyond those that each theorem names.
-/
set_option linter.unusedSimpArgs false
open Go.Sx
set_option linter.unusedVariables false
set_option linter.unusedSimpArgs false
namespace Go.Proofs.Ytdlogcincelccaa
def Qu (d : Dsk) : Prop := d.down = false ∧ d.arm = 0 ∧ d.fault = 0
theorem qu_stopped {d : Dsk} (h : Qu d) : d.stopped = (d, 0) := by
 obtain ⟨h1, h2, h3⟩ := h
 obtain ⟨a, b, c, l, dn, ar, fa, wt⟩ := d
 simp only at h1 h2 h3
 subst h1; subst h2; subst h3
 rfl
theorem qu_more {d : Dsk} (h : Qu d) (l : List Stp) : d.more l = ({ d with steps := d.steps ++ l, now := l.foldl FS.does d.now }, 0) := by
 unfold Dsk.more
 rw [qu_stopped h]; simp
structure Fl (d : Dsk) (nm : Byts) (f : Int) (ss : List Byts) : Prop where
 qt : Qu d
 names : d.now.names = [(nm, f)]
 file : d.now.files f = ss
 now : d.steps.foldl FS.does d.safe = d.now
 st : ∀ (i : Nat) (x : Stp), d.steps[i]? = some x → x.file = f ∧ (x.what = 1 ∨ x.what = 2 ∨ (x.what = 0 ∧ i = 0))
section
variable {d : Dsk} {nm : Byts} {f : Int} {ss : List Byts}
theorem Fl.get (h : Fl d nm f ss) : nget d.now.names nm = some f := by rw [h.names]; simp [nget]
theorem Fl.read (h : Fl d nm f ss) : d.read nm = (ss.flatten, 0) := by
 unfold Dsk.read
 rw [h.get]
 simp [h.qt.1, h.file]
theorem st_snoc {l : List Stp} {x : Stp} (h : ∀ (i : Nat) (x : Stp), l[i]? = some x → x.file = f ∧ (x.what = 1 ∨ x.what = 2 ∨ (x.what = 0 ∧ i = 0))) (hx : x.file = f ∧ (x.what = 1 ∨ x.what = 2)) : ∀ (i : Nat) (y : Stp), (l ++ [x])[i]? = some y → y.file = f ∧ (y.what = 1 ∨ y.what = 2 ∨ (y.what = 0 ∧ i = 0)) := by
  intro i y hy
  rw [List.getElem?_append] at hy
  split at hy
  · exact h i y hy
  · rename_i hi
    cases hq : i - l.length with
    | zero =>
      rw [hq] at hy
      simp at hy
      subst hy
      exact ⟨hx.1, hx.2.elim .inl fun h => .inr (.inl h)⟩
    | succ n => rw [hq] at hy; simp at hy
theorem Fl.put (h : Fl d nm f ss) (hn : named nm = true) {j : Nat} {data : Byts} (hl : data.length = 64) (hj : j ≤ ss.length) (hj2 : j < 4096) : ∃ d', d.put nm j data = (d', 0) ∧ Fl d' nm f (putS ss j data) := by
 unfold Dsk.put
 simp only [h.get, hn, hl, Option.getD_some, h.file]
 rw [if_neg (by simp; omega), if_neg (by simp; omega), qu_more h.qt]
 refine ⟨_, rfl, h.qt, ?_, ?_, ?_, st_snoc h.st ⟨rfl, .inl rfl⟩⟩
 ·simp [FS.does, h.names]
 ·simp [FS.does, updF, h.file]
 ·simp only [List.foldl_append, h.now]
theorem Fl.cut (h : Fl d nm f ss) {n : Nat} (hn : n ≤ ss.length) : ∃ d', d.cut nm n = (d', 0) ∧ Fl d' nm f (ss.take n) := by
 unfold Dsk.cut
 simp only [h.get, h.file]
 rw [if_neg (by omega), qu_more h.qt]
 refine ⟨_, rfl, h.qt, ?_, ?_, ?_, st_snoc h.st ⟨rfl, .inr rfl⟩⟩
 ·simp [FS.does, h.names]
 ·simp [FS.does, updF, h.file]
 ·simp only [List.foldl_append, h.now]
theorem settle_all {so : Nat → Stp → Bool} : ∀ (l : List Stp) (i : Nat) (s : FS), (∀ j x, l[j]? = some x → so (i + j) x = true) → settleL so i l s = (l.foldl FS.does s, [])
  | [], _, _, _ => rfl
  | x :: l, i, s, h => by
    have h0 := h 0 x rfl
    rw [Nat.add_zero] at h0
    show (if so i x then settleL so (i + 1) l (s.does x) else _) = _
    rw [h0, if_pos rfl, settle_all l (i + 1) _ fun j y hy => by have := h (j + 1) y hy; rw [show i + 1 + j = i + (j + 1) by omega]; exact this]
    rfl
theorem Fl.sync (h : Fl d nm f ss) : ∃ d', d.sync nm = (d', 0) ∧ Fl d' nm f ss ∧ d'.steps = [] := by
  unfold Dsk.sync
  rw [h.get]
  simp only []
  unfold Dsk.settle
  rw [qu_stopped h.qt]
  rw [settle_all d.steps 0 d.safe fun j x hx => by
    obtain ⟨g1, g2⟩ := h.st j x hx
    rw [Nat.zero_add]
    rcases g2 with g2 | g2 | ⟨g2, rfl⟩
    · rw [if_pos (.inl g2)]; simpa using g1
    · rw [if_pos (.inr g2)]; simpa using g1
    · rw [if_neg (by rw [g2]; decide)]
      have : upto f d.steps = 0 := by
        cases hs : d.steps with
        | nil => rw [hs] at hx; simp at hx
        | cons y l =>
          rw [hs] at hx
          simp at hx
          subst hx
          unfold upto
          rw [List.findIdx?_cons]
          simp [g1, g2]
      rw [this]; simp]
  rw [if_neg (by simp)]
  exact ⟨_, rfl, ⟨h.qt, h.names, h.file, h.now, fun i x hx => by simp at hx⟩, rfl⟩
theorem Fl.first (hn : named nm = true) {data : Byts} (hl : data.length = 64) : ∃ d', Dsk.none.put nm ((0 : Nat) : Int) data = (d', 0) ∧ Fl d' nm 1 [data] := by
 unfold Dsk.put
 simp only [Dsk.none, FS.none, nget, hn, hl]
 refine ⟨_, by simp [Dsk.more, Dsk.stopped, spent]; rfl, ⟨rfl, rfl, rfl⟩, ?_, ?_, ?_, fun i x hx => ?_⟩
 ·simp [FS.does, nset]
 ·simp [FS.does, nset, updF, putS]
 ·rfl
 ·match i with
  | 0 => simp at hx; subst hx; exact ⟨rfl, .inr (.inr ⟨rfl, rfl⟩)⟩
  | 1 => simp at hx; subst hx; exact ⟨rfl, .inl rfl⟩
  | i + 2 => simp at hx
theorem putS_get {ss : List Byts} {j : Nat} {x : Byts} (hj : j ≤ ss.length) : (putS ss j x).length = max ss.length (j + 1) ∧ (∀ i, i < j → (putS ss j x)[i]? = ss[i]?) ∧ (putS ss j x)[j]? = some x := by
 unfold putS
 refine ⟨by simp; omega, fun i hi => ?_, ?_⟩
 ·rw [List.getElem?_set_ne (by omega), List.getElem?_append_left (by omega)]
 ·rw [List.getElem?_set_self (by simp; omega)]
theorem Fl.puts (hn : named nm = true) {b : Byts} : ∀ (m j : Nat) (d : Dsk) (ss : List Byts), Fl d nm f ss → j ≤ ss.length → j + m ≤ 4096 → ∃ d' ss', puts nm b m j d = (d', 0) ∧ Fl d' nm f ss' ∧ ss'.length = max ss.length (j + m) ∧ (∀ i, i < j → ss'[i]? = ss[i]?) ∧ ∀ i, j ≤ i → i < j + m → ss'[i]? = some (sector b i)
  | 0, j, d, ss, h, hj, _ => ⟨d, ss, rfl, h, by omega, fun _ _ => rfl, fun i h1 h2 => by omega⟩
  | m + 1, j, d, ss, h, hj, hm => by
    obtain ⟨d', h1, h2⟩ := h.put hn (data := sector b j) (sector_length b j) hj (by omega)
    obtain ⟨g1, g2, g3⟩ := putS_get (x := sector b j) hj
    obtain ⟨d2, ss2, k1, k2, k3, k4, k5⟩ := Fl.puts hn (b := b) m (j + 1) d' _ h2 (by rw [g1]; omega) (by omega)
    refine ⟨d2, ss2, ?_, k2, by rw [k3, g1]; omega, fun i hi => (k4 i (by omega)).trans (g2 i hi), fun i hi hi2 => ?_⟩
    · show (if (d.put nm j (sector b j)).2 ≠ 0 then d.put nm j (sector b j) else Ytdlogcincelccaa.puts nm b m (j + 1) (d.put nm j (sector b j)).1) = _
      rw [h1]; exact k1
    · by_cases hij : i = j
      · subst hij; exact (k4 i (by omega)).trans g3
      · exact k5 i (by omega) (by omega)
end
end Go.Proofs.Ytdlogcincelccaa
/-
 Frames and files of a segment, purely.
 No condition beyond those that each theorem names.
-/
set_option linter.unusedSimpArgs false
open Go.Sx
set_option linter.unusedVariables false
set_option linter.unusedSimpArgs false
namespace Go.Proofs.Ytdlogcincelccaa
theorem u32_congr {b c : Byts} {a : Nat} (h : ∀ i, i < a + 4 → b.getD i 0 = c.getD i 0) : u32 b a = u32 c a := by
 unfold u32
 rw [h a (by omega), h (a + 1) (by omega), h (a + 2) (by omega), h (a + 3) (by omega)]
theorem getD_appl {b c : Byts} {i : Nat} (h : i < b.length) : (b ++ c).getD i 0 = b.getD i 0 := by
 rw [List.getD_eq_getElem?_getD, List.getD_eq_getElem?_getD, List.getElem?_append_left h]
theorem u32_frame (b t : Byts) (ht : t.length ≤ 65536) : u32 (b ++ frame t) b.length = t.length := by
 have g : ∀ i, (b ++ frame t).getD (b.length + i) 0 = (frame t).getD i 0 := fun i => by
  rw [List.getD_eq_getElem?_getD, List.getD_eq_getElem?_getD, List.getElem?_append_right (by omega), show b.length + i - b.length = i by omega]
 have g0 := g 0
 rw [Nat.add_zero] at g0
 unfold u32
 rw [g0, g 1, g 2, g 3]
 show (UInt8.ofNat (t.length / 2 ^ 24)).toNat * 2 ^ 24 + (UInt8.ofNat (t.length / 2 ^ 16)).toNat * 2 ^ 16 + (UInt8.ofNat (t.length / 2 ^ 8)).toNat * 2 ^ 8 + (UInt8.ofNat t.length).toNat = _
 simp only [UInt8.toNat_ofNat']
 omega
theorem parse_app (t : Byts) (ht : t.length ≤ 65536) : ∀ (m M : Nat) (b : Byts) (a : Nat), a ≤ b.length → b.length - a < m → (b ++ frame t).length - a < M → (parseN m b a).getLastD a = b.length → parseN M (b ++ frame t) a = parseN m b a ++ [(b ++ frame t).length]
  | 0, _, _, _, _, h, _, _ => by omega
  | m + 1, M, b, a, h, hm, hM, hla => by
    have hfl := frame_length t
    have hbl : (b ++ frame t).length = b.length + (4 + t.length) := by rw [List.length_append, hfl]
    rw [hbl] at hM
    obtain ⟨M, rfl⟩ : ∃ M', M = M' + 1 := ⟨M - 1, by omega⟩
    have fin : a = b.length → parseN (M + 1) (b ++ frame t) a = [(b ++ frame t).length] := fun e => by
      subst e
      obtain ⟨M, rfl⟩ : ∃ M', M = M' + 1 := ⟨M - 1, by omega⟩
      rw [parseN, u32_frame b t ht, hbl, if_pos (by omega), if_neg (by omega), parseN, if_neg (by rw [hbl]; omega)]
      congr 1
      omega
    by_cases h1 : a + 4 ≤ b.length
    · by_cases h2 : 65536 < u32 b a ∨ b.length < a + 4 + u32 b a
      · have e : parseN (m + 1) b a = [] := by unfold parseN; rw [if_pos h1, if_pos h2]
        rw [e] at hla ⊢
        exact fin hla
      · have e : parseN (m + 1) b a = (a + 4 + u32 b a) :: parseN m b (a + 4 + u32 b a) := by rw [parseN, if_pos h1, if_neg h2]
        have h2' := not_or.1 h2
        rw [e, List.getLastD_cons] at hla
        have ih := parse_app t ht m M b (a + 4 + u32 b a) (by omega) (by omega) (by rw [hbl]; omega) hla
        have hu : u32 (b ++ frame t) a = u32 b a := u32_congr fun i hi => getD_appl (by omega)
        rw [e, parseN, hu, if_pos (by omega), if_neg (by omega), ih]
        rfl
    · have e : parseN (m + 1) b a = [] := by unfold parseN; rw [if_neg h1]
      rw [e] at hla ⊢
      exact fin hla
theorem ends_app {b t : Byts} (ht : t.length ≤ 65536) (h : sizeE (ends b) = b.length) : ends (b ++ frame t) = ends b ++ [(b ++ frame t).length] := by
 exact parse_app t ht (b.length + 1) ((b ++ frame t).length + 1) b 0 (Nat.zero_le _) (by omega) (by omega) h
end Go.Proofs.Ytdlogcincelccaa
/-
 What Open and Append leave, purely.
 No condition beyond those that each theorem names.
-/
set_option linter.unusedSimpArgs false
open Go.Sx
set_option linter.unusedVariables false
set_option linter.unusedSimpArgs false
namespace Go.Proofs.Ytdlogcincelccaa
structure Sect (ss : List Byts) (b : Byts) : Prop where
 len : ss.length = nsec b
 ok : ∀ i (h : i < ss.length), SecOk b i ss[i]
theorem flat_len : ∀ {ss : List Byts}, (∀ s ∈ ss, s.length = 64) → ss.flatten.length = ss.length * 64
  | [], _ => rfl
  | s :: ss, h => by
    rw [List.flatten_cons, List.length_append, h s List.mem_cons_self, flat_len fun t ht => h t (List.mem_cons_of_mem _ ht), List.length_cons]; omega
theorem Sect.l64 {ss : List Byts} {b : Byts} (h : Sect ss b) : ∀ s ∈ ss, s.length = 64 := fun s hs => by
 obtain ⟨i, hi, rfl⟩ := List.getElem_of_mem hs
 exact (h.ok i hi).1
theorem Sect.stream {ss : List Byts} {b : Byts} (h : Sect ss b) : Ytdlogcincelccaa.stream ss.flatten = b := by
 unfold Ytdlogcincelccaa.stream
 have := flat_len h.l64
 exact stream_of ss b _ (by omega) h.len h.ok
theorem flat_inj : ∀ {ss tt : List Byts}, (∀ s ∈ ss, s.length = 64) → (∀ s ∈ tt, s.length = 64) → ss.flatten = tt.flatten → ss = tt
  | [], [], _, _, _ => rfl
  | [], t :: tt, _, h, e => by
    have := congrArg List.length e
    rw [List.flatten_cons, List.length_append, h t List.mem_cons_self] at this
    simp at this; omega
  | s :: ss, [], h, _, e => by
    have := congrArg List.length e
    rw [List.flatten_cons, List.length_append, h s List.mem_cons_self] at this
    simp at this
  | s :: ss, t :: tt, h, h', e => by
    rw [List.flatten_cons, List.flatten_cons] at e
    obtain ⟨e1, e2⟩ := List.append_inj e (by rw [h s List.mem_cons_self, h' t List.mem_cons_self])
    rw [e1, flat_inj (fun x hx => h x (List.mem_cons_of_mem _ hx)) (fun x hx => h' x (List.mem_cons_of_mem _ hx)) e2]
section
variable {d : Dsk} {nm : Byts} {f : Int} {ss : List Byts}
theorem app_ok (hn : named nm = true) {B t : Byts} (h : Fl d nm f ss) (hs : Sect ss B) (hl : B.length + (4 + t.length) ≤ 253952) :
  ∃ d' ss', puts nm (B ++ frame t) (nsec (B ++ frame t) - B.length / 62) (B.length / 62) d = (d', 0) ∧ Fl d' nm f ss' ∧ Sect ss' (B ++ frame t) := by
 have hbl : (B ++ frame t).length = B.length + (4 + t.length) := by rw [List.length_append, frame_length]
 have hlen := hs.len
 have n1 : nsec B ≤ nsec (B ++ frame t) := by unfold nsec; omega
 have n2 : nsec (B ++ frame t) ≤ 4096 := by unfold nsec; omega
 have n3 : B.length / 62 ≤ nsec B := by unfold nsec; omega
 obtain ⟨d1, s1, p1, p2, p3, p4, p5⟩ := Fl.puts hn (b := B ++ frame t) (nsec (B ++ frame t) - B.length / 62) (B.length / 62) d ss h (by omega) (by omega)
 rw [show B.length / 62 + (nsec (B ++ frame t) - B.length / 62) = nsec (B ++ frame t) by omega] at p3 p5
 refine ⟨d1, s1, p1, p2, ⟨by omega, fun i hi => ?_⟩⟩
 have key : ∀ x, s1[i]? = some x → SecOk (B ++ frame t) i x → SecOk (B ++ frame t) i s1[i] := fun x hx hs => by
  rw [List.getElem?_eq_getElem hi] at hx
  cases hx; exact hs
 by_cases hif : i < B.length / 62
 ·have g : i < ss.length := by omega
  exact key _ ((p4 i hif).trans (List.getElem?_eq_getElem g)) ((hs.ok i g).app (by omega))
 ·exact key _ (p5 i (by omega) (by omega)) (sector_ok _ i)
theorem app_first (hn : named nm = true) {t : Byts} (hl : 4 + t.length ≤ 253952) :
  ∃ d' ss', puts nm ([] ++ frame t) (nsec ([] ++ frame t) - ([] : Byts).length / 62) (([] : Byts).length / 62) Dsk.none = (d', 0) ∧ Fl d' nm 1 ss' ∧ Sect ss' ([] ++ frame t) := by
 have hbl : ([] ++ frame t : Byts).length = 4 + t.length := by rw [List.nil_append, frame_length]
 generalize hB : ([] ++ frame t : Byts) = B at *
 have n2 : nsec B ≤ 4096 := by unfold nsec; omega
 obtain ⟨m, hm⟩ : ∃ m, nsec B = m + 1 := ⟨nsec B - 1, by unfold nsec; omega⟩
 obtain ⟨d0, q1, q2⟩ := Fl.first hn (sector_length B 0)
 obtain ⟨d1, s1, p1, p2, p3, p4, p5⟩ := Fl.puts hn (b := B) m 1 d0 _ q2 (by simp) (by omega)
 have e : puts nm B (nsec B - ([] : Byts).length / 62) (([] : Byts).length / 62) Dsk.none = (d1, 0) := by
  show puts nm B (nsec B) 0 Dsk.none = _
  rw [hm]
  show (if (Dsk.none.put nm ((0 : Nat) : Int) (sector B 0)).2 ≠ 0 then Dsk.none.put nm ((0 : Nat) : Int) (sector B 0) else puts nm B m 1 (Dsk.none.put nm ((0 : Nat) : Int) (sector B 0)).1) = _
  rw [q1]; exact p1
 refine ⟨d1, s1, e, p2, ⟨by rw [p3]; simp; omega, fun i hi => ?_⟩⟩
 have hi' : i < 1 + m := by rw [p3] at hi; simp at hi; omega
 have key : ∀ x, s1[i]? = some x → SecOk B i x → SecOk B i s1[i] := fun x hx hs => by
  rw [List.getElem?_eq_getElem hi] at hx
  cases hx; exact hs
 by_cases hif : i < 1
 ·obtain rfl : i = 0 := by omega
  exact key _ ((p4 0 (by omega)).trans rfl) (sector_ok B 0)
 ·exact key _ (p5 i (by omega) (by omega)) (sector_ok B i)
end
end Go.Proofs.Ytdlogcincelccaa
/-
 A segment's file through Open, Append, Sync and a crash.
 No condition beyond those that each theorem names.
-/
set_option linter.unusedSimpArgs false
open Go.Sx
set_option linter.unusedVariables false
set_option linter.unusedSimpArgs false
namespace Go.Proofs.Ytdlogcincelccaa
theorem stE_last (E : List Nat) : stE E E.length = sizeE E := by
  unfold stE sizeE
  rw [List.getLastD_eq_getLast?, List.getLast?_eq_getElem?]
  cases h : E.length with
  | zero => have : E = [] := by simpa using h
            subst this; rfl
  | succ n => rw [if_neg (by omega), List.getD_eq_getElem?_getD]
theorem asc_parse : ∀ (m : Nat) (b : Byts) (a : Nat), a ≤ b.length → ∀ i, i < (parseN m b a).length → (if i = 0 then a else (parseN m b a).getD (i - 1) 0) + 4 ≤ (parseN m b a).getD i 0 ∧ (parseN m b a).getD i 0 ≤ b.length
  | 0, _, _, _, i, h => by simp [parseN] at h
  | m + 1, b, a, h, i, hi => by
    by_cases h1 : a + 4 ≤ b.length
    · by_cases h2 : 65536 < u32 b a ∨ b.length < a + 4 + u32 b a
      · have e : parseN (m + 1) b a = [] := by unfold parseN; rw [if_pos h1, if_pos h2]
        rw [e] at hi; simp at hi
      · have e : parseN (m + 1) b a = (a + 4 + u32 b a) :: parseN m b (a + 4 + u32 b a) := by rw [parseN, if_pos h1, if_neg h2]
        have h2' := not_or.1 h2
        obtain ⟨u, hu⟩ : ∃ u, u32 b a = u := ⟨_, rfl⟩
        rw [hu] at e h2'
        clear hu h2
        rw [e] at hi ⊢
        cases i with
        | zero =>
          show a + 4 ≤ a + 4 + u ∧ a + 4 + u ≤ b.length
          exact ⟨by omega, by omega⟩
        | succ i =>
          have ih := asc_parse m b (a + 4 + u) (by omega) i (Nat.lt_of_succ_lt_succ hi)
          cases i with
          | zero => exact ih
          | succ i => exact ih
    · have e : parseN (m + 1) b a = [] := by unfold parseN; rw [if_neg h1]
      rw [e] at hi; simp at hi
theorem asc_ends (b : Byts) : Asc b (ends b) := fun i hi => asc_parse (b.length + 1) b 0 (Nat.zero_le _) i hi
theorem told_app {B t : Byts} {E : List Nat} (hE : sizeE E = B.length) (ha : Asc B E) : toldL (B ++ frame t) (E ++ [(B ++ frame t).length]) = toldL B E ++ [t] := by
 have hfl := frame_length t
 unfold toldL
 rw [show (E ++ [(B ++ frame t).length]).length = E.length + 1 by simp, List.range_succ, List.map_append]
 congr 1
 ·refine List.map_congr_left fun i hi => ?_
  have hi : i < E.length := List.mem_range.1 hi
  have g : ∀ q, q < E.length → (E ++ [(B ++ frame t).length]).getD q 0 = E.getD q 0 := fun q hq => by
   rw [List.getD_eq_getElem?_getD, List.getD_eq_getElem?_getD, List.getElem?_append_left hq]
  have hs : stE (E ++ [(B ++ frame t).length]) i = stE E i := by
   unfold stE
   split
   ·rfl
   ·exact g _ (by omega)
  unfold bd
  rw [g i hi, hs, List.take_append_of_le_length (ha i hi).2]
 ·have hs : stE (E ++ [(B ++ frame t).length]) E.length = B.length := by
   rw [← hE, ← stE_last]
   unfold stE
   split
   ·rfl
   ·rw [List.getD_eq_getElem?_getD, List.getD_eq_getElem?_getD, List.getElem?_append_left (by omega)]
  have hg : (E ++ [(B ++ frame t).length]).getD E.length 0 = (B ++ frame t).length := by
   rw [List.getD_eq_getElem?_getD, List.getElem?_append_right (Nat.le_refl _)]; simp
  simp only [List.map_cons, List.map_nil]
  unfold bd
  rw [hg, hs, List.take_length, List.drop_append, List.drop_of_length_le (by omega), List.nil_append, show B.length + 4 - B.length = 4 by omega]
  congr 1
theorem open_none {nm : Byts} : openD nm Dsk.none = (Dsk.none, 0) := by
 unfold openD
 have : Dsk.none.read nm = ([], 70) := rfl
 rw [this]
 simp only []
 rw [if_neg (by simp)]
 have : (clean (kept []) == ([] : Byts)) = true := by rfl
 rw [this, if_pos rfl]
end Go.Proofs.Ytdlogcincelccaa
/-
 A segment's file on a disk whose power may go, purely: its sectors.
 No condition beyond those that each theorem names.
-/
set_option linter.unusedSimpArgs false
open Go.Sx
set_option linter.unusedVariables false
set_option linter.unusedSimpArgs false
namespace Go.Proofs.Ytdlogcincelccaa
def PSec (b : Byts) (n i : Nat) (s : Byts) : Prop := ∃ m, n ≤ m ∧ m ≤ b.length ∧ SecOk (b.take m) i s
structure PF (b : Byts) (n : Nat) (ss : List Byts) : Prop where
 ln : n ≤ ss.length * 62
 up : ss.length ≤ nsec b
 ok : ∀ i (h : i < ss.length), PSec b n i ss[i]
/-! ### Frames -/
def cat (l : List Byts) : Byts := (l.map frame).flatten
theorem cat_snoc (l : List Byts) (t : Byts) : cat (l ++ [t]) = cat l ++ frame t := by simp [cat]
theorem cat_told : ∀ (n : Nat) (l : List Byts), l.length = n → (∀ t ∈ l, t.length ≤ 65536) → (ends (cat l)).length = l.length ∧ sizeE (ends (cat l)) = (cat l).length ∧ toldL (cat l) (ends (cat l)) = l
  | 0, l, hn, _ => by
    obtain rfl : l = [] := by simpa using hn
    exact ⟨rfl, rfl, rfl⟩
  | n + 1, l, hn, h => by
    obtain ⟨r, t, rfl⟩ : ∃ r t, l = r ++ [t] := by
      rcases List.eq_nil_or_concat l with e | ⟨r, t, e⟩
      · subst e; simp at hn
      · exact ⟨r, t, by simpa using e⟩
    obtain ⟨g1, g2, g3⟩ := cat_told n r (by simpa using hn) fun t ht => h t (by simp [ht])
    have ht := h t (by simp)
    rw [cat_snoc, ends_app ht g2]
    refine ⟨by simp [g1], by unfold sizeE; simp, ?_⟩
    rw [told_app g2 (asc_ends _), g3]
theorem parse_part (t r : Byts) (ht : t.length ≤ 65536) (hr : r.length < 4 + t.length) (hp : r = (frame t).take r.length) : ∀ (m M : Nat) (b : Byts) (a : Nat), a ≤ b.length → b.length - a < m → (b ++ r).length - a < M → (parseN m b a).getLastD a = b.length → parseN M (b ++ r) a = parseN m b a
  | 0, _, _, _, _, h, _, _ => by omega
  | m + 1, M, b, a, h, hm, hM, hla => by
    have hfl := frame_length t
    have hbl : (b ++ r).length = b.length + r.length := List.length_append
    rw [hbl] at hM
    obtain ⟨M, rfl⟩ : ∃ M', M = M' + 1 := ⟨M - 1, by omega⟩
    have fin : a = b.length → parseN (M + 1) (b ++ r) a = [] := fun e => by
      subst e
      rw [parseN, hbl]
      by_cases h4 : b.length + 4 ≤ b.length + r.length
      · have hu : u32 (b ++ r) b.length = t.length := by
          rw [← u32_frame b t ht]
          refine u32_congr fun i hi => ?_
          by_cases hib : i < b.length
          · rw [getD_appl hib, getD_appl hib]
          · rw [List.getD_eq_getElem?_getD, List.getD_eq_getElem?_getD, List.getElem?_append_right (by omega), List.getElem?_append_right (by omega)]
            rw [hp, List.getElem?_take, if_pos (by omega)]
        rw [if_pos h4, hu, if_pos (.inr (by omega))]
      · rw [if_neg h4]
    by_cases h1 : a + 4 ≤ b.length
    · by_cases h2 : 65536 < u32 b a ∨ b.length < a + 4 + u32 b a
      · have e : parseN (m + 1) b a = [] := by unfold parseN; rw [if_pos h1, if_pos h2]
        rw [e] at hla ⊢
        exact fin hla
      · have e : parseN (m + 1) b a = (a + 4 + u32 b a) :: parseN m b (a + 4 + u32 b a) := by rw [parseN, if_pos h1, if_neg h2]
        have h2' := not_or.1 h2
        rw [e, List.getLastD_cons] at hla
        have ih := parse_part t r ht hr hp m M b (a + 4 + u32 b a) (by omega) (by omega) (by rw [hbl]; omega) hla
        have hu : u32 (b ++ r) a = u32 b a := u32_congr fun i hi => getD_appl (by omega)
        rw [e, parseN, hu, hbl, if_pos (by omega), if_neg (by omega), ih]
    · have e : parseN (m + 1) b a = [] := by unfold parseN; rw [if_neg h1]
      rw [e] at hla ⊢
      exact fin hla
theorem cat_take : ∀ (n : Nat) (l : List Byts) (m : Nat), l.length = n → (∀ t ∈ l, t.length ≤ 65536) → m ≤ (cat l).length → ∃ q, q ≤ l.length ∧ ends ((cat l).take m) = ends (cat (l.take q)) ∧ (cat (l.take q)).length ≤ m ∧ ∀ p, p ≤ l.length → (cat (l.take p)).length ≤ m → p ≤ q
  | 0, l, m, hn, _, hm => by
    obtain rfl : l = [] := by simpa using hn
    exact ⟨0, Nat.le_refl _, by simp [cat], by simp [cat], fun p hp _ => by simpa using hp⟩
  | n + 1, l, m, hn, h, hm => by
    obtain ⟨r, t, rfl⟩ : ∃ r t, l = r ++ [t] := by
      rcases List.eq_nil_or_concat l with e | ⟨r, t, e⟩
      · subst e; simp at hn
      · exact ⟨r, t, by simpa using e⟩
    have hrn : r.length = n := by simpa using hn
    have hr := fun u hu => h u (List.mem_append_left [t] hu)
    have ht := h t (by simp)
    have hfl := frame_length t
    rw [cat_snoc] at hm ⊢
    have hal : (cat r ++ frame t).length = (cat r).length + (4 + t.length) := by rw [List.length_append, hfl]
    by_cases hfull : m = (cat r ++ frame t).length
    · refine ⟨r.length + 1, by simp, ?_, ?_, fun p hp _ => by simpa using hp⟩
      · rw [hfull, List.take_length, List.take_of_length_le (by simp), cat_snoc]
      · rw [List.take_of_length_le (by simp), cat_snoc, hfull]; exact Nat.le_refl _
    · by_cases hm2 : m ≤ (cat r).length
      · by_cases hm3 : m = (cat r).length
        · refine ⟨r.length, by simp, ?_, ?_, fun p hp hl => ?_⟩
          · rw [hm3, List.take_append_of_le_length (Nat.le_refl _), List.take_length, List.take_append_of_le_length (Nat.le_refl _), List.take_length]
          · rw [List.take_append_of_le_length (Nat.le_refl _), List.take_length]; omega
          · simp at hp
            by_cases hp2 : p = r.length + 1
            · exfalso
              rw [hp2, List.take_of_length_le (by simp), cat_snoc] at hl
              omega
            · omega
        · obtain ⟨q, q1, q2, q3, q4⟩ := cat_take n r m hrn hr hm2
          refine ⟨q, by simp; omega, ?_, ?_, fun p hp hl => ?_⟩
          · rw [List.take_append_of_le_length hm2, List.take_append_of_le_length q1]; exact q2
          · rw [List.take_append_of_le_length q1]; exact q3
          · simp at hp
            by_cases hp2 : p = r.length + 1
            · exfalso
              rw [hp2, List.take_of_length_le (by simp), cat_snoc] at hl
              omega
            · rw [List.take_append_of_le_length (by omega)] at hl
              exact q4 p (by omega) hl
      · obtain ⟨g1, g2, g3⟩ := cat_told n r hrn hr
        refine ⟨r.length, by simp, ?_, ?_, fun p hp hl => ?_⟩
        · rw [List.take_append_of_le_length (Nat.le_refl _), List.take_length]
          rw [List.take_append, List.take_of_length_le (by omega)]
          have hrl : ((frame t).take (m - (cat r).length)).length = m - (cat r).length := by rw [List.length_take]; omega
          exact parse_part t ((frame t).take (m - (cat r).length)) ht (by omega) (by rw [hrl]) ((cat r).length + 1) _ (cat r) 0 (Nat.zero_le _) (by omega) (by omega) g2
        · rw [List.take_append_of_le_length (Nat.le_refl _), List.take_length]; omega
        · simp at hp
          by_cases hp2 : p = r.length + 1
          · exfalso
            rw [hp2, List.take_of_length_le (by simp), cat_snoc] at hl
            omega
          · omega
end Go.Proofs.Ytdlogcincelccaa
/-
 A segment's file on a disk whose power may go, purely: the disk.
 No condition beyond those that each theorem names.
-/
set_option linter.unusedSimpArgs false
open Go.Sx
set_option linter.unusedVariables false
set_option linter.unusedSimpArgs false
namespace Go.Proofs.Ytdlogcincelccaa
def SP (b : Byts) (n : Nat) (nm : Byts) (x : Stp) : Prop := (x.what = 0 ∧ x.name = nm) ∨ (x.what = 1 ∧ x.n.toNat < nsec b ∧ PSec b n x.n.toNat x.data) ∨ (x.what = 2 ∧ n ≤ x.n.toNat * 62)
structure Kd (d : Dsk) (nm : Byts) (f : Int) (b : Byts) (n : Nat) : Prop where
 fault : d.fault = 0
 names : d.now.names = [(nm, f)]
 now : d.steps.foldl FS.does d.safe = d.now
 sn : d.safe.names = [(nm, f)] ∨ (d.safe.names = [] ∧ n = 0)
 sf : PF b n (d.safe.files f)
 st : ∀ x ∈ d.steps, SP b n nm x
 st0 : ∀ (i : Nat) (x : Stp), d.steps[i]? = some x → x.file = f ∧ (x.what = 1 ∨ x.what = 2 ∨ (x.what = 0 ∧ i = 0))
 nb : n ≤ b.length
section
variable {d d' : Dsk} {nm b : Byts} {f : Int} {n n' : Nat}
end
end Go.Proofs.Ytdlogcincelccaa
/-
 Broken, Made, Pick, begins, Clone, Sync, Truncate, over memory.
 No condition beyond those that each theorem names.
-/
set_option linter.unusedSimpArgs false
open Go.Sx
set_option linter.unusedVariables false
set_option linter.unusedSimpArgs false
namespace Go.Proofs.Ytdlogcincelccaa
theorem wrap8_range (x : Int) : 0 ≤ IntKind.wrap .u8 x ∧ IntKind.wrap .u8 x < 256 := by
 simp only [IntKind.wrap, IntKind.bits, IntKind.signed, Bool.false_and, Bool.false_eq_true, if_false, decide_false]
 exact ⟨Int.emod_nonneg _ (by decide), by have := Int.emod_lt_of_pos x (show (0 : Int) < 2 ^ 8 by decide); simpa using this⟩
theorem of8 (x : Int) : ((UInt8.ofNat (IntKind.wrap .u8 x).toNat).toNat : Int) = IntKind.wrap .u8 x := by
 have := wrap8_range x
 rw [UInt8.toNat_ofNat']; omega
section
variable {hk : Hook} {A B : Nat → Prop} {I : List Nat} {w0 w w' : AW} {D S : Nat} {i i' : DI} {d d' : Dsk} {k k' : Nat} {L L' : Obs} {K : AV → AW → Prop} {nm bs : Byts} {E : List Nat} {bv ev : AV} {br : Bool} {ef : Nat} {eo : Ob}
theorem s24 (hh : HK hk) (h0 : ld w S 0 = some (.ptr D 0)) (h4 : ld w S 4 = some (.bool br)) (hK : K (.bool br) w) : Cl Try.prog hk 24 [.ptr S 0] w K := by
 apply in24 (hh.no _ _ _ (by decide) (by decide))
 unfold F24
 refine s39 (D := D) (br := br) hh h0 h4 ⟨_, rfl, ?_⟩
 cases br <;> exact hK
theorem s25 {seed : Int} {n : Nat} (hh : HK hk) (hm : Mem w) (hw : 0 < w.size) (hn : n < 2 ^ 20) (hK : ∀ (t : Byts) w', Fr w.size w w' → Box w' w.size (cellsOfBytes t) → t.length = n → K (.slice w.size 0 n n none) w') : Cl Try.prog hk 25 [.int .i64 seed, .int .i64 (n : Int)] w K := by
 apply in25 (hh.no _ _ _ (by decide) (by decide))
 unfold F25
 refine onM_s (v := n) rfl (onM_s (v := n) rfl (gd_t ?_ (new_of hm fun w5 f5 b5 z5 => ?_)))
 ·rw [show Nat.ble n n = true by rw [Nat.ble_eq]; omega, show Nat.ble (n * 1) (2 ^ 47) = true by rw [Nat.ble_eq]; omega, show Nat.blt n (2 ^ 63) = true by rw [Nat.blt_eq]; omega]; rfl
 rw [repl_eq] at b5
 have b5 : Box w5 w.size (cellsOfBytes (List.replicate n 0)) := by
  have e : List.replicate n (AV.int .u8 0) = cellsOfBytes (List.replicate n 0) := by simp [cellsOfBytes]
  rw [← e]; exact b5
 show loopP [.int .u64 _, .int .i64 0] w5 _
 refine loopP_ind (fun m l w10 => ∃ (j : Nat) (x : Int) (t : List UInt8), j ≤ n ∧ m = n - j ∧ l = [.int .u64 x, .int .i64 j] ∧ Fr w.size w w10 ∧ w.size < w10.size ∧ Box w10 w.size (cellsOfBytes t) ∧ t.length = n) ?_
  ⟨0, _, _, Nat.zero_le _, rfl, rfl, f5, by omega, b5, by simp⟩
 rintro m l w10 ⟨j, x, t, hi, rfl, rfl, f10, z10, b10, htl⟩ R ih
 refine ⟨_, _, rfl, fun _ => ifT_d (fun hc => ?_) fun hc => ?_⟩
 ·have hin : j < n := by omega
  refine join_of (fun l w14 => ∃ x', l = [.int .u64 x'] ∧ w14 = w10) ?_ ?_
  ·rintro l w14 ⟨x', rfl, rfl⟩
   refine ⟨_, rfl, fun _ => ?_⟩
   show atP _ _
   refine idx0 hin ?_
   have hb8 := of8 (shrI .u64 x' 40)
   rw [← hb8]
   refine b10.put' f10.mem (by omega) (by rw [cellsOfBytes_length]; simp; omega) fun w20 c20 b20 z20 => ?_
   rw [bytes_set _ _ _ (by omega)] at b20
   exact ih (n - (j + 1)) (by omega) _ _ ⟨j + 1, x', t.set j _, by omega, rfl, by rw [wi_eq (by omega) (by omega)]; rfl, f10.trans (c20.fr (n := w.size) (by omega) (by simp)) (Nat.le_refl _), by omega, b20, by simp [htl]⟩
  ·intro J hJ
   exact ifT_d (fun h => hJ _ _ ⟨_, rfl, rfl⟩) fun h => hJ _ _ ⟨_, rfl, rfl⟩
 ·exact hK t _ f10 b10 htl
theorem slS_ne {sz b o n cap : Nat} {ex : Option Nat} {lo hi mx : Option AV} {v : AV} (h : slS sz (.slice b o n cap ex) lo hi mx = some v) : v ≠ .nilslice := by
 rintro rfl
 simp only [slS, Option.bind_eq_some_iff] at h
 obtain ⟨_, _, _, _, _, _, h⟩ := h
 unfold guardO at h
 revert h
 cases (okB _ _ _ _ && okEx _ _ && _) <;> intro h <;> cases h
theorem s52 {v : AV} {es : List Int} (hh : HK hk) (hm : Mem w) (hw : 0 < w.size) (h : RsI w v es) (hv : v ≠ .nilslice) (hs : es.length < 2 ^ 30) (hK : ∀ c ex w', Fr w.size w w' → w.size ≤ c → Box w' c (es.map (AV.int .i64)) → (ex = none ∨ ex = some 1) → K (.slice c 0 es.length es.length ex) w') : Cl Try.prog hk 52 [v] w K := by
 apply in52 (hh.no _ _ _ (by decide) (by decide))
 unfold F52
 have hsl : ∃ b o n cap ex, v = .slice b o n cap ex := by
  rcases h with ⟨rfl, _⟩ | ⟨b, o, cap, ex, al, rfl, _⟩
  ·exact absurd rfl hv
  ·exact ⟨_, _, _, _, _, rfl⟩
 obtain ⟨b, o, n, cap, ex, rfl⟩ := hsl
 refine ⟨false, by kernel_rfl, ifT_f (new_of hm fun w3 f3 b3 z3 => ?_)⟩
 have h3 : RsI w3 (.slice b o n cap ex) es := Rs.fr h hm f3 (Nat.le_refl _)
 have hx := Rs.src h3
 by_cases hn : es.length = 0
 ·have : es = [] := by simpa using hn
  subst this
  refine onE_s (v := .slice w.size 0 0 0 none) (w := w3) ?_ (hK w.size none w3 f3 (Nat.le_refl _) b3 (.inl rfl))
  simp only [appS, hx.read, Option.bind_some]; rfl
 ·have f1 : Fr w3.size w3 (newCells w3 (es.map (AV.int .i64))) := Fr.push f3.mem fun cs' f own d e => by cases e; exact Nat.le_refl _
  have b1 : Box (newCells w3 (es.map (AV.int .i64))) w3.size (es.map (AV.int .i64)) := by simp [Box, newCells, cellsAO]
  refine onE_s (v := .slice w3.size 0 es.length es.length (some 1)) (w := newCells w3 (es.map (AV.int .i64))) ?_ (hK _ _ _ (f3.trans f1 (by omega)) (by omega) b1 (.inr rfl))
  have e0 : Nat.ble es.length 0 = false := by
   cases he : Nat.ble es.length 0 with
   | false => rfl
   | true => rw [Nat.ble_eq] at he; omega
  have e1 : Nat.blt ((2 * es.length + 1000) * 8) Sx.room = true := by rw [Nat.blt_eq]; unfold Sx.room; omega
  have e2 : Nat.blt es.length (2 ^ 62) = true := by rw [Nat.blt_eq]; omega
  have e4 : takeCells ([] : List AV) 0 (0 * 1) = some [] := rfl
  simp only [appS, hx.read, Option.bind_some, beq_ff hn, cond_false, hx.ok, guardO, e0, e1, e2, Bool.and_self, cond_true, growA, b3.cells, e4, List.nil_append, Nat.zero_add]
  rfl
theorem s17 (hh : HK hk) (h : Dk A I w0 w D i d k ((S, .row (segC D nm bv ev false)) :: L))
  (hK : ∀ i' w', Dk A I w0 w' D i' (d.sync nm).1 k ((S, .row (segC D nm bv ev (decide ((d.sync nm).2 ≠ 0 ∧ (d.sync nm).2 ≠ 70)))) :: L) → Xt (dkU D i ((S, .row (segC D nm bv ev false)) :: L)) w (dkU D i' ((S, .row (segC D nm bv ev (decide ((d.sync nm).2 ≠ 0 ∧ (d.sync nm).2 ≠ 70)))) :: L)) w' → K (.int .i64 (if (d.sync nm).2 = 70 then 0 else (d.sync nm).2)) w') : Cl Try.prog hk 17 [.ptr S 0] w K := by
 apply in17 (hh.no _ _ _ (by decide) (by decide))
 unfold F17
 refine s39 (D := D) (br := false) hh (h.ow.ld 6 rfl rfl) (h.ow.ld 6 rfl rfl) ⟨0, rfl, ifT_f ?_⟩
 simp only [onP]
 refine onM_s (v := .ptr D 0) (h.ow.ld 6 rfl rfl) ⟨nm, h.ow.ld 6 rfl rfl, s44 hh h ?_⟩
 generalize d.sync nm = r at *
 obtain ⟨d1, e⟩ := r
 intro i' w' h' x'
 refine ⟨e, rfl, ?_⟩
 simp only at hK h' x'
 refine ifT_d (fun he => ?_) fun he => s43 hh (fun h0 => ⟨e, by rw [h0], ?_⟩) fun h0 => ?_
 ·subst he
  exact hK i' w' h' x'
 ·subst h0
  exact hK i' w' h' x'
 ·rw [show decide (e ≠ 0 ∧ e ≠ 70) = true by simp [h0, he], if_neg he] at hK
  exact h'.wr 0 rfl (by simp [segC]) fun w2 h2 x2 => ⟨e, rfl, hK i' w2 h2 (x'.trans x2)⟩
theorem dk_pushAcc (h : Dk A I w0 w D i d k L) (hf : Fr w.size w w') {b : Nat} {cs : List AV} (hb : Box w' b cs) (hl : w.size ≤ b) : Dk A I w0 w' D i d k ((b, .acc b cs) :: L) ∧ Xt (dkU D i L) w (dkU D i ((b, .acc b cs) :: L)) w' := by
 obtain ⟨st, x⟩ := h.ow.push (p := (b, .acc b cs)) rfl hf hl ⟨⟨b, false, hb⟩, AW.root?_iff.2 ⟨_, hb, rfl⟩⟩
 obtain ⟨st2, x2⟩ := st.perm (L' := dkL D i d ((b, .acc b cs) :: L)) dkL_mid
 have x3 : Xt (dkU D i L) w (dkU D i ((b, .acc b cs) :: L)) w' := x.trans x2
 exact ⟨h.x st2 x3, x3⟩
set_option maxRecDepth 20000 in
theorem s22 {m : Nat} (hh : HK hk) (h : Dk A [] w0 w D i d k ((S, .row (segC D nm bv ev false)) :: (ef, eo) :: L)) (hbs : (rL rU).rd (fz A (dkU D i ((S, .row (segC D nm bv ev false)) :: (ef, eo) :: L))) w [bv] bs) (hes : Sv 1 eo ev (cst E))
  (hm : m < E.length) (hE2 : E.length < 2 ^ 29) (hst : stE E m ≤ bs.length) (hl : bs.length ≤ 253952) (hkk : k + 10000 < 2 ^ 27)
  (hK : ∀ i' w' bv' ev' ef' eo', Dk A [] w0 w' D i' (trimD nm (bs.take (stE E m)) d).1 (k + 10000) ((S, .row (segC D nm bv' ev' (decide ((trimD nm (bs.take (stE E m)) d).2 ≠ 0)))) :: (ef', eo') :: L) →
   Xt (dkU D i ((S, .row (segC D nm bv ev false)) :: (ef, eo) :: L)) w (dkU D i' ((S, .row (segC D nm bv' ev' (decide ((trimD nm (bs.take (stE E m)) d).2 ≠ 0)))) :: (ef', eo') :: L)) w' →
   (rL rU).rd (fz A (dkU D i' ((S, .row (segC D nm bv' ev' (decide ((trimD nm (bs.take (stE E m)) d).2 ≠ 0)))) :: (ef', eo') :: L))) w' [bv'] (bs.take (stE E m)) → Sv 1 eo' ev' (cst (E.take m)) → K (.int .i64 (trimD nm (bs.take (stE E m)) d).2) w') :
  Cl Try.prog hk 22 [.ptr S 0, .int .i64 (m : Int)] w K := by
 apply in22 (hh.no _ _ _ (by decide) (by decide))
 unfold F22
 have hrs := h.ow.sv (i := 7) (f := ef) (o := eo) rfl hes (by decide) (k := E.length) (by rw [cst_length]; omega)
 refine s39 (D := D) (br := false) hh (h.ow.ld 6 rfl rfl) (h.ow.ld 6 rfl rfl) ⟨0, rfl, ifT_f (ifT_d (fun h => by omega) fun _ => ?_)⟩
 simp only [onP]
 refine onM_s (v := ev) (h.ow.ld 6 rfl rfl) ⟨_, hrs.len, ifT_d (fun h => by omega) fun _ => ?_⟩
 refine onM_s (v := ev) (h.ow.ld 6 rfl rfl) ⟨_, hrs.len, ifT_d (fun h => by omega) fun _ => ?_⟩
 refine onM_s (v := bv) (h.ow.ld 6 rfl rfl) ?_
 have ecst : (E.map fun n : Nat => ((n : Nat) : Int)).map (AV.int .i64) = cst E := by simp [cst]
 have hI : RsI w ev (E.map fun n : Nat => ((n : Nat) : Int)) := by
  unfold RsI
  rw [ecst, List.length_map]; exact hrs
 refine s50 (i0 := m) hh (fun _ => h.ow.ld 6 rfl rfl) (fun _ => hI) (by simp; omega) (by omega) ⟨_, rfl, h.ow.ld 6 rfl rfl, ?_⟩
 have est : (if m = 0 then (0 : Int) else (E.map fun n : Nat => ((n : Nat) : Int)).getD (m - 1) 0) = ((stE E m : Nat) : Int) := by
  unfold stE
  split
  ·rfl
  ·rw [List.getD_eq_getElem?_getD, List.getD_eq_getElem?_getD, List.getElem?_map, List.getElem?_eq_getElem (by omega)]; rfl
 rw [est]
 obtain ⟨v19, hc19, hr19⟩ := hbs.cut (i := 0) (j := stE E m) (Nat.zero_le _) hst (.inr ⟨rfl, rfl⟩) (.inl rfl)
 refine onM_s hc19 (s49 hh h.ow.P hr19 (by simp; omega) fun v20 w21 f21 hg21 => ?_)
 rw [List.drop_zero] at hg21
 obtain ⟨h21, x21⟩ := h.fr f21
 have hr20 := hg21.rd (by decide)
 refine gd_t hr20.ok1 (h21.wr 0 rfl (by simp [segC]) fun w24 h24 x24 => ?_)
 refine onM_s (v := ev) (h24.ow.ld 6 rfl rfl) ?_
 have hrs24 := h24.ow.sv (i := 7) (f := ef) (o := eo) rfl hes (by decide) (k := E.length) (by rw [cst_length]; omega)
 have hne : ev ≠ .nilslice := by
  rintro rfl
  rcases hes with ⟨_, h2⟩ | ⟨_, _, _, _, h2, _⟩
  ·have := congrArg List.length h2
   rw [cst_length] at this
   have : E.length = 0 := this
   omega
  ·cases h2
 have hcut : ∃ v28, slS 1 ev none (some (.int .i64 (m : Int))) none = some v28 ∧ v28 ≠ .nilslice ∧ RsI w24 v28 ((E.take m).map fun n : Nat => ((n : Nat) : Int)) := by
  have hI24 : RsI w24 ev (E.map fun n : Nat => ((n : Nat) : Int)) := by
   unfold RsI
   rw [ecst, List.length_map]; exact hrs24
  rcases hes with ⟨h1, _⟩ | ⟨b, n, ex, ho, rfl, hn, hex⟩
  ·exact absurd h1 hne
  ·have hrd := hI24.rd (A := fun _ => True) (fun b' o' n' cap' ex' he => by
    cases he
    exact ⟨Nat.le_refl _, by rcases hex with rfl | rfl <;> rfl⟩) fun _ _ _ _ _ => ⟨trivial, trivial⟩
   obtain ⟨v28, hc, hr⟩ := hrd.cut (i := 0) (j := m) (Nat.zero_le _) (by simp; omega) (.inr ⟨rfl, rfl⟩) (.inl rfl)
   refine ⟨v28, hc, slS_ne hc, ?_⟩
   have := hr.rsI
   rw [List.drop_zero, ← List.map_take] at this; exact this
 obtain ⟨v28, hc28, hn28, hr28⟩ := hcut
 refine onM_s hc28 (s52 hh h24.ow.mem h24.ow.P0.pos hr28 hn28 (by simp; omega) fun c ex w30 f30 hc b30 hex => ?_)
 have e5 : ((E.take m).map fun n : Nat => ((n : Nat) : Int)).map (AV.int .i64) = cst (E.take m) := by unfold cst; rw [List.map_map]; rfl
 rw [e5] at b30
 obtain ⟨h30, x30⟩ := dk_pushAcc h24 f30 b30 hc
 have hsv : Sv 1 (.acc c (cst (E.take m))) (.slice c 0 ((E.take m).map fun n : Nat => ((n : Nat) : Int)).length ((E.take m).map fun n : Nat => ((n : Nat) : Int)).length ex) (cst (E.take m)) :=
  .inr ⟨c, _, ex, rfl, rfl, by rw [cst_length, List.length_map, Nat.mul_one], hex⟩
 refine gd_t rfl (h30.wr 1 rfl (by simp [segC, listPut]) fun w33 h33 x33 => ?_)
 have hp : List.Perm [(c, Ob.acc c (cst (E.take m))), (S, .row (segC D nm v20 (.slice c 0 ((E.take m).map fun n : Nat => ((n : Nat) : Int)).length ((E.take m).map fun n : Nat => ((n : Nat) : Int)).length ex) false)), (ef, eo)] [(ef, eo), (S, .row (segC D nm v20 (.slice c 0 ((E.take m).map fun n : Nat => ((n : Nat) : Int)).length ((E.take m).map fun n : Nat => ((n : Nat) : Int)).length ex) false)), (c, Ob.acc c (cst (E.take m)))] :=
  (List.reverse_perm _).symm
 obtain ⟨h34, x34⟩ := h33.permL (L' := (ef, eo) :: (S, .row (segC D nm v20 (.slice c 0 ((E.take m).map fun n : Nat => ((n : Nat) : Int)).length ((E.take m).map fun n : Nat => ((n : Nat) : Int)).length ex) false)) :: (c, Ob.acc c (cst (E.take m))) :: L) (List.Perm.append_right L hp)
 obtain ⟨h35, x35⟩ := h34.forget
 have xx := (((((x21.trans x24).trans x30).trans x33).trans x34).trans x35)
 have hr35 := ((((hr20.x x24).x x30).x x33).x x34).x x35
 refine s38 hh h35 hr35 (by simp; omega) hkk fun i' w' h' x' => ?_
 exact ⟨_, rfl, hK i' w' _ _ _ _ h' (xx.trans x') (hr35.x x') hsv⟩
end
end Go.Proofs.Ytdlogcincelccaa
/-
 A segment's calls that are refused, over memory.
 No condition beyond those that each theorem names.
-/
set_option linter.unusedSimpArgs false
open Go.Sx
set_option linter.unusedVariables false
set_option linter.unusedSimpArgs false
namespace Go.Proofs.Ytdlogcincelccaa
section
variable {hk : Hook} {A B : Nat → Prop} {I : List Nat} {w0 w w' : AW} {D S : Nat} {i i' : DI} {d d' : Dsk} {k k' : Nat} {L L' : Obs} {K : AV → AW → Prop} {nm bs : Byts} {E : List Nat} {bv ev : AV} {br : Bool} {ef : Nat} {eo : Ob}
theorem s40l {v : AV} {n : Nat} (hh : HK hk) (h : lenS v = some (.int .i64 (n : Int))) (hn : 65536 < n) (hK : K (.tup [.nilslice, .int .i64 3]) w) : Cl Try.prog hk 40 [v] w K := by
 apply in40 (hh.no _ _ _ (by decide) (by decide))
 unfold F40
 exact ⟨_, h, ifT_d (fun _ => hK) fun hc => absurd (show (65536 : Int) < (n : Int) by omega) hc⟩
theorem s16b {dv : AV} (hh : HK hk) (h : Dk A I w0 w D i d k ((S, .row (segC D nm bv ev true)) :: L)) (hK : ∀ w', Dk A I w0 w' D i d k ((S, .row (segC D nm bv ev true)) :: L) → Xt (dkU D i ((S, .row (segC D nm bv ev true)) :: L)) w (dkU D i ((S, .row (segC D nm bv ev true)) :: L)) w' → K (.tup [.int .i64 0, .int .i64 4]) w') : Cl Try.prog hk 16 [.ptr S 0, dv] w K := by
 apply in16 (hh.no _ _ _ (by decide) (by decide))
 unfold F16
 refine gd_t rfl (h.new' fun b2 w3 h3 x3 => h3.new' fun b4 w5 h5 x5 => h5.new' fun b6 w7 h7 x7 => ?_)
 refine onM_s (v := .ptr S 0) (h7.ow.ld 8 rfl rfl) ?_
 refine s39 (D := D) (br := true) hh (h7.ow.ld 9 rfl rfl) (h7.ow.ld 9 rfl rfl) ⟨4, rfl, ifT_t ?_⟩
 refine h7.wr 1 rfl (by simp) fun w12 h12 x12 => h12.wr 0 rfl (by simp) fun w13 h13 x13 => ⟨0, h13.ow.ld 7 rfl rfl, 4, h13.ow.ld 6 rfl rfl, ?_⟩
 obtain ⟨h14, x14⟩ := Dk.spoilM (M := [_, _, _]) (L := (S, .row (segC D nm bv ev true)) :: L) h13 (Nat.le_refl _) h13.ow.mem fun _ _ _ => rfl
 exact hK w13 h14 (((((x3.trans x5).trans x7).trans x12).trans x13).trans x14)
theorem s16l {dv : AV} {n : Nat} (hh : HK hk) (h : Dk A I w0 w D i d k ((S, .row (segC D nm bv ev false)) :: L)) (hd : lenS dv = some (.int .i64 (n : Int))) (hn : 65536 < n) (hK : ∀ w', Dk A I w0 w' D i d k ((S, .row (segC D nm bv ev false)) :: L) → Xt (dkU D i ((S, .row (segC D nm bv ev false)) :: L)) w (dkU D i ((S, .row (segC D nm bv ev false)) :: L)) w' → K (.tup [.int .i64 0, .int .i64 3]) w') : Cl Try.prog hk 16 [.ptr S 0, dv] w K := by
 apply in16 (hh.no _ _ _ (by decide) (by decide))
 unfold F16
 refine gd_t rfl (h.new' fun b2 w3 h3 x3 => h3.new' fun b4 w5 h5 x5 => h5.new' fun b6 w7 h7 x7 => ?_)
 refine onM_s (v := .ptr S 0) (h7.ow.ld 8 rfl rfl) ?_
 refine s39 (D := D) (br := false) hh (h7.ow.ld 9 rfl rfl) (h7.ow.ld 9 rfl rfl) ⟨0, rfl, ifT_f ?_⟩
 refine s40l hh hd hn ⟨_, _, rfl, ifT_t ?_⟩
 refine h7.wr 1 rfl (by simp) fun w12 h12 x12 => h12.wr 0 rfl (by simp) fun w13 h13 x13 => ⟨0, h13.ow.ld 7 rfl rfl, 3, h13.ow.ld 6 rfl rfl, ?_⟩
 obtain ⟨h14, x14⟩ := Dk.spoilM (M := [_, _, _]) (L := (S, .row (segC D nm bv ev false)) :: L) h13 (Nat.le_refl _) h13.ow.mem fun _ _ _ => rfl
 exact hK w13 h14 (((((x3.trans x5).trans x7).trans x12).trans x13).trans x14)
theorem s16f {dv : AV} {body : Byts} (hh : HK hk) (h : Dk A I w0 w D i d k ((S, .row (segC D nm bv ev false)) :: L)) (hbs : (rL rU).rd B w [bv] bs) (hd : RsB w dv body) (hdA : ∀ w', Fr w.size w w' → RsB w' dv body) (hd' : ∀ (w' : AW) (b2 b4 b6 : Nat), Dk A I w0 w' D i d k ((b6, .row [.int .i64 0]) :: (b4, .row [.int .i64 0]) :: (b2, .row [.ptr S 0]) :: (S, .row (segC D nm bv ev false)) :: L) → Xt (dkU D i ((S, .row (segC D nm bv ev false)) :: L)) w (dkU D i ((b6, .row [.int .i64 0]) :: (b4, .row [.int .i64 0]) :: (b2, .row [.ptr S 0]) :: (S, .row (segC D nm bv ev false)) :: L)) w' → RsB w' dv body)
  (hbl : body.length ≤ 65536) (hl : bs.length ≤ 253952) (hf : 253952 < bs.length + (4 + body.length)) (hK : ∀ w', Dk A I w0 w' D i d k ((S, .row (segC D nm bv ev false)) :: L) → Xt (dkU D i ((S, .row (segC D nm bv ev false)) :: L)) w (dkU D i ((S, .row (segC D nm bv ev false)) :: L)) w' → K (.tup [.int .i64 0, .int .i64 5]) w') : Cl Try.prog hk 16 [.ptr S 0, dv] w K := by
 apply in16 (hh.no _ _ _ (by decide) (by decide))
 unfold F16
 have hfl := frame_length body
 refine gd_t rfl (h.new' fun b2 w3 h3 x3 => h3.new' fun b4 w5 h5 x5 => h5.new' fun b6 w7 h7 x7 => ?_)
 refine onM_s (v := .ptr S 0) (h7.ow.ld 8 rfl rfl) ?_
 refine s39 (D := D) (br := false) hh (h7.ow.ld 9 rfl rfl) (h7.ow.ld 9 rfl rfl) ⟨0, rfl, ifT_f ?_⟩
 refine s40 hh h7.ow.P (hd' w7 b2 b4 b6 h7 ((x3.trans x5).trans x7)) hbl fun v18 w17 f17 hg17 => ⟨_, _, rfl, ifT_f ?_⟩
 obtain ⟨h17, x17⟩ := h7.fr f17
 have hfr17 := hg17.rd (by decide)
 refine onM_s (v := .ptr S 0) (h17.ow.ld 8 rfl rfl) ?_
 simp only [onP]
 refine onM_s (v := bv) (h17.ow.ld 9 rfl rfl) ⟨_, hbs.len', _, hfr17.len', ?_⟩
 rw [hfl]
 refine ifT_d (fun _ => ?_) fun hc => ?_
 ·refine h17.wr 1 rfl (by simp) fun w12 h12 x12 => h12.wr 0 rfl (by simp) fun w13 h13 x13 => ⟨0, h13.ow.ld 7 rfl rfl, 5, h13.ow.ld 6 rfl rfl, ?_⟩
  obtain ⟨h14, x14⟩ := Dk.spoilM (M := [_, _, _]) (L := (S, .row (segC D nm bv ev false)) :: L) h13 (Nat.le_refl _) h13.ow.mem fun _ _ _ => rfl
  exact hK w13 h14 ((((((x3.trans x5).trans x7).trans x17).trans x12).trans x13).trans x14)
 ·rw [wi_eq (by omega) (by omega)] at hc; omega
theorem s19e {n : Int} (hh : HK hk) (h0 : ld w S 0 = some (.ptr D 0)) (h4 : ld w S 4 = some (.bool br)) (h3 : ld w S 3 = some ev) (he : Rs w 1 E.length ev (cst E)) (hn : n < 0 ∨ (E.length : Int) ≤ n) (hK : K (.tup [.nilslice, .int .i64 2]) w) : Cl Try.prog hk 19 [.ptr S 0, .int .i64 n] w K := by
 apply in19 (hh.no _ _ _ (by decide) (by decide))
 unfold F19
 refine s39 (D := D) (br := br) hh h0 h4 ⟨_, rfl, ?_⟩
 refine ifT_d (fun h => by split at h <;> omega) fun _ => ifT_d (fun _ => hK) fun hc => ?_
 simp only [onP]
 exact onM_s h3 ⟨_, he.len, ifT_d (fun _ => hK) fun h => by omega⟩
theorem s22e {n : Int} (hh : HK hk) (h0 : ld w S 0 = some (.ptr D 0)) (h4 : ld w S 4 = some (.bool br)) (h3 : ld w S 3 = some ev) (he : Rs w 1 E.length ev (cst E)) (hn : br = true ∨ n < 0 ∨ (E.length : Int) ≤ n) (hK : K (.int .i64 (if br then 4 else if n = (E.length : Int) then 0 else 2)) w) : Cl Try.prog hk 22 [.ptr S 0, .int .i64 n] w K := by
  apply in22 (hh.no _ _ _ (by decide) (by decide))
  unfold F22
  refine s39 (D := D) (br := br) hh h0 h4 ⟨_, rfl, ?_⟩
  cases br with
  | true => exact ifT_t hK
  | false =>
    simp only [Bool.false_eq_true, if_false, false_or] at hK hn
    refine ifT_f (ifT_d (fun hc => ?_) fun hc => ?_)
    · rw [if_neg (by omega)] at hK; exact hK
    · simp only [onP]
      refine onM_s h3 ⟨_, he.len, ifT_d (fun h => ?_) fun h => ?_⟩
      · rw [if_neg (by omega)] at hK; exact hK
      · refine onM_s h3 ⟨_, he.len, ifT_d (fun h' => ?_) fun h' => by omega⟩
        rw [if_pos h'] at hK; exact hK
theorem s11z (hh : HK hk) (hK : K (.tup [.nilptr, .int .i64 1]) w) : Cl Try.prog hk 11 [.nilptr, .str nm] w K := by
 apply in11 (hh.no _ _ _ (by decide) (by decide))
 unfold F11
 apply in26 (hh.no _ _ _ (by decide) (by decide))
 unfold F26
 apply in32 (hh.no _ _ _ (by decide) (by decide))
 unfold F32
 apply in45 (hh.no _ _ _ (by decide) (by decide))
 unfold F45
 refine ⟨true, by kernel_rfl, ifT_t ⟨_, rfl, ifT_t ⟨_, _, rfl, ifT_t ⟨_, _, rfl, ?_⟩⟩⟩⟩
 exact join_of (fun _ _ => False) (fun _ _ h => h.elim) fun J hJ => ifT_t (ifT_t hK)
end
end Go.Proofs.Ytdlogcincelccaa
/-
 What the functions of this chapter do.
 No condition beyond those that each theorem names.
-/
set_option linter.unusedSimpArgs false
open Go.Sx
set_option linter.unusedVariables false
namespace Go.Proofs.Ytdlogcincelccaa
def F6 (hk : Hook)  (w : AW) (K : AV → AW → Prop) : Prop :=
 Cl Try.prog hk 8 [] w fun r_0 w_1 =>
 Cl Try.prog hk 11 [r_0, (.str [115])] w_1 fun r_2 w_3 =>
 ∃ x_4 : AV, ∃ x_5 : Int, r_2 = .tup [x_4, (.int .i64 x_5)] ∧
 new w_3 [(.int .u8 97)] fun b_6 w_7 =>
 onM (convA Try.prog w_7 23 23 (.slice b_6 0 1 1 none)) fun x_8 =>
 Cl Try.prog hk 16 [x_4, x_8] w_7 fun r_9 w_10 =>
 ∃ x_11 : Int, ∃ x_12 : Int, r_9 = .tup [(.int .i64 x_11), (.int .i64 x_12)] ∧
 Cl Try.prog hk 17 [x_4] w_10 fun r_13 w_14 =>
 ∃ x_15 : Int, r_13 = (.int .i64 x_15) ∧
 Cl Try.prog hk 25 [(.int .i64 1), (.int .i64 60)] w_14 fun r_16 w_17 =>
 Cl Try.prog hk 16 [x_4, r_16] w_17 fun r_18 w_19 =>
 ∃ x_20 : Int, ∃ x_21 : Int, r_18 = .tup [(.int .i64 x_20), (.int .i64 x_21)] ∧
 new w_19 [(.bool true)] fun b_22 w_23 =>
 Cl Try.prog hk 18 [r_0, (.slice b_22 0 1 1 none)] w_23 fun r_24 w_25 =>
 ∃ f_26 : Int, r_24 = (.int .i64 f_26) ∧
 Cl Try.prog hk 11 [r_0, (.str [115])] w_25 fun r_27 w_28 =>
 ∃ x_29 : AV, ∃ x_30 : Int, r_27 = .tup [x_29, (.int .i64 x_30)] ∧
 Cl Try.prog hk 26 [r_0, (.str [115])] w_28 fun r_31 w_32 =>
 ∃ x_33 : AV, ∃ x_34 : Int, r_31 = .tup [x_33, (.int .i64 x_34)] ∧
 be (wi ((wi (x_5 + f_26)) + x_30)) fun x_35 =>
 gd (decide (x_35 = 0)) (
 Cl Try.prog hk 23 [x_29] w_32 fun r_36 w_37 =>
 ∃ x_38 : Int, r_36 = (.int .i64 x_38) ∧
 gd (decide (x_38 = 1)) (
 ∃ x_39 : Int, lenS x_33 = some (.int .i64 x_39) ∧
 gd (decide (x_39 = 64)) (
 atP (idxS 1 x_33 (.int .i64 0)) fun b_40 o_41 =>
 ∃ x_42 : Int, ld w_37 b_40 o_41 = some (.int .u8 x_42) ∧
 gd (decide (x_42 = 5)) (
 atP (idxS 1 x_33 (.int .i64 7)) fun b_43 o_44 =>
 ∃ x_45 : Int, ld w_37 b_43 o_44 = some (.int .u8 x_45) ∧
 gd (decide (x_45 = 0)) (
 Cl Try.prog hk 13 [x_29] w_37 fun r_46 w_47 =>
 ∃ x_48 : Int, r_46 = (.int .i64 x_48) ∧
 Cl Try.prog hk 19 [x_29, (.int .i64 1)] w_47 fun r_49 w_50 =>
 ∃ x_51 : AV, ∃ x_52 : Int, r_49 = .tup [x_51, (.int .i64 x_52)] ∧
 Cl Try.prog hk 19 [x_29, (.int .i64 (-1))] w_50 fun r_53 w_54 =>
 ∃ x_55 : AV, ∃ x_56 : Int, r_53 = .tup [x_55, (.int .i64 x_56)] ∧
 gd (decide (x_52 = 2)) (
 gd (decide (x_56 = 2)) (
 Cl Try.prog hk 22 [x_29, (.int .i64 3)] w_54 fun r_57 w_58 =>
 ∃ x_59 : Int, r_57 = (.int .i64 x_59) ∧
 gd (decide (x_59 = 2)) (
 Cl Try.prog hk 22 [x_29, (.int .i64 (-1))] w_58 fun r_60 w_61 =>
 ∃ x_62 : Int, r_60 = (.int .i64 x_62) ∧
 gd (decide (x_62 = 2)) (
 Cl Try.prog hk 22 [x_29, (.int .i64 1)] w_61 fun r_63 w_64 =>
 ∃ x_65 : Int, r_63 = (.int .i64 x_65) ∧
 gd (decide (x_65 = 0)) (
 Cl Try.prog hk 22 [x_29, (.int .i64 0)] w_64 fun r_66 w_67 =>
 ∃ x_68 : Int, r_66 = (.int .i64 x_68) ∧
 gd (decide (x_68 = 0)) (
 Cl Try.prog hk 23 [x_29] w_67 fun r_69 w_70 =>
 ∃ x_71 : Int, r_69 = (.int .i64 x_71) ∧
 gd (decide (x_71 = 0)) (
 Cl Try.prog hk 13 [x_29] w_70 fun r_72 w_73 =>
 ∃ x_74 : Int, r_72 = (.int .i64 x_74) ∧
 Cl Try.prog hk 26 [r_0, (.str [115])] w_73 fun r_75 w_76 =>
 ∃ x_77 : AV, ∃ x_78 : Int, r_75 = .tup [x_77, (.int .i64 x_78)] ∧
 Cl Try.prog hk 11 [.nilptr, (.str [115])] w_76 fun r_79 w_80 =>
 ∃ x_81 : AV, ∃ x_82 : Int, r_79 = .tup [x_81, (.int .i64 x_82)] ∧
 join (fun l_83 w_84 => ∃ three_86 : Bool, l_83 = [(.bool three_86)] ∧ ∀ _ : Nat → AV,
  loopP [(.int .i64 0)] w_84 fun R_87 l_88 w_89 => ∃ n_90 : Int, l_88 = [(.int .i64 n_90)] ∧ ∀ _ : Nat → AV,
  ifT (decide (n_90 < 3)) (onM (asN (.int .i64 65536)) fun n_91 =>
  onM (asN (.int .i64 65536)) fun n_92 =>
  gd (Nat.ble n_91 n_92 && Nat.ble (n_92 * 1) (2 ^ 47) && Nat.blt n_92 (2 ^ 63) && true) (new w_89 (repl n_92 [(.int .u8 0)]) fun b_93 w_94 =>
  Cl Try.prog hk 16 [x_29, (.slice b_93 0 n_91 n_92 none)] w_94 fun r_95 w_96 =>
  ∃ x_97 : Int, ∃ x_98 : Int, r_95 = .tup [(.int .i64 x_97), (.int .i64 x_98)] ∧
  ifT (!decide (x_97 = n_90)) (K (.bool false) w_96)
  (ifT (!decide (x_98 = 0)) (K (.bool false) w_96)
  (R_87 [(.int .i64 (wi (n_90 + 1)))] w_96))))
  (onM (asN (.int .i64 57329)) fun n_99 =>
  onM (asN (.int .i64 57329)) fun n_100 =>
  gd (Nat.ble n_99 n_100 && Nat.ble (n_100 * 1) (2 ^ 47) && Nat.blt n_100 (2 ^ 63) && true) (new w_89 (repl n_100 [(.int .u8 0)]) fun b_101 w_102 =>
  Cl Try.prog hk 16 [x_29, (.slice b_101 0 n_99 n_100 none)] w_102 fun r_103 w_104 =>
  ∃ x_105 : Int, ∃ x_106 : Int, r_103 = .tup [(.int .i64 x_105), (.int .i64 x_106)] ∧
  onM (asN (.int .i64 57328)) fun n_107 =>
  onM (asN (.int .i64 57328)) fun n_108 =>
  gd (Nat.ble n_107 n_108 && Nat.ble (n_108 * 1) (2 ^ 47) && Nat.blt n_108 (2 ^ 63) && true) (new w_104 (repl n_108 [(.int .u8 0)]) fun b_109 w_110 =>
  Cl Try.prog hk 16 [x_29, (.slice b_109 0 n_107 n_108 none)] w_110 fun r_111 w_112 =>
  ∃ x_113 : Int, ∃ x_114 : Int, r_111 = .tup [(.int .i64 x_113), (.int .i64 x_114)] ∧
  Cl Try.prog hk 16 [x_29, .nilslice] w_112 fun r_115 w_116 =>
  ∃ x_117 : Int, ∃ x_118 : Int, r_115 = .tup [(.int .i64 x_117), (.int .i64 x_118)] ∧
  onM (asN (.int .i64 65537)) fun n_119 =>
  onM (asN (.int .i64 65537)) fun n_120 =>
  gd (Nat.ble n_119 n_120 && Nat.ble (n_120 * 1) (2 ^ 47) && Nat.blt n_120 (2 ^ 63) && true) (new w_116 (repl n_120 [(.int .u8 0)]) fun b_121 w_122 =>
  Cl Try.prog hk 16 [x_29, (.slice b_121 0 n_119 n_120 none)] w_122 fun r_123 w_124 =>
  ∃ x_125 : Int, ∃ x_126 : Int, r_123 = .tup [(.int .i64 x_125), (.int .i64 x_126)] ∧
  Cl Try.prog hk 11 [r_0, (.str [110, 101, 119])] w_124 fun r_127 w_128 =>
  ∃ x_129 : AV, ∃ x_130 : Int, r_127 = .tup [x_129, (.int .i64 x_130)] ∧
  Cl Try.prog hk 17 [x_129] w_128 fun r_131 w_132 =>
  ∃ q_133 : Int, r_131 = (.int .i64 q_133) ∧
  Cl Try.prog hk 27 [r_0, (.int .i64 0)] w_132 fun r_134 w_135 =>
  ∃ x_136 : Int, r_134 = (.int .i64 x_136) ∧
  Cl Try.prog hk 17 [x_29] w_135 fun r_137 w_138 =>
  ∃ r_139 : Int, r_137 = (.int .i64 r_139) ∧
  Cl Try.prog hk 16 [x_29, .nilslice] w_138 fun r_140 w_141 =>
  ∃ x_142 : Int, ∃ x_143 : Int, r_140 = .tup [(.int .i64 x_142), (.int .i64 x_143)] ∧
  gd (decide (x_48 = 5)) (
  gd (decide (x_74 = 0)) (
  gd three_86 (
  gd (decide (x_106 = 5)) (
  gd (decide (x_114 = 0)) (
  Cl Try.prog hk 13 [x_29] w_141 fun r_144 w_145 =>
  ∃ x_146 : Int, r_144 = (.int .i64 x_146) ∧
  gd (decide (x_146 = 253952)) (
  gd (decide (x_118 = 5)) (
  gd (decide (x_126 = 3)) (
  gd (decide ((wi (x_130 + q_133)) = 0)) (
  gd (decide (r_139 = 6)) (
  Cl Try.prog hk 24 [x_29] w_145 fun r_147 w_148 =>
  ∃ x_149 : Bool, r_147 = (.bool x_149) ∧
  gd x_149 (
  gd (decide (x_143 = 4)) (
  Cl Try.prog hk 22 [x_29, (.int .i64 0)] w_148 fun r_150 w_151 =>
  ∃ x_152 : Int, r_150 = (.int .i64 x_152) ∧
  gd (decide (x_152 = 4)) (
  Cl Try.prog hk 28 [] w_151 fun r_153 w_154 =>
  ∃ x_155 : Bool, r_153 = (.bool x_155) ∧
  gd x_155 (
  Cl Try.prog hk 15 [] w_154 fun r_156 w_157 =>
  ∃ x_158 : Bool, r_156 = (.bool x_158) ∧
  K (.bool x_158) w_157))))))))))))))))))) fun J_85 =>
 ∃ x_159 : Int, lenS x_77 = some (.int .i64 x_159) ∧
 ifT (decide (x_159 = 0)) (ifT (decide (x_78 = 0)) (ifT (decide (x_82 = 1)) (Cl Try.prog hk 17 [x_29] w_80 fun r_160 w_161 =>
 ∃ x_162 : Int, r_160 = (.int .i64 x_162) ∧
 J_85 [(.bool (decide (x_162 = 0)))] w_161)
 (J_85 [(.bool false)] w_80))
 (J_85 [(.bool false)] w_80))
 (J_85 [(.bool false)] w_80)))))))))))))
def adv6 : Adv := (.sq .lf (.sq .lf (.sq .lf (.sq .lf (.sq .lf (.sq .lf (.sq .lf (.sq .lf (.sq .lf (.sq .gt (.sq .lf (.sq .lf (.sq .gt (.sq .lf (.sq .lf (.sj [(17, .sc (.bool))] .lf (.sq (.sq .lf (.bl (.lp [(18, .sc (.int .i64))] (.sq (.sq .lf (.cd .lf .lf)) (.sq (.bl (.sq .lf (.sq .lf (.cd (.sq .lf .lf) .lf)))) .lf))))) (.sq .lf (.sq .lf (.sq .lf (.sq .lf (.sq .lf (.sq .lf (.sq .lf (.sq .lf (.sq .lf (.sq .gt .lf)))))))))))))))))))))))))))
set_option maxRecDepth 100000 in
theorem eq6 (hk : Hook)  (w : AW) (K : AV → AW → Prop) : fnS Try.prog hk Try.f6 adv6 [] w K = F6 hk  w K := by kernel_rfl
theorem in6 {hk : Hook} {w : AW} {K : AV → AW → Prop} (hn : hk 6 [] w = none) (h : F6 hk  w K) : Cl Try.prog hk 6 [] w K :=
 fnS_ok Try.func6 hn (by rw [eq6]; exact h)
def F28 (hk : Hook)  (w : AW) (K : AV → AW → Prop) : Prop :=
 Cl Try.prog hk 8 [] w fun r_0 w_1 =>
 new w_1 [(.int .u8 0), (.int .u8 1), (.int .u8 0), (.int .u8 1)] fun b_2 w_3 =>
 onE (appendA Try.prog w_3 23 (some 3) (.slice b_2 0 4 4 none) (.int .i64 65537)) fun b_4 w_5 =>
 loopP [(.int .i64 0)] w_5 fun R_6 l_7 w_8 => ∃ i_9 : Int, l_7 = [(.int .i64 i_9)] ∧ ∀ _ : Nat → AV,
  Cl Try.prog hk 53 [b_4] w_8 fun r_10 w_11 =>
  ∃ x_12 : Int, r_10 = (.int .i64 x_12) ∧
  ifT (decide (i_9 < x_12)) (Cl Try.prog hk 54 [b_4, (.int .i64 i_9)] w_11 fun r_13 w_14 =>
  Cl Try.prog hk 9 [r_0, (.str [115]), (.int .i64 i_9), r_13] w_14 fun r_15 w_16 =>
  ∃ x_17 : Int, r_15 = (.int .i64 x_17) ∧
  ifT (!decide (x_17 = 0)) (K (.bool false) w_16)
  (R_6 [(.int .i64 (wi (i_9 + 1)))] w_16))
  (Cl Try.prog hk 11 [r_0, (.str [115])] w_11 fun r_18 w_19 =>
 ∃ x_20 : AV, ∃ x_21 : Int, r_18 = .tup [x_20, (.int .i64 x_21)] ∧
 Cl Try.prog hk 26 [r_0, (.str [115])] w_19 fun r_22 w_23 =>
 ∃ x_24 : AV, ∃ x_25 : Int, r_22 = .tup [x_24, (.int .i64 x_25)] ∧
 ifT (decide ((wi (x_21 + x_25)) = 0)) (Cl Try.prog hk 23 [x_20] w_23 fun r_26 w_27 =>
 ∃ x_28 : Int, r_26 = (.int .i64 x_28) ∧
 ifT (decide (x_28 = 0)) (∃ x_29 : Int, lenS x_24 = some (.int .i64 x_29) ∧
 K (.bool (decide (x_29 = 0))) w_27)
 (K (.bool false) w_27))
 (K (.bool false) w_23))
def adv28 : Adv := (.sq .lf (.sq .lf (.sq .lf (.sq (.sq .lf (.bl (.lp [(3, .sc (.int .i64))] (.sq (.sq .lf (.cd .lf .lf)) (.sq (.bl (.sq .lf (.cd (.sq .lf .lf) .lf))) .lf))))) (.sq .lf (.sq .lf (.sq .lf .lf)))))))
set_option maxRecDepth 100000 in
theorem eq28 (hk : Hook)  (w : AW) (K : AV → AW → Prop) : fnS Try.prog hk Try.f28 adv28 [] w K = F28 hk  w K := by kernel_rfl
theorem in28 {hk : Hook} {w : AW} {K : AV → AW → Prop} (hn : hk 28 [] w = none) (h : F28 hk  w K) : Cl Try.prog hk 28 [] w K :=
 fnS_ok Try.func28 hn (by rw [eq28]; exact h)
def F53 (hk : Hook) (b_0 : AV) (w : AW) (K : AV → AW → Prop) : Prop :=
 ∃ x_1 : Int, lenS b_0 = some (.int .i64 x_1) ∧
 be (wi (Int.tdiv (wi ((wi (x_1 + 62)) - 1)) 62)) fun x_2 =>
 K (.int .i64 x_2) w
def adv53 : Adv := (.sq .lf (.sq .lf .lf))
set_option maxRecDepth 100000 in
theorem eq53 (hk : Hook) (b_0 : AV) (w : AW) (K : AV → AW → Prop) : fnS Try.prog hk Try.f53 adv53 [b_0] w K = F53 hk b_0 w K := by kernel_rfl
theorem in53 {hk : Hook} {b_0 : AV} {w : AW} {K : AV → AW → Prop} (hn : hk 53 [b_0] w = none) (h : F53 hk b_0 w K) : Cl Try.prog hk 53 [b_0] w K :=
 fnS_ok Try.func53 hn (by rw [eq53]; exact h)
def F54 (hk : Hook) (b_0 : AV) (i_1 : Int) (w : AW) (K : AV → AW → Prop) : Prop :=
 ∃ x_2 : Int, lenS b_0 = some (.int .i64 x_2) ∧
 ∃ x_3 : Int, lenS b_0 = some (.int .i64 x_3) ∧
 onM (slS 1 b_0 (some (.int .i64 (imin (wi (i_1 * 62)) x_2))) (some (.int .i64 (imin (wi ((wi (i_1 + 1)) * 62)) x_3))) none) fun part_4 =>
 gd (Nat.ble 64 64 && Nat.ble (64 * 1) (2 ^ 47) && Nat.blt 64 (2 ^ 63) && true) (new w (repl 64 [(.int .u8 0)]) fun b_5 w_6 =>
 ∃ x_7 : Int, lenS part_4 = some (.int .i64 x_7) ∧
 atP (idxS 1 (.slice b_5 0 64 64 none) (.int .i64 0)) fun b_8 o_9 =>
 onM (AW.putCells w_6 b_8 o_9 [(.int .u8 (IntKind.wrap .u8 x_7))]) fun w_10 =>
 loopP [(.int .i64 0)] w_10 fun R_11 l_12 w_13 => ∃ k_14 : Int, l_12 = [(.int .i64 k_14)] ∧ ∀ _ : Nat → AV,
  ∃ x_15 : Int, lenS part_4 = some (.int .i64 x_15) ∧
  ifT (decide (k_14 < x_15)) (atP (idxS 1 part_4 (.int .i64 k_14)) fun b_16 o_17 =>
  ∃ x_18 : Int, ld w_13 b_16 o_17 = some (.int .u8 x_18) ∧
  atP (idxS 1 (.slice b_5 0 64 64 none) (.int .i64 (wi (2 + k_14)))) fun b_19 o_20 =>
  onM (AW.putCells w_13 b_19 o_20 [(.int .u8 x_18)]) fun w_21 =>
  R_11 [(.int .i64 (wi (k_14 + 1)))] w_21)
  (K (.slice b_5 0 64 64 none) w_13))
def adv54 : Adv := (.sq .lf (.sq .lf (.sq .lf (.sq .lf (.sq (.sq .lf (.bl (.lp [(7, .sc (.int .i64))] (.sq (.sq .lf (.cd .lf .lf)) (.sq (.bl .lf) .lf))))) (.sq .lf .lf))))))
set_option maxRecDepth 100000 in
theorem eq54 (hk : Hook) (b_0 : AV) (i_1 : Int) (w : AW) (K : AV → AW → Prop) : fnS Try.prog hk Try.f54 adv54 [b_0, (.int .i64 i_1)] w K = F54 hk b_0 i_1 w K := by kernel_rfl
theorem in54 {hk : Hook} {b_0 : AV} {i_1 : Int} {w : AW} {K : AV → AW → Prop} (hn : hk 54 [b_0, (.int .i64 i_1)] w = none) (h : F54 hk b_0 i_1 w K) : Cl Try.prog hk 54 [b_0, (.int .i64 i_1)] w K :=
 fnS_ok Try.func54 hn (by rw [eq54]; exact h)
end Go.Proofs.Ytdlogcincelccaa
