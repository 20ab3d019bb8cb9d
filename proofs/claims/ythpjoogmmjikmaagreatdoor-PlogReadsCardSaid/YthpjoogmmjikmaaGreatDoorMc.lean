/-
 A file's bytes: clean, equal, streamed, over memory.
 No condition beyond those that each theorem names.
-/
import Derived.Test.YthpjoogmmjikmaaGreatDoorMb
import Derived.Test.YthpjoogmmjikmaaGreatDoorSxu
import Derived.Test.YthpjoogmmjikmaaGreatDoorProg
import Derived.KernelRfl
import Derived.Test.YthpjoogmmjikmaaGreatDoorSxw
import Derived.Test.YthpjoogmmjikmaaGreatDoorSxo
set_option linter.unusedSimpArgs false
open Go.Sx
set_option linter.unusedVariables false
set_option linter.unusedSimpArgs false
namespace Go.Proofs.YthpjoogmmjikmaaGreatDoor
def cleanN (b : Byts) (n : Nat) : Byts := ((List.range n).map (sector b)).flatten
def clean (b : Byts) : Byts := cleanN b (nsec b)
theorem cleanN_succ (b : Byts) (n : Nat) : cleanN b (n + 1) = cleanN b n ++ sector b n := by simp [cleanN, List.range_succ]
theorem cleanN_length (b : Byts) : ∀ n, (cleanN b n).length = n * 64
 | 0 => rfl
 | n + 1 => by rw [cleanN_succ, List.length_append, cleanN_length b n, sector_length]; omega
def streamN : Nat → Byts → Byts
  | 0, _ => []
  | m + 1, b => if b.length < 64 then [] else
    let n := if 62 < (b.getD 0 0).toNat then 0 else (b.getD 0 0).toNat
    (b.drop 2).take n ++ (if n < 62 then [] else streamN m (b.drop 64))
section
variable {hk : Hook} {A B : Nat → Prop} {I : List Nat} {w0 w w' : AW} {D S : Nat} {i i' : DI} {d d' : Dsk} {k k' : Nat} {L L' : Obs} {K : AV → AW → Prop} {nm bs : Byts} {es : List Int} {bv ev : AV} {br : Bool} {ef : Nat} {eo : Ob}
set_option maxRecDepth 20000 in
theorem s80 {b : Byts} (hh : HK hk) (pv : Pv A w) (h : (rL rU).rd B w [bv] b) (hl : b.length ≤ 2 ^ 20) (hK : ∀ v' w', Fr w.size w w' → Ga rU A w w' v' (clean b) → K v' w') : Cl Tryz.prog hk 80 [bv] w K := by
 apply in80 (hh.no _ _ _ (by decide) (by decide))
 unfold F80
 have hns : nsec b ≤ 2 ^ 20 := by unfold nsec; omega
 refine pv.st.new' fun b1 w2 st2 x2 => ?_
 refine s87o (fr := 0) hh st2 h.ok1 fun c1 c2 w4 st4 x4 => ?_
 intro R0 hst hpend hY
 obtain ⟨st5, x5⟩ := st4.pushObj (o := .deferred) (fun _ _ _ _ h => by cases h)
 obtain ⟨st6, x6⟩ := st5.pushObj (o := LoopA.ob R0) ob_no
 rw [show (w4.push .deferred).size = w4.size + 1 from rfl] at st6 x6
 show Cl Tryz.prog hk 128 [.yield (w4.size + 1), .ptr c1 0, .ptr c2 0] _ _
 let LM : AO → AV → Obs := fun o v => [(w4.size + 1, .obj o), (w4.size, .obj .deferred), (c1, .row [.int .i64 ((0 : Nat) : Int)]), (c2, .row [bv]), (b1, .row [v])]
 have st6 : Ow A [] w ((w4.push .deferred).push (LoopA.ob R0)) (LM (LoopA.ob R0) .nilslice) := st6
 have hc1 : Box ((w4.push .deferred).push (LoopA.ob R0)) c1 [.int .i64 ((0 : Nat) : Int)] := (st6.box (c1, _) (nth_mem (i := 2) rfl) rfl).1
 refine s128 (fr := 0) (b := b) (bv := bv) hh (fun j wx => ∃ v, Ow A [] w wx (LM (LoopA.ob R0) v) ∧ Ga rU (fz A (ids (LM (LoopA.ob R0) .nilslice))) w wx v (cleanN b j) ∧ j ≤ nsec b)
  (fun j wx ⟨v, st, _⟩ => ⟨st.mem, st.P0.pos, (st.box (c2, _) (nth_mem (i := 3) rfl) rfl).1, (st.arg pv.mem h).xa ⟨fun c f all _ _ e => ⟨trivial, trivial, e⟩⟩⟩) hc1 ⟨.nilslice, st6, Ga.nil, Nat.zero_le _⟩ (by omega) (by decide) ?_ ?_
 ·rintro j wj wj' xv ⟨v, st, hga, hj⟩ hlt hf hg
  have hjn : j < nsec b := by unfold nsec; omega
  obtain ⟨st', xf⟩ := st.call hf
  have hga' := Ga.x' hga xf st
  have hrd := rd_any (U := ids (LM (LoopA.ob R0) v)) (hg.rd (by decide)) fun c hc => st.ids_lt hc
  have hl' : loopAt wj' (w4.size + 1) = some R0 := loop_of (st'.box (w4.size + 1, .obj (LoopA.ob R0)) (nth_mem (i := 0) rfl) rfl).1.1
  refine hY _ _ wj' _ hl' ⟨hl', fun wb hwb => ?_⟩
  subst hwb
  obtain ⟨stb, xb⟩ := st'.setObj 0 (o2 := busyOb R0) rfl busy_no
  have stb : Ow A [] w _ (LM (busyOb R0) v) := stb
  have hgb := Ga.x' hga' xb st'
  refine onM_s (v := v) (stb.ld 4 rfl rfl) ?_
  have hlen := cleanN_length b j
  refine Ow.appSrc (r := rU) (l' := sector b j) stb hgb (Rs.src (hrd.x xb).rsB) (Chk.bytes.2 rfl) (by decide) (fun c hc => pv.new c (by have := stb.size; omega)) (by rw [hlen, sector_length]; omega) (by rw [hlen, sector_length]; omega) fun v' w13 st13 x13 hg13 => ?_
  refine gd_t (hg13.rd (by decide)).ok1 (st13.put 4 rfl (by simp) fun w14 st14 x14 => ?_)
  have hg14 := Ga.x' hg13 x14 st13
  refine ⟨{ R0 with st := .busy }, loop_of (st14.box (w4.size + 1, .obj (busyOb R0)) (nth_mem (i := 0) rfl) rfl).1.1, .inl ⟨rfl, ?_⟩⟩
  rw [ready_eq hst hpend]
  obtain ⟨st15, x15⟩ := st14.setObj 0 (o2 := LoopA.ob R0) rfl ob_no
  exact ⟨v', st15, by rw [cleanN_succ]; exact Ga.x' hg14 x15 st14, by omega⟩
 ·rintro j wx ⟨v, st, hga, hj⟩ hge hor
  obtain rfl : j = nsec b := by unfold nsec at hj ⊢; omega
  refine ⟨R0, loop_of (st.box (w4.size + 1, .obj (LoopA.ob R0)) (nth_mem (i := 0) rfl) rfl).1.1, by rw [hst]; simp, ?_⟩
  rw [hpend]
  obtain ⟨st7, x7⟩ := st.setObj 0 (o2 := LoopA.ob { R0 with st := .exhausted, pending := none }) rfl ob_no
  refine onM_s (v := v) (st7.ld 4 rfl rfl) ?_
  have hdd := (st7.box (w4.size, .obj .deferred) (nth_mem (i := 1) rfl) rfl).1.1
  obtain ⟨st8, x8⟩ := st7.setObj 1 (o2 := .gone) rfl (fun _ _ _ _ h => by cases h)
  exact onM_s (take_one hdd) (hK _ _ st8.fr (Ga.x' (Ga.x' hga x7 st) x8 st7).out)
theorem s79 {v1 v2 : AV} {a b : Byts} (hh : HK hk) (h1 : RsB w v1 a) (h2 : RsB w v2 b) (hl : a.length < 2 ^ 60) (hl2 : b.length < 2 ^ 60) (hK : K (.bool (a == b)) w) : Cl Tryz.prog hk 79 [v1, v2] w K := by
 apply in79 (hh.no _ _ _ (by decide) (by decide))
 unfold F79
 refine ⟨_, h1.len, _, h2.len, ifT_nd (fun hne => ?_) fun he => ⟨_, h1.len, ?_⟩⟩
 ·have : (a == b) = false := by
   rw [beq_eq_false_iff_ne]; rintro rfl; exact hne rfl
  rw [this] at hK; exact hK
 ·have he : a.length = b.length := by omega
  refine loopP_ind (fun m l w7 => ∃ j : Nat, j ≤ a.length ∧ m = a.length - j ∧ l = [.int .i64 j] ∧ w7 = w ∧ a.take j = b.take j) ?_ ⟨0, Nat.zero_le _, rfl, rfl, rfl, rfl⟩
  rintro m l w7 ⟨j, hj, rfl, rfl, rfl, heq⟩ R ih
  refine ⟨_, rfl, fun _ => ifT_d (fun hc => ?_) fun hc => ?_⟩
  ·have hja : j < a.length := by omega
   have hjb : j < b.length := by omega
   have at1 : ∀ {v : AV} {s : Byts} {K : Nat → Nat → Prop}, RsB w7 v s → ∀ hjs : j < s.length, (∀ b o, ld w7 b o = some (.int .u8 (s[j].toNat : Int)) → K b o) → atP (idxS 1 v (.int .i64 (j : Int))) K := fun {v s K} h hjs hK => by
    refine Rs.at (w := w7) (sz := 1) (n := s.length) h (i := (j : Int)) (by omega) (by omega) fun b o hf _ => hK b o ?_
    have := hf 0 (by decide)
    rw [Nat.add_zero] at this
    rw [this]; simp [cellsOfBytes, hjs]
   refine at1 h1 hja fun b1 o1 g1 => ⟨_, g1, at1 h2 hjb fun b2 o2 g2 => ⟨_, g2, ifT_nd (fun hne => ?_) fun heq2 => ?_⟩⟩
   ·have : (a == b) = false := by
     rw [beq_eq_false_iff_ne]; rintro rfl; exact hne rfl
    rw [this] at hK; exact hK
   ·have e : a[j] = b[j] := UInt8.toNat_inj.1 (by omega)
    refine ih (a.length - (j + 1)) (by omega) _ _ ⟨j + 1, by omega, rfl, by rw [wi_eq (by omega) (by omega)]; rfl, rfl, ?_⟩
    rw [← List.take_append_getElem hja, ← List.take_append_getElem hjb, heq, e]
  ·have e : a = b := by
    have h1 : a.take j = a := List.take_of_length_le (by omega)
    have h2 : b.take j = b := List.take_of_length_le (by omega)
    rw [← h1, ← h2]; exact heq
   have : (a == b) = true := by rw [e]; simp
   rw [this] at hK; exact hK
end
end Go.Proofs.YthpjoogmmjikmaaGreatDoor
/-
 A segment's trim, over memory.
 No condition beyond those that each theorem names.
-/
set_option linter.unusedSimpArgs false
open Go.Sx
set_option linter.unusedVariables false
set_option linter.unusedSimpArgs false
namespace Go.Proofs.YthpjoogmmjikmaaGreatDoor
def trimD (nm b : Byts) (d : Dsk) : Dsk × Int :=
 if (puts nm b (nsec b - b.length / 62) (b.length / 62) d).2 ≠ 0 then puts nm b (nsec b - b.length / 62) (b.length / 62) d else
 if ((puts nm b (nsec b - b.length / 62) (b.length / 62) d).1.cut nm (nsec b)).2 ≠ 0 then (puts nm b (nsec b - b.length / 62) (b.length / 62) d).1.cut nm (nsec b) else
 ((puts nm b (nsec b - b.length / 62) (b.length / 62) d).1.cut nm (nsec b)).1.sync nm
section
variable {hk : Hook} {A B : Nat → Prop} {I : List Nat} {w0 w w' : AW} {D S : Nat} {i i' : DI} {d d' : Dsk} {k k' : Nat} {L L' : Obs} {K : AV → AW → Prop} {nm bs : Byts} {es : List Int} {bv ev : AV} {br : Bool} {ef : Nat} {eo : Ob}
set_option maxRecDepth 20000 in
theorem s81 (hh : HK hk) (h : Dk A [] w0 w D i d k ((S, .row (segC D nm bv ev false)) :: L)) (hbs : (rL rU).rd (fz A (dkU D i ((S, .row (segC D nm bv ev false)) :: L))) w [bv] bs)
  (hl : bs.length ≤ 253952) (hkk : k + 10000 < 2 ^ 27)
  (hK : ∀ i' w', Dk A [] w0 w' D i' (trimD nm bs d).1 (k + 10000) ((S, .row (segC D nm bv ev (decide ((trimD nm bs d).2 ≠ 0)))) :: L) →
   Xt (dkU D i ((S, .row (segC D nm bv ev false)) :: L)) w (dkU D i' ((S, .row (segC D nm bv ev (decide ((trimD nm bs d).2 ≠ 0)))) :: L)) w' → K (.int .i64 (trimD nm bs d).2) w') :
  Cl Tryz.prog hk 81 [.ptr S 0] w K := by
 apply in81 (hh.no _ _ _ (by decide) (by decide))
 unfold F81
 refine gd_t rfl (h.new' fun b1 w2 h2 x2 => h2.new' fun b3 w4 h4 x4 => ?_)
 refine onM_s (v := .ptr S 0) (h4.ow.ld 7 rfl rfl) ?_
 simp only [onP]
 refine onM_s (v := bv) (h4.ow.ld 8 rfl rfl) ⟨_, hbs.len', h4.new' fun b10 w11 h11 x11 => ?_⟩
 have efr : wi (Int.tdiv ((bs.length : Nat) : Int) 62) = ((bs.length / 62 : Nat) : Int) := by
  rw [show Int.tdiv ((bs.length : Nat) : Int) 62 = ((bs.length / 62 : Nat) : Int) from rfl, wi_eq (by omega) (by omega)]
 rw [efr]
 refine h11.wr 0 rfl (by simp) fun w12 h12 x12 => ?_
 refine onM_s (v := .ptr S 0) (h12.ow.ld 8 rfl rfl) ?_
 simp only [onP]
 refine onM_s (v := bv) (h12.ow.ld 9 rfl rfl) ?_
 refine s87 hh h12 hbs.ok1 fun c1 c2 w48 h48 x48 => ?_
 have x048 := (((x2.trans x4).trans x11).trans x12).trans x48
 unfold trimD at hK
 generalize hfrn : bs.length / 62 = fr at *
 have hnl : nsec bs ≤ 4096 := by unfold nsec; omega
 have hfn : fr ≤ nsec bs := by unfold nsec; omega
 intro R0 hst hpend hY
 obtain ⟨h49, x49⟩ := h48.pushObj (o := .deferred) (fun _ _ _ _ h => by cases h)
 obtain ⟨h50, x50⟩ := h49.pushObj (o := LoopA.ob R0) ob_no
 rw [show (w48.push .deferred).size = w48.size + 1 from rfl] at h50 x50
 have x050 := (x048.trans x49).trans x50
 show Cl Tryz.prog hk 128 [.yield (w48.size + 1), .ptr c1 0, .ptr c2 0] _ _
 let LM : AO → Bool → Nat → Obs := fun o e j => (w48.size + 1, .obj o) :: (w48.size, .obj .deferred) :: (c1, .row [.int .i64 (fr : Int)]) :: (c2, .row [bv]) :: (b10, .row [.int .i64 (j : Int)]) :: (b3, .row [.int .i64 0]) :: (b1, .row [.ptr S 0]) :: (S, .row (segC D nm bv ev e)) :: L
 have hc1 : Box ((w48.push .deferred).push (LoopA.ob R0)) c1 [.int .i64 (fr : Int)] := (h50.ow.box (c1, _) (nth_mem (i := 8) rfl) rfl).1
 refine s128 (fr := fr) (b := bs) (bv := bv) hh (fun j wx => ∃ i' d', Dk A [] w0 wx D i' d' (k + 2 * (j - fr)) (LM (LoopA.ob R0) false j) ∧ Xt (dkU D i ((S, .row (segC D nm bv ev false)) :: L)) w (dkU D i' (LM (LoopA.ob R0) false j)) wx ∧ fr ≤ j ∧ j ≤ nsec bs ∧ puts nm bs (nsec bs - fr) fr d = puts nm bs (nsec bs - j) j d')
  (fun j wx ⟨i', d', hdk, hx, _⟩ => ⟨hdk.ow.mem, hdk.ow.P0.pos, (hdk.ow.box (c2, _) (nth_mem (i := 9) rfl) rfl).1, (hbs.x hx).xa ⟨fun c f all _ _ e => ⟨trivial, trivial, e⟩⟩⟩)
  hc1 ⟨i, d, by rw [Nat.sub_self]; exact h50, x050, Nat.le_refl _, hfn, rfl⟩ (by omega) (by omega) ?_ ?_
 ·rintro j wj wj' xv ⟨i', d', hdk, hx, hj1, hj2, hpe⟩ hlt hf hg
  have hjn : j < nsec bs := by unfold nsec; omega
  obtain ⟨m, hm⟩ : ∃ m, nsec bs - j = m + 1 := ⟨nsec bs - j - 1, by omega⟩
  rw [hm] at hpe
  have hpe' : puts nm bs (nsec bs - fr) fr d = if (d'.put nm j (sector bs j)).2 ≠ 0 then d'.put nm j (sector bs j) else puts nm bs m (j + 1) (d'.put nm j (sector bs j)).1 := hpe
  obtain ⟨hk', xk⟩ := hdk.fr hf
  have hrd := rd_any (U := dkU D i' (LM (LoopA.ob R0) false j)) (hg.rd (by decide)) fun c hc => hdk.ow.ids_lt hc
  have hl' : loopAt wj' (w48.size + 1) = some R0 := loop_of (hk'.ow.box (w48.size + 1, .obj (LoopA.ob R0)) (nth_mem (i := 6) rfl) rfl).1.1
  refine hY _ _ wj' _ hl' ⟨hl', fun wb hwb => ?_⟩
  subst hwb
  obtain ⟨hb, xb⟩ := hk'.setObj 0 (o2 := busyOb R0) rfl busy_no
  have hb : Dk A [] w0 _ D i' d' (k + 2 * (j - fr)) (LM (busyOb R0) false j) := hb
  refine onM_s (v := .ptr S 0) (hb.ow.ld 12 rfl rfl) (onM_s (v := .ptr S 0) (hb.ow.ld 12 rfl rfl) ?_)
  simp only [onP]
  refine onM_s (v := .ptr D 0) (hb.ow.ld 13 rfl rfl) (onM_s (v := .ptr S 0) (hb.ow.ld 12 rfl rfl) ?_)
  simp only [onP]
  refine ⟨nm, hb.ow.ld 13 rfl rfl, ?_⟩
  refine s29 hh hb (by omega) (hrd.x xb).rsB ?_
  intro i2 w65 h65 x65
  have xx := ((hx.trans xk).trans xb).trans x65
  refine ⟨_, rfl, h65.ow.ld 12 rfl rfl, ?_⟩
  refine s84 hh (fun he => ⟨0, rfl, ifT_f ⟨_, h65.ow.ld 10 rfl rfl, ?_⟩⟩) fun he => ?_
  ·rw [if_neg (by simpa using he)] at hpe'
   refine h65.wr 4 rfl (by simp) fun w42 h66 x66 => ?_
   refine ⟨{ R0 with st := .busy }, loop_of (h66.ow.box (w48.size + 1, .obj (busyOb R0)) (nth_mem (i := 6) rfl) rfl).1.1, .inl ⟨rfl, ?_⟩⟩
   rw [ready_eq hst hpend]
   obtain ⟨h67, x67⟩ := h66.setObj 0 (o2 := LoopA.ob R0) rfl ob_no
   have ej : wi ((j : Int) + 1) = ((j + 1 : Nat) : Int) := by rw [wi_eq (by omega) (by omega)]; push_cast; rfl
   rw [ej] at h67 x67 x66
   exact ⟨i2, _, by rw [show k + 2 * (j + 1 - fr) = k + 2 * (j - fr) + 2 by omega]; exact h67, (xx.trans x66).trans x67, by omega, by omega, by rw [hpe', show nsec bs - (j + 1) = m by omega]⟩
  ·rw [if_pos he] at hpe'
   rw [hpe', if_pos he] at hK
   have edc : decide ((d'.put nm j (sector bs j)).2 ≠ 0) = true := by simpa using he
   rw [edc] at hK
   refine h65.wr 7 rfl (by simp [segC]) fun w4' h66 x66 => ⟨_, rfl, ifT_nd (fun _ => ?_) fun h => absurd h he⟩
   refine h66.wr 5 rfl (by simp) fun w71 h71 x71 => ?_
   refine ⟨{ R0 with st := .busy }, loop_of (h71.ow.box (w48.size + 1, .obj (busyOb R0)) (nth_mem (i := 6) rfl) rfl).1.1, .inr ⟨rfl, ?_⟩⟩
   obtain ⟨h72, x72⟩ := h71.setObj 0 (o2 := LoopA.ob { ({ R0 with st := .busy } : LoopA) with st := .done, pending := some .ret }) rfl ob_no
   refine ⟨_, loop_of (h72.ow.box (w48.size + 1, .obj _) (nth_mem (i := 6) rfl) rfl).1.1, by simp, ?_⟩
   obtain ⟨h73, x73⟩ := h72.setObj 0 (o2 := LoopA.ob { ({ ({ R0 with st := .busy } : LoopA) with st := .done, pending := some .ret } : LoopA) with st := .exhausted }) rfl ob_no
   have hdd := (h73.ow.box (w48.size, .obj .deferred) (nth_mem (i := 7) rfl) rfl).1.1
   obtain ⟨q0, x74⟩ := h73.setObj 1 (o2 := .gone) rfl (fun _ _ _ _ h => by cases h)
   refine onM_s (take_one hdd) ⟨_, q0.ow.ld 11 rfl rfl, ?_⟩
   obtain ⟨q1, yq1, _⟩ := q0.drop
   obtain ⟨q2, yq2, _⟩ := q1.drop
   obtain ⟨q3, yq3, _⟩ := q2.drop
   obtain ⟨q4, yq4, _⟩ := q3.drop
   obtain ⟨q5, yq5, _⟩ := q4.drop
   obtain ⟨q6, yq6, _⟩ := q5.drop
   obtain ⟨q7, yq7, _⟩ := q6.drop
   exact hK i2 _ (q7.le (by omega) hkk) ((((((xx.trans x66).trans x71).trans x72).trans x73).trans x74).trans ((((((yq1.trans yq2).trans yq3).trans yq4).trans yq5).trans yq6).trans yq7))
 ·rintro j wj ⟨i', d', hdk, hx, hj1, hj2, hpe⟩ hge hor
  obtain rfl : j = nsec bs := by unfold nsec at hj2 ⊢; omega
  rw [Nat.sub_self] at hpe
  have hpe : puts nm bs (nsec bs - fr) fr d = (d', 0) := hpe
  rw [hpe, if_neg (by simp)] at hK
  refine ⟨R0, loop_of (hdk.ow.box (w48.size + 1, .obj (LoopA.ob R0)) (nth_mem (i := 6) rfl) rfl).1.1, by rw [hst]; simp, ?_⟩
  rw [hpend]
  obtain ⟨h51, x51⟩ := hdk.setObj 0 (o2 := LoopA.ob { R0 with st := .exhausted, pending := none }) rfl ob_no
  refine onM_s (v := .ptr S 0) (h51.ow.ld 12 rfl rfl) (onM_s (v := .ptr S 0) (h51.ow.ld 12 rfl rfl) ?_)
  simp only [onP]
  refine onM_s (v := .ptr D 0) (h51.ow.ld 13 rfl rfl) (onM_s (v := .ptr S 0) (h51.ow.ld 12 rfl rfl) ?_)
  simp only [onP]
  refine ⟨nm, h51.ow.ld 13 rfl rfl, _, h51.ow.ld 10 rfl rfl, ?_⟩
  refine s124 hh h51 (by omega) ?_
  intro i3 w55 h55 x55
  simp only [] at hK
  generalize hcu : d'.cut nm (nsec bs) = cu at *
  refine ⟨_, rfl, h55.ow.ld 12 rfl rfl, ?_⟩
  refine s84 hh (fun he => ⟨0, rfl, ifT_f ?_⟩) fun he => ?_
  ·rw [if_neg (by simpa using he)] at hK
   refine onM_s (v := .ptr S 0) (h55.ow.ld 12 rfl rfl) (onM_s (v := .ptr S 0) (h55.ow.ld 12 rfl rfl) ?_)
   simp only [onP]
   refine onM_s (v := .ptr D 0) (h55.ow.ld 13 rfl rfl) (onM_s (v := .ptr S 0) (h55.ow.ld 12 rfl rfl) ?_)
   simp only [onP]
   refine ⟨nm, h55.ow.ld 13 rfl rfl, ?_⟩
   refine s37 hh h55 ?_
   intro i4 w73 h73 x73
   refine ⟨_, rfl, h73.ow.ld 12 rfl rfl, ?_⟩
   refine s84 hh (fun he2 => ⟨0, rfl, ?_⟩) fun he2 => ?_
   ·rw [he2] at hK
    refine h73.wr 5 rfl (by simp) fun w78 h78 x78 => ?_
    have hdd := (h78.ow.box (w48.size, .obj .deferred) (nth_mem (i := 7) rfl) rfl).1.1
    obtain ⟨q0, x79⟩ := h78.setObj 1 (o2 := .gone) rfl (fun _ _ _ _ h => by cases h)
    refine onM_s (take_one hdd) ⟨_, q0.ow.ld 11 rfl rfl, ?_⟩
    obtain ⟨q1, yq1, _⟩ := q0.drop
    obtain ⟨q2, yq2, _⟩ := q1.drop
    obtain ⟨q3, yq3, _⟩ := q2.drop
    obtain ⟨q4, yq4, _⟩ := q3.drop
    obtain ⟨q5, yq5, _⟩ := q4.drop
    obtain ⟨q6, yq6, _⟩ := q5.drop
    obtain ⟨q7, yq7, _⟩ := q6.drop
    exact hK i4 _ (q7.le (by omega) hkk) ((((((hx.trans x51).trans x55).trans x73).trans x78).trans x79).trans ((((((yq1.trans yq2).trans yq3).trans yq4).trans yq5).trans yq6).trans yq7))
   ·have edc : decide ((cu.1.sync nm).2 ≠ 0) = true := by simpa using he2
    rw [edc] at hK
    refine h73.wr 7 rfl (by simp [segC]) fun w76 h76 x76 => ⟨_, rfl, h76.wr 5 rfl (by simp) fun w78 h78 x78 => ?_⟩
    have hdd := (h78.ow.box (w48.size, .obj .deferred) (nth_mem (i := 7) rfl) rfl).1.1
    obtain ⟨q0, x79⟩ := h78.setObj 1 (o2 := .gone) rfl (fun _ _ _ _ h => by cases h)
    refine onM_s (take_one hdd) ⟨_, q0.ow.ld 11 rfl rfl, ?_⟩
    obtain ⟨q1, yq1, _⟩ := q0.drop
    obtain ⟨q2, yq2, _⟩ := q1.drop
    obtain ⟨q3, yq3, _⟩ := q2.drop
    obtain ⟨q4, yq4, _⟩ := q3.drop
    obtain ⟨q5, yq5, _⟩ := q4.drop
    obtain ⟨q6, yq6, _⟩ := q5.drop
    obtain ⟨q7, yq7, _⟩ := q6.drop
    exact hK i4 _ (q7.le (by omega) hkk) (((((((hx.trans x51).trans x55).trans x73).trans x76).trans x78).trans x79).trans ((((((yq1.trans yq2).trans yq3).trans yq4).trans yq5).trans yq6).trans yq7))
  ·rw [if_pos he] at hK
   have edc : decide (cu.2 ≠ 0) = true := by simpa using he
   rw [edc] at hK
   refine h55.wr 7 rfl (by simp [segC]) fun w57 h57 x57 => ⟨_, rfl, ifT_nd (fun _ => ?_) fun h => absurd h he⟩
   refine h57.wr 5 rfl (by simp) fun w60 h60 x60 => ?_
   have hdd := (h60.ow.box (w48.size, .obj .deferred) (nth_mem (i := 7) rfl) rfl).1.1
   obtain ⟨q0, x79⟩ := h60.setObj 1 (o2 := .gone) rfl (fun _ _ _ _ h => by cases h)
   refine onM_s (take_one hdd) ⟨_, q0.ow.ld 11 rfl rfl, ?_⟩
   obtain ⟨q1, yq1, _⟩ := q0.drop
   obtain ⟨q2, yq2, _⟩ := q1.drop
   obtain ⟨q3, yq3, _⟩ := q2.drop
   obtain ⟨q4, yq4, _⟩ := q3.drop
   obtain ⟨q5, yq5, _⟩ := q4.drop
   obtain ⟨q6, yq6, _⟩ := q5.drop
   obtain ⟨q7, yq7, _⟩ := q6.drop
   exact hK i3 _ (q7.le (by omega) hkk) ((((((hx.trans x51).trans x55).trans x57).trans x60).trans x79).trans ((((((yq1.trans yq2).trans yq3).trans yq4).trans yq5).trans yq6).trans yq7))
end
end Go.Proofs.YthpjoogmmjikmaaGreatDoor
/-
 stream, and Open of any file, over memory.
 No condition beyond those that each theorem names.
-/
set_option linter.unusedSimpArgs false
open Go.Sx
set_option linter.unusedVariables false
set_option linter.unusedSimpArgs false
namespace Go.Proofs.YthpjoogmmjikmaaGreatDoor
def stream (b : Byts) : Byts := streamN (b.length / 64 + 1) b
section
variable {hk : Hook} {A B : Nat → Prop} {I : List Nat} {w0 w w' : AW} {D S : Nat} {i i' : DI} {d d' : Dsk} {k k' : Nat} {L L' : Obs} {K : AV → AW → Prop} {nm bs : Byts} {es : List Int} {bv ev : AV} {br : Bool} {ef : Nat} {eo : Ob}
theorem streamN_length : ∀ (m : Nat) (b : Byts), (streamN m b).length ≤ b.length
  | 0, _ => Nat.zero_le _
  | m + 1, b => by
    unfold streamN
    split
    · simp
    · rename_i h
      simp only []
      have ih := streamN_length m (b.drop 64)
      simp only [List.length_drop] at ih
      generalize hn : (if 62 < (b.getD 0 0).toNat then 0 else (b.getD 0 0).toNat) = n
      have : n ≤ 62 := by rw [← hn]; split <;> omega
      simp only [List.length_append, List.length_take, List.length_drop]
      split
      · simp; omega
      · omega
theorem s78 {v : AV} {b : Byts} (hh : HK hk) (pv : Pv A w) (h : (rL rU).rd B w [v] b) (hl : b.length ≤ 2 ^ 20) (hK : ∀ v' w', Fr w.size w w' → Ga rU A w w' v' (stream b) → K v' w') : Cl Tryz.prog hk 78 [v] w K := by
 apply in78 (hh.no _ _ _ (by decide) (by decide))
 unfold F78
 refine loopP_ind (fun m l w3 => ∃ (at_ : Nat) (out : AV) (acc : Byts), m = b.length / 64 + 1 - at_ / 64 ∧ at_ % 64 = 0 ∧ at_ ≤ b.length ∧ l = [out, .int .i64 at_] ∧ Ow A [] w w3 [] ∧ Ga rU (fz A []) w w3 out acc ∧ acc.length ≤ at_ ∧ acc ++ streamN (b.length / 64 + 1 - at_ / 64) (b.drop at_) = stream b) ?_
  ⟨0, .nilslice, [], rfl, rfl, Nat.zero_le _, rfl, pv.st, Ga.nil, by simp, by simp [stream]⟩
 rintro m l w3 ⟨at_, out, acc, rfl, hmod, hat, rfl, st, hg, hacc, hst⟩ R ih
 have hrd : (rL rU).rd (fz B (ids [])) w3 [v] b := st.arg pv.mem h
 refine ⟨_, _, rfl, fun _ => ⟨_, hrd.len', ?_⟩⟩
 rw [show wi ((at_ : Int) + 64) = ((at_ + 64 : Nat) : Int) by rw [wi_eq (by omega) (by omega)]; push_cast; rfl]
 obtain ⟨f, hf⟩ : ∃ f, b.length / 64 + 1 - at_ / 64 = f + 1 := ⟨b.length / 64 - at_ / 64, by omega⟩
 rw [hf] at hst
 refine ifT_d (fun hc => ?_) fun hc => ?_
 ·have hc : at_ + 64 ≤ b.length := by omega
  have hlt : at_ < b.length := by omega
  refine hrd.at1 rfl hlt fun bk ok a ha hld => ⟨(b[at_].toNat : Int), ?_, ?_⟩
  ·have ha : [a] = [AV.int .u8 (b[at_].toNat : Int)] := ha
   rw [hld]; injection ha with ha; rw [ha]
  have h8 : b[at_].toNat < 256 := b[at_].toNat_lt
  have ew : wi (b[at_].toNat : Int) = (b[at_].toNat : Int) := wi_eq (by omega) (by omega)
  rw [ew]
  have hget : (b.drop at_).getD 0 0 = b[at_] := by rw [List.getD_eq_getElem?_getD, List.getElem?_drop, Nat.add_zero, List.getElem?_eq_getElem hlt]; rfl
  unfold streamN at hst
  rw [if_neg (by simp; omega), hget] at hst
  simp only [] at hst
  generalize hn : (if 62 < b[at_].toNat then 0 else b[at_].toNat) = n at hst
  have hn62 : n ≤ 62 := by rw [← hn]; split <;> omega
  refine join_of (fun lv w11 => lv = [.int .i64 (n : Int)] ∧ w11 = w3) ?_ ?_
  ·rintro lv w11 ⟨rfl, rfl⟩
   refine ⟨_, rfl, fun _ => ?_⟩
   rw [show wi ((at_ : Int) + 2) = ((at_ + 2 : Nat) : Int) by rw [wi_eq (by omega) (by omega)]; push_cast; rfl, show wi (((at_ + 2 : Nat) : Int) + (n : Int)) = ((at_ + 2 + n : Nat) : Int) by rw [wi_eq (by omega) (by omega)]; push_cast; rfl]
   obtain ⟨part, hsl, hpart⟩ := hrd.cut (i := at_ + 2) (j := at_ + 2 + n) (by omega) (by omega) (.inl rfl) (.inl rfl)
   have epart : (b.take (at_ + 2 + n)).drop (at_ + 2) = ((b.drop at_).drop 2).take n := by
    rw [List.drop_take, List.drop_drop, show at_ + 2 + n - (at_ + 2) = n by omega]
   rw [epart] at hpart
   generalize hpt : ((b.drop at_).drop 2).take n = pt at hpart hst
   have hptl : pt.length = n := by rw [← hpt]; simp; omega
   refine onM_s hsl (Ow.appSrc (r := rU) (l' := pt) st hg (Rs.src hpart.rsB) (Chk.bytes.2 rfl) (by decide) (fun c hc => pv.new c (by have := st.size; omega)) (by omega) (by omega) fun out' w16 st16 x16 hg16 => ?_)
   refine ifT_d (fun hc2 => ?_) fun hc2 => ?_
   ·rw [if_pos (by omega), List.append_nil] at hst
    rw [hst] at hg16
    exact hK out' w16 st16.fr hg16.out
   ·rw [if_neg (by omega), List.drop_drop] at hst
    refine ih (b.length / 64 + 1 - (at_ + 64) / 64) (by omega) _ _ ⟨at_ + 64, out', acc ++ pt, rfl, by omega, by omega, rfl, st16, hg16, by simp; omega, ?_⟩
    rw [show b.length / 64 + 1 - (at_ + 64) / 64 = f by omega, List.append_assoc]
    exact hst
  ·intro J hJ
   refine ifT_d (fun hc2 => ?_) fun hc2 => ?_
   ·have : n = 0 := by rw [← hn, if_pos (by omega)]
    subst this
    exact hJ _ _ ⟨rfl, rfl⟩
   ·have : n = b[at_].toNat := by rw [← hn, if_neg (by omega)]
    rw [this] at hJ
    exact hJ _ _ ⟨rfl, rfl⟩
 ·unfold streamN at hst
  rw [if_pos (by simp; omega), List.append_nil] at hst
  rw [hst] at hg
  exact hK out w3 st.fr hg.out
end
end Go.Proofs.YthpjoogmmjikmaaGreatDoor
/-
 Open of any file, over memory.
 No condition beyond those that each theorem names.
-/
set_option linter.unusedSimpArgs false
open Go.Sx
set_option linter.unusedVariables false
set_option linter.unusedSimpArgs false
namespace Go.Proofs.YthpjoogmmjikmaaGreatDoor
def u32 (b : Byts) (at_ : Nat) : Nat := (b.getD at_ 0).toNat * 2 ^ 24 + (b.getD (at_ + 1) 0).toNat * 2 ^ 16 + (b.getD (at_ + 2) 0).toNat * 2 ^ 8 + (b.getD (at_ + 3) 0).toNat
def parseN : Nat → Byts → Nat → List Nat
 | 0, _, _ => []
 | m + 1, b, a => if a + 4 ≤ b.length then (if 65536 < u32 b a ∨ b.length < a + 4 + u32 b a then [] else (a + 4 + u32 b a) :: parseN m b (a + 4 + u32 b a)) else []
def ends (b : Byts) : List Nat := parseN (b.length + 1) b 0
def sizeE (E : List Nat) : Nat := E.getLastD 0
def kept (f : Byts) : Byts := (stream f).take (sizeE (ends (stream f)))
def openD (nm : Byts) (d : Dsk) : Dsk × Int :=
 if (d.read nm).2 ≠ 0 ∧ (d.read nm).2 ≠ 70 then (d, (d.read nm).2) else
 if clean (kept (d.read nm).1) == (d.read nm).1 then (d, 0) else trimD nm (kept (d.read nm).1) d
theorem bOr_add {a c k : Nat} (hc : c < 2 ^ k) (h : a * 2 ^ k + c < 2 ^ 32) : bOr .i64 ((a * 2 ^ k : Nat) : Int) (c : Int) = ((a * 2 ^ k + c : Nat) : Int) := by
 unfold bOr
 have h1 : a * 2 ^ k < 2 ^ 32 := by omega
 have h2 : c < 2 ^ 32 := by omega
 have e1 : (BitVec.ofInt 64 ((a * 2 ^ k : Nat) : Int)).toNat = a * 2 ^ k := by
  rw [BitVec.toNat_ofInt]; omega
 have e2 : (BitVec.ofInt 64 ((c : Nat) : Int)).toNat = c := by
  rw [BitVec.toNat_ofInt]; omega
 have e3 : (BitVec.ofInt (IntKind.bits .i64) ((a * 2 ^ k : Nat) : Int) ||| BitVec.ofInt (IntKind.bits .i64) (c : Int)).toNat = a * 2 ^ k + c := by
  show (BitVec.ofInt 64 ((a * 2 ^ k : Nat) : Int) ||| BitVec.ofInt 64 (c : Int)).toNat = _
  rw [BitVec.toNat_or, e1, e2, Nat.mul_comm, ← Nat.two_pow_add_eq_or_of_lt hc]
 rw [e3]
 exact wi_eq (by omega) (by omega)
theorem shl_add {a k : Nat} (hk : k ≤ 24) (h : a < 256) : shlI .i64 (wi (a : Int)) (k : Int) = ((a * 2 ^ k : Nat) : Int) := by
 have hp : a * 2 ^ k < 2 ^ 32 := by
  calc a * 2 ^ k ≤ 255 * 2 ^ k := Nat.mul_le_mul_right _ (by omega)
   _ ≤ 255 * 2 ^ 24 := Nat.mul_le_mul_left _ (Nat.pow_le_pow_right (by decide) hk)
   _ < 2 ^ 32 := by decide
 unfold shlI
 rw [wi_eq (by omega) (by omega)]
 have : min ((k : Int).toNat) (IntKind.bits .i64) = k := by
  show min (k : Int).toNat 64 = k
  omega
 rw [this]
 have e : (a : Int) * 2 ^ k = ((a * 2 ^ k : Nat) : Int) := by push_cast; rfl
 rw [e]
 exact wi_eq (by omega) (by omega)
theorem u32_or {a b c e : Nat} (ha : a < 256) (hb : b < 256) (hc : c < 256) (he : e < 256) :
  bOr .i64 (bOr .i64 (bOr .i64 (shlI .i64 (wi (a : Int)) 24) (shlI .i64 (wi (b : Int)) 16)) (shlI .i64 (wi (c : Int)) 8)) (wi (e : Int)) = ((a * 2 ^ 24 + b * 2 ^ 16 + c * 2 ^ 8 + e : Nat) : Int) := by
 have h1 := shl_add (k := 24) (by decide) ha
 have h2 := shl_add (k := 16) (by decide) hb
 have h3 := shl_add (k := 8) (by decide) hc
 rw [show ((24 : Nat) : Int) = 24 from rfl] at h1
 rw [show ((16 : Nat) : Int) = 16 from rfl] at h2
 rw [show ((8 : Nat) : Int) = 8 from rfl] at h3
 rw [h1, h2, h3, wi_eq (x := (e : Int)) (by omega) (by omega)]
 rw [bOr_add (a := a) (k := 24) (c := b * 2 ^ 16) (by omega) (by omega)]
 rw [show a * 2 ^ 24 + b * 2 ^ 16 = (a * 2 ^ 8 + b) * 2 ^ 16 by omega, bOr_add (k := 16) (c := c * 2 ^ 8) (by omega) (by omega)]
 rw [show (a * 2 ^ 8 + b) * 2 ^ 16 + c * 2 ^ 8 = ((a * 2 ^ 8 + b) * 2 ^ 8 + c) * 2 ^ 8 by omega, bOr_add (k := 8) (c := e) (by omega) (by omega)]
theorem parse_le : ∀ (m : Nat) (b : Byts) (a : Nat), a ≤ b.length → (parseN m b a).length ≤ b.length - a ∧ ∀ e ∈ parseN m b a, a < e ∧ e ≤ b.length
  | 0, _, _, _ => by simp [parseN]
  | m + 1, b, a, h => by
    unfold parseN
    split
    · split
      · simp
      · rename_i h1 h2
        have h2 : ¬ 65536 < u32 b a ∧ ¬ b.length < a + 4 + u32 b a := not_or.1 h2
        obtain ⟨g1, g2⟩ := parse_le m b (a + 4 + u32 b a) (by omega)
        refine ⟨by simp only [List.length_cons]; omega, fun e he => ?_⟩
        rcases List.mem_cons.1 he with rfl | he
        · omega
        · have := g2 e he; omega
    · simp
theorem sizeE_le {b : Byts} : sizeE (ends b) ≤ b.length := by
  unfold sizeE
  have h := (parse_le (b.length + 1) b 0 (Nat.zero_le _)).2
  cases hE : ends b with
  | nil => simp
  | cons a l =>
    have : (a :: l).getLastD 0 ∈ ends b := by
      rw [hE, List.getLastD_eq_getLast?, List.getLast?_eq_some_getLast (by simp)]
      exact List.getLast_mem _
    rw [hE] at this
    exact (h _ (by rw [show parseN (b.length + 1) b 0 = ends b from rfl, hE]; exact this)).2
end Go.Proofs.YthpjoogmmjikmaaGreatDoor
/-
 Open of any file, over memory: the walk.
 No condition beyond those that each theorem names.
-/
set_option linter.unusedSimpArgs false
open Go.Sx
set_option linter.unusedVariables false
set_option linter.unusedSimpArgs false
namespace Go.Proofs.YthpjoogmmjikmaaGreatDoor
def cst (E : List Nat) : List AV := E.map fun n : Nat => AV.int .i64 ((n : Nat) : Int)
theorem cst_length (E : List Nat) : (cst E).length = E.length := List.length_map _
section
variable {hk : Hook} {A B : Nat → Prop} {I : List Nat} {w0 w w' : AW} {D S : Nat} {i i' : DI} {d d' : Dsk} {k k' : Nat} {L L' : Obs} {K : AV → AW → Prop} {nm bs : Byts} {E : List Nat} {bv ev : AV} {br : Bool} {ef : Nat} {eo : Ob}
theorem s47 (hh : HK hk) (h3 : ld w S 3 = some ev) (he : Rs w 1 E.length ev (cst E)) (hl : E.length < 2 ^ 60) (hK : K (.int .i64 (sizeE E : Nat)) w) : Cl Tryz.prog hk 47 [.ptr S 0] w K := by
 apply in47 (hh.no _ _ _ (by decide) (by decide))
 unfold F47
 refine ⟨false, by kernel_rfl, ifT_f ?_⟩
 simp only [onP]
 refine onM_s h3 ⟨_, he.len, ifT_d (fun hc => ?_) fun hc => ?_⟩
 ·have : E = [] := by
   have : E.length = 0 := by omega
   simpa using this
  subst this
  exact hK
 ·have hpos : 0 < E.length := by omega
  refine onM_s h3 (onM_s h3 ⟨_, he.len, ?_⟩)
  rw [show wi (((E.length : Nat) : Int) - 1) = ((E.length - 1 : Nat) : Int) by rw [wi_eq (by omega) (by omega)]; omega]
  refine Rs.at he (i := ((E.length - 1 : Nat) : Int)) (by omega) (by omega) fun b o hf _ => ⟨_, ?_, hK⟩
  have := hf 0 (by decide)
  rw [Nat.add_zero] at this
  rw [this]
  have hge : E.getLast? = some E[E.length - 1] := by
   rw [List.getLast?_eq_getElem?, List.getElem?_eq_getElem (by omega)]
  have : sizeE E = E[E.length - 1] := by
   unfold sizeE
   rw [List.getLastD_eq_getLast?, hge]; rfl
  rw [this]
  simp [cst, hpos]
  exact ⟨_, List.getElem?_eq_getElem (by omega), rfl⟩
set_option maxRecDepth 20000 in
theorem s43 (hh : HK hk) (h : Dk A [] w0 w D i d k L) (hb : (d.read nm).1.length ≤ 253952) (hkk : k + 10000 < 2 ^ 27)
    (hE : (openD nm d).2 ≠ 0 → ∀ i' w', Dk A [] w0 w' D i' (openD nm d).1 (k + 10000) L → Xt (dkU D i L) w (dkU D i' L) w' → K (.tup [.nilptr, .int .i64 (openD nm d).2]) w')
    (hK : (openD nm d).2 = 0 → ∀ S bv ev ef eo i' w', Dk A [] w0 w' D i' (openD nm d).1 (k + 10000) ((S, .row (segC D nm bv ev false)) :: (ef, eo) :: L) → Xt (dkU D i L) w (dkU D i' ((S, .row (segC D nm bv ev false)) :: (ef, eo) :: L)) w' →
      (rL rU).rd (fz A (dkU D i' ((S, .row (segC D nm bv ev false)) :: (ef, eo) :: L))) w' [bv] (kept (d.read nm).1) → Sv 1 eo ev (cst (ends (stream (d.read nm).1))) → K (.tup [.ptr S 0, .int .i64 0]) w') : Cl Tryz.prog hk 43 [.ptr D 0, .str nm] w K := by
  apply in43 (hh.no _ _ _ (by decide) (by decide))
  unfold F43
  refine s77 hh h fun v3 w3 f3 hg3 => ⟨_, _, rfl, ?_⟩
  obtain ⟨h3, x3⟩ := h.fr f3
  have hr3 := hg3.rd (by decide)
  unfold openD at hE hK
  generalize hrdn : (d.read nm).1 = fb at *
  generalize hrde : (d.read nm).2 = fe at *
  have hsl := streamN_length (fb.length / 64 + 1) fb
  have hsl : (stream fb).length ≤ fb.length := hsl
  refine join_of (fun lv w7 => lv = [] ∧ w7 = w3 ∧ ¬(fe ≠ 0 ∧ fe ≠ 70)) ?_ ?_
  · rintro lv w7 ⟨rfl, rfl, hok⟩
    rw [if_neg hok] at hE hK
    refine ⟨rfl, fun _ => gd_t rfl (gd_t rfl (h3.new' fun S w10 h10 x10 => ?_))⟩
    refine s78 hh h10.ow.P (hr3.x x10) (by omega) fun v11 w12 f12 hg12 => ?_
    obtain ⟨h12, x12⟩ := h10.fr f12
    have hr12 := hg12.rd (by decide)
    obtain ⟨h12r, x12r⟩ := h12.room
    obtain ⟨h13, x13⟩ := h12r.permL (L' := (S, .row (segC D nm .nilslice .nilslice false)) :: (0, .none) :: L) (.swap _ _ _)
    have x013 := ((x3.trans x10).trans x12).trans (x12r.trans x13)
    have hall := hr12.x (x12r.trans x13)
    generalize hal : stream fb = all at *
    have hkp : kept fb = all.take (sizeE (ends all)) := by unfold kept; rw [hal]
    rw [hkp] at hE hK
    refine join_of (fun lv w14 => lv = [] ∧ ∃ ev ef eo, Dk A [] w0 w14 D i d k ((S, .row (segC D nm .nilslice ev false)) :: (ef, eo) :: L) ∧ Xt (dkU D i ((S, .row (segC D nm .nilslice .nilslice false)) :: (0, .none) :: L)) w12 (dkU D i ((S, .row (segC D nm .nilslice ev false)) :: (ef, eo) :: L)) w14 ∧ Sv 1 eo ev (cst (ends all))) ?_ ?_
    · rintro lv w14 ⟨rfl, ev, ef, eo, h14, x14, hsv⟩
      have hel := (parse_le (all.length + 1) all 0 (Nat.zero_le _)).1
      have hel : (ends all).length ≤ all.length := hel
      have hrs := h14.ow.sv (i := 7) (f := ef) (o := eo) rfl hsv (by decide) (k := (ends all).length) (by rw [cst_length]; omega)
      refine ⟨rfl, fun _ => s47 hh (h14.ow.ld 6 rfl rfl) hrs (by omega) ⟨_, rfl, ?_⟩⟩
      obtain ⟨bv, hcut, hbv⟩ := (hall.x x14).cut (i := 0) (j := sizeE (ends all)) (Nat.zero_le _) sizeE_le (.inr ⟨rfl, rfl⟩) (.inl rfl)
      rw [List.drop_zero] at hbv
      refine onM_s hcut (gd_t hbv.ok1 (h14.wr 0 rfl (by simp [segC]) fun w20 h20 x20 => ?_))
      have h20 : Dk A [] w0 w20 D i d k ((S, .row (segC D nm bv ev false)) :: (ef, eo) :: L) := h20
      have x20 : Xt (dkU D i ((S, .row (segC D nm .nilslice ev false)) :: (ef, eo) :: L)) w14 (dkU D i ((S, .row (segC D nm bv ev false)) :: (ef, eo) :: L)) w20 := x20
      have hbv20 := hbv.x x20
      generalize hkb : all.take (sizeE (ends all)) = kb at *
      have hkbl : kb.length ≤ all.length := by rw [← hkb]; simp; omega
      have x020 := (x013.trans x14).trans x20
      refine join_of (fun lv w22 => ∃ (e : Int) (br : Bool) (i' : DI) (d' : Dsk), lv = [.int .i64 e] ∧ Dk A [] w0 w22 D i' d' (k + 10000) ((S, .row (segC D nm bv ev br)) :: (ef, eo) :: L) ∧ Xt (dkU D i L) w (dkU D i' ((S, .row (segC D nm bv ev br)) :: (ef, eo) :: L)) w22 ∧ (rL rU).rd (fz A (dkU D i' ((S, .row (segC D nm bv ev br)) :: (ef, eo) :: L))) w22 [bv] kb ∧ (if clean kb == fb then (d, 0) else trimD nm kb d) = (d', e) ∧ br = decide (e ≠ 0)) ?_ ?_
      · rintro lv w22 ⟨e, br, i', d', rfl, h22, x22, hb22, heq, rfl⟩
        rw [heq] at hE hK
        refine ⟨e, rfl, fun _ => ifT_nd (fun hne => ?_) fun he => ?_⟩
        · obtain ⟨h23, x23⟩ := h22.forget
          obtain ⟨h24, x24⟩ := h23.forget
          exact hE hne i' _ h24 ((x22.trans x23).trans x24)
        · subst he
          exact hK rfl S bv ev ef eo i' _ h22 x22 hb22 hsv
      · intro J hJ
        refine onM_s (v := bv) (h20.ow.ld 6 rfl rfl) (s80 hh h20.ow.P hbv20 (by omega) fun v26 w27 f27 hg27 => ?_)
        obtain ⟨h27, x27⟩ := h20.fr f27
        have hcl : (clean kb).length = nsec kb * 64 := cleanN_length kb (nsec kb)
        refine s79 hh (hg27.rd (by decide)).rsB (((((hr3.x x10).x x12).x (x12r.trans x13)).x (x14.trans x20)).x x27).rsB (by rw [hcl]; unfold nsec; omega) (by omega) ⟨_, rfl, ?_⟩
        cases hq : (clean kb == fb) with
        | true => exact ifT_f (hJ _ _ ⟨0, false, i, d, rfl, h27.le (by omega) hkk, x020.trans x27, hbv20.x x27, by rw [hq]; rfl, rfl⟩)
        | false =>
          refine ifT_t (s81 hh h27 (hbv20.x x27) (by omega) hkk fun i' w32 h32 x32 => ⟨_, rfl, ?_⟩)
          exact hJ _ _ ⟨_, _, i', _, rfl, h32, (x020.trans x27).trans x32, (hbv20.x x27).x x32, by rw [hq]; rfl, rfl⟩
    · intro J hJ
      refine loopP_ind (fun m lv w36 => ∃ (a f : Nat) (E1 : List Nat) (ev : AV) (ef : Nat) (eo : Ob), m = all.length + 1 - a ∧ a ≤ all.length ∧ all.length - a < f ∧ lv = [.int .i64 a] ∧ Dk A [] w0 w36 D i d k ((S, .row (segC D nm .nilslice ev false)) :: (ef, eo) :: L) ∧ Xt (dkU D i ((S, .row (segC D nm .nilslice .nilslice false)) :: (0, .none) :: L)) w12 (dkU D i ((S, .row (segC D nm .nilslice ev false)) :: (ef, eo) :: L)) w36 ∧ Sv 1 eo ev (cst E1) ∧ E1.length ≤ a ∧ E1 ++ parseN f all a = ends all) ?_
        ⟨0, all.length + 1, [], .nilslice, 0, .none, rfl, Nat.zero_le _, by omega, rfl, h13, Xt.refl, Sv.nil, Nat.le_refl _, by simp [ends]⟩
      rintro m lv w36 ⟨a, f, E1, ev, ef, eo, rfl, ha, hf, rfl, h36, x36, hsv, hE1, hp⟩ R ih
      obtain ⟨f, rfl⟩ : ∃ f', f = f' + 1 := ⟨f - 1, by omega⟩
      have hr36 := hall.x x36
      unfold parseN at hp
      have stop : (E1 ++ [] = ends all) → J [] w36 := fun e => hJ _ _ ⟨rfl, ev, ef, eo, h36, x36, by rw [← e, List.append_nil]; exact hsv⟩
      refine ⟨_, rfl, fun _ => ⟨_, hr36.len', ?_⟩⟩
      rw [show wi ((a : Int) + 4) = ((a + 4 : Nat) : Int) by rw [wi_eq (by omega) (by omega)]; push_cast; rfl]
      refine ifT_d (fun hc => ?_) fun hc => ?_
      · have hc : a + 4 ≤ all.length := by omega
        rw [if_pos hc] at hp
        have at1 : ∀ (j : Nat) (hj : j < all.length) (K : Nat → Nat → Prop), (∀ b o, ld w36 b o = some (.int .u8 ((all.getD j 0).toNat : Int)) → K b o) → atP (idxS 1 v11 (.int .i64 (j : Int))) K := fun j hj K hK => by
          refine hr36.at1 rfl hj fun bk ok a ha hld => hK bk ok ?_
          have ha : [a] = [AV.int .u8 (all[j].toNat : Int)] := ha
          rw [hld]; injection ha with ha; rw [ha, List.getD_eq_getElem?_getD, List.getElem?_eq_getElem hj]; rfl
        refine at1 a (by omega) _ fun b1 o1 g1 => ⟨_, g1, ?_⟩
        rw [show wi ((a : Int) + 1) = ((a + 1 : Nat) : Int) by rw [wi_eq (by omega) (by omega)]; push_cast; rfl]
        refine at1 (a + 1) (by omega) _ fun b2 o2 g2 => ⟨_, g2, ?_⟩
        refine (show ∀ {K : Int → Prop} {x : Int}, K x → be x K from fun h => h) ?_
        rw [show wi ((a : Int) + 2) = ((a + 2 : Nat) : Int) by rw [wi_eq (by omega) (by omega)]; push_cast; rfl]
        refine at1 (a + 2) (by omega) _ fun b3 o3 g3 => ⟨_, g3, ?_⟩
        refine (show ∀ {K : Int → Prop} {x : Int}, K x → be x K from fun h => h) ?_
        rw [show wi ((a : Int) + 3) = ((a + 3 : Nat) : Int) by rw [wi_eq (by omega) (by omega)]; push_cast; rfl]
        refine at1 (a + 3) (by omega) _ fun b4 o4 g4 => ⟨_, g4, ?_⟩
        have hu := u32_or (UInt8.toNat_lt (all.getD a 0)) (UInt8.toNat_lt (all.getD (a + 1) 0)) (UInt8.toNat_lt (all.getD (a + 2) 0)) (UInt8.toNat_lt (all.getD (a + 3) 0))
        rw [show (all.getD a 0).toNat * 2 ^ 24 + (all.getD (a + 1) 0).toNat * 2 ^ 16 + (all.getD (a + 2) 0).toNat * 2 ^ 8 + (all.getD (a + 3) 0).toNat = u32 all a from rfl] at hu
        rw [hu]
        generalize u32 all a = n at hp
        refine ifT_d (fun hn => ?_) fun hn => ?_
        · rw [if_pos (.inl (by omega))] at hp; exact stop hp
        rw [show wi (((a + 4 : Nat) : Int) + (n : Int)) = ((a + 4 + n : Nat) : Int) by rw [wi_eq (by omega) (by omega)]; push_cast; rfl]
        refine (show ∀ {K : Int → Prop} {x : Int}, K x → be x K from fun h => h) ?_
        refine ⟨_, hr36.len', ifT_d (fun hn2 => ?_) fun hn2 => ?_⟩
        · rw [if_pos (.inr (by omega))] at hp; exact stop hp
        rw [if_neg (by omega)] at hp
        rw [show wi (4 + (n : Int)) = ((4 + n : Nat) : Int) by rw [wi_eq (by omega) (by omega)]; push_cast; rfl]
        refine (show ∀ {K : Int → Prop} {x : Int}, K x → be x K from fun h => h) ?_
        rw [show wi ((a : Int) + ((4 + n : Nat) : Int)) = ((a + 4 + n : Nat) : Int) by rw [wi_eq (by omega) (by omega)]; push_cast; omega]
        refine onM_s (v := ev) (h36.ow.ld 6 rfl rfl) (h36.new' fun b57 w58 h58 x58 => ?_)
        have hb57 : Box w58 b57 [.int .i64 ((a + 4 + n : Nat) : Int)] := (h58.ow.box (b57, .row [.int .i64 ((a + 4 + n : Nat) : Int)]) (nth_mem (i := 6) rfl) rfl).1
        refine h58.accL 2 rfl hsv (by decide) (hb57.rs rfl) (by rw [cst_length]; omega) (by rw [cst_length]; omega) fun ev' ef' eo' w60 h60 x60 hsv' => ?_
        refine gd_t hsv'.ok (h60.wr 1 rfl (by simp [segC]) fun w61 h61 x61 => ?_)
        obtain ⟨h62, x62, _⟩ := h61.drop
        have h62 : Dk A [] w0 w61 D i d k ((S, .row (segC D nm .nilslice ev' false)) :: (ef', eo') :: L) := h62
        refine ih (all.length + 1 - (a + 4 + n)) (by omega) _ _ ⟨a + 4 + n, f, E1 ++ [a + 4 + n], ev', ef', eo', rfl, by omega, by omega, rfl, h62, (((x36.trans x58).trans x60).trans x61).trans x62, by rw [show cst (E1 ++ [a + 4 + n]) = cst E1 ++ [.int .i64 ((a + 4 + n : Nat) : Int)] by simp [cst]]; exact hsv', by simp; omega, by rw [List.append_assoc]; exact hp⟩
      · rw [if_neg (by omega)] at hp; exact stop hp
  · intro J hJ
    refine ifT_nd (fun hne => ifT_nd (fun hne2 => ?_) fun he => hJ _ _ ⟨rfl, rfl, fun h => h.2 he⟩) fun he => hJ _ _ ⟨rfl, rfl, fun h => h.1 he⟩
    rw [if_pos ⟨hne, hne2⟩] at hE
    exact hE hne i _ (h3.le (by omega) hkk) x3
end
end Go.Proofs.YthpjoogmmjikmaaGreatDoor
/-
 told, SameLists, Count, over memory.
 No condition beyond those that each theorem names.
-/
set_option linter.unusedSimpArgs false
open Go.Sx
set_option linter.unusedVariables false
set_option linter.unusedSimpArgs false
namespace Go.Proofs.YthpjoogmmjikmaaGreatDoor
def stE (E : List Nat) (i : Nat) : Nat := if i = 0 then 0 else E.getD (i - 1) 0
def bd (B : Byts) (E : List Nat) (i : Nat) : Byts := (B.take (E.getD i 0)).drop (stE E i + 4)
def toldL (B : Byts) (E : List Nat) : List Byts := (List.range E.length).map (bd B E)
def Asc (B : Byts) (E : List Nat) : Prop := ∀ i, i < E.length → stE E i + 4 ≤ E.getD i 0 ∧ E.getD i 0 ≤ B.length
section
variable {hk : Hook} {A B : Nat → Prop} {I : List Nat} {w0 w w' : AW} {D S : Nat} {i i' : DI} {d d' : Dsk} {k k' : Nat} {L L' : Obs} {K : AV → AW → Prop} {nm bs : Byts} {E : List Nat} {bv ev : AV} {br : Bool} {ef : Nat} {eo : Ob}
theorem s58 (hh : HK hk) (h3 : ld w S 3 = some ev) (he : Rs w 1 E.length ev (cst E)) (hK : K (.int .i64 (E.length : Nat)) w) : Cl Tryz.prog hk 58 [.ptr S 0] w K := by
 apply in58 (hh.no _ _ _ (by decide) (by decide))
 unfold F58
 refine ⟨false, by kernel_rfl, ifT_f ?_⟩
 simp only [onP]
 exact onM_s h3 ⟨_, he.len, hK⟩
end
end Go.Proofs.YthpjoogmmjikmaaGreatDoor
/-
 A segment's file, purely: what its sectors tell.
 No condition beyond those that each theorem names.
-/
set_option linter.unusedSimpArgs false
open Go.Sx
set_option linter.unusedVariables false
set_option linter.unusedSimpArgs false
namespace Go.Proofs.YthpjoogmmjikmaaGreatDoor
def chunk (b : Byts) (i : Nat) : Byts := (b.drop (i * 62)).take 62
def SecOk (b : Byts) (i : Nat) (s : Byts) : Prop := s.length = 64 ∧ (s.getD 0 0).toNat = (chunk b i).length ∧ (s.drop 2).take (chunk b i).length = chunk b i
theorem chunk_length (b : Byts) (i : Nat) : (chunk b i).length ≤ 62 := by unfold chunk; simp; omega
theorem sector_ok (b : Byts) (i : Nat) : SecOk b i (sector b i) := by
 have h := chunk_length b i
 refine ⟨sector_length b i, ?_, ?_⟩
 ·show (UInt8.ofNat (chunk b i).length).toNat = _
  rw [UInt8.toNat_ofNat']; omega
 ·show ((chunk b i) ++ List.replicate (62 - (chunk b i).length) 0).take (chunk b i).length = _
  rw [List.take_left' rfl]
theorem SecOk.app {b r : Byts} {i : Nat} {s : Byts} (h : SecOk b i s) (hi : (i + 1) * 62 ≤ b.length) : SecOk (b ++ r) i s := by
 have : chunk (b ++ r) i = chunk b i := by
  unfold chunk
  rw [List.drop_append_of_le_length (by omega), List.take_append_of_le_length (by simp; omega)]
 unfold SecOk at h ⊢
 rw [this]; exact h
end Go.Proofs.YthpjoogmmjikmaaGreatDoor
/-
 A disk with one file and no faults, purely.
 No condition beyond those that each theorem names.
-/
set_option linter.unusedSimpArgs false
open Go.Sx
set_option linter.unusedVariables false
set_option linter.unusedSimpArgs false
namespace Go.Proofs.YthpjoogmmjikmaaGreatDoor
def Qu (d : Dsk) : Prop := d.down = false ∧ d.arm = 0 ∧ d.fault = 0
section
variable {d : Dsk} {nm : Byts} {f : Int} {ss : List Byts}
theorem settle_all {so : Nat → Stp → Bool} : ∀ (l : List Stp) (i : Nat) (s : FS), (∀ j x, l[j]? = some x → so (i + j) x = true) → settleL so i l s = (l.foldl FS.does s, [])
  | [], _, _, _ => rfl
  | x :: l, i, s, h => by
    have h0 := h 0 x rfl
    rw [Nat.add_zero] at h0
    show (if so i x then settleL so (i + 1) l (s.does x) else _) = _
    rw [h0, if_pos rfl, settle_all l (i + 1) _ fun j y hy => by have := h (j + 1) y hy; rw [show i + 1 + j = i + (j + 1) by omega]; exact this]
    rfl
theorem putS_get {ss : List Byts} {j : Nat} {x : Byts} (hj : j ≤ ss.length) : (putS ss j x).length = max ss.length (j + 1) ∧ (∀ i, i < j → (putS ss j x)[i]? = ss[i]?) ∧ (putS ss j x)[j]? = some x := by
 unfold putS
 refine ⟨by simp; omega, fun i hi => ?_, ?_⟩
 ·rw [List.getElem?_set_ne (by omega), List.getElem?_append_left (by omega)]
 ·rw [List.getElem?_set_self (by simp; omega)]
end
end Go.Proofs.YthpjoogmmjikmaaGreatDoor
/-
 Frames and files of a segment, purely.
 No condition beyond those that each theorem names.
-/
set_option linter.unusedSimpArgs false
open Go.Sx
set_option linter.unusedVariables false
set_option linter.unusedSimpArgs false
namespace Go.Proofs.YthpjoogmmjikmaaGreatDoor
theorem u32_congr {b c : Byts} {a : Nat} (h : ∀ i, i < a + 4 → b.getD i 0 = c.getD i 0) : u32 b a = u32 c a := by
 unfold u32
 rw [h a (by omega), h (a + 1) (by omega), h (a + 2) (by omega), h (a + 3) (by omega)]
theorem getD_appl {b c : Byts} {i : Nat} (h : i < b.length) : (b ++ c).getD i 0 = b.getD i 0 := by
 rw [List.getD_eq_getElem?_getD, List.getD_eq_getElem?_getD, List.getElem?_append_left h]
theorem u32_frame (b t : Byts) (ht : t.length ≤ 65536) : u32 (b ++ frame t) b.length = t.length := by
 have g : ∀ i, (b ++ frame t).getD (b.length + i) 0 = (frame t).getD i 0 := fun i => by
  rw [List.getD_eq_getElem?_getD, List.getD_eq_getElem?_getD, List.getElem?_append_right (by omega), show b.length + i - b.length = i by omega]
 have g0 := g 0
 rw [Nat.add_zero] at g0
 unfold u32
 rw [g0, g 1, g 2, g 3]
 show (UInt8.ofNat (t.length / 2 ^ 24)).toNat * 2 ^ 24 + (UInt8.ofNat (t.length / 2 ^ 16)).toNat * 2 ^ 16 + (UInt8.ofNat (t.length / 2 ^ 8)).toNat * 2 ^ 8 + (UInt8.ofNat t.length).toNat = _
 simp only [UInt8.toNat_ofNat']
 omega
theorem parse_app (t : Byts) (ht : t.length ≤ 65536) : ∀ (m M : Nat) (b : Byts) (a : Nat), a ≤ b.length → b.length - a < m → (b ++ frame t).length - a < M → (parseN m b a).getLastD a = b.length → parseN M (b ++ frame t) a = parseN m b a ++ [(b ++ frame t).length]
  | 0, _, _, _, _, h, _, _ => by omega
  | m + 1, M, b, a, h, hm, hM, hla => by
    have hfl := frame_length t
    have hbl : (b ++ frame t).length = b.length + (4 + t.length) := by rw [List.length_append, hfl]
    rw [hbl] at hM
    obtain ⟨M, rfl⟩ : ∃ M', M = M' + 1 := ⟨M - 1, by omega⟩
    have fin : a = b.length → parseN (M + 1) (b ++ frame t) a = [(b ++ frame t).length] := fun e => by
      subst e
      obtain ⟨M, rfl⟩ : ∃ M', M = M' + 1 := ⟨M - 1, by omega⟩
      rw [parseN, u32_frame b t ht, hbl, if_pos (by omega), if_neg (by omega), parseN, if_neg (by rw [hbl]; omega)]
      congr 1
      omega
    by_cases h1 : a + 4 ≤ b.length
    · by_cases h2 : 65536 < u32 b a ∨ b.length < a + 4 + u32 b a
      · have e : parseN (m + 1) b a = [] := by unfold parseN; rw [if_pos h1, if_pos h2]
        rw [e] at hla ⊢
        exact fin hla
      · have e : parseN (m + 1) b a = (a + 4 + u32 b a) :: parseN m b (a + 4 + u32 b a) := by rw [parseN, if_pos h1, if_neg h2]
        have h2' := not_or.1 h2
        rw [e, List.getLastD_cons] at hla
        have ih := parse_app t ht m M b (a + 4 + u32 b a) (by omega) (by omega) (by rw [hbl]; omega) hla
        have hu : u32 (b ++ frame t) a = u32 b a := u32_congr fun i hi => getD_appl (by omega)
        rw [e, parseN, hu, if_pos (by omega), if_neg (by omega), ih]
        rfl
    · have e : parseN (m + 1) b a = [] := by unfold parseN; rw [if_neg h1]
      rw [e] at hla ⊢
      exact fin hla
theorem ends_app {b t : Byts} (ht : t.length ≤ 65536) (h : sizeE (ends b) = b.length) : ends (b ++ frame t) = ends b ++ [(b ++ frame t).length] := by
 exact parse_app t ht (b.length + 1) ((b ++ frame t).length + 1) b 0 (Nat.zero_le _) (by omega) (by omega) h
end Go.Proofs.YthpjoogmmjikmaaGreatDoor
/-
 What Open and Append leave, purely.
 No condition beyond those that each theorem names.
-/
set_option linter.unusedSimpArgs false
open Go.Sx
set_option linter.unusedVariables false
set_option linter.unusedSimpArgs false
namespace Go.Proofs.YthpjoogmmjikmaaGreatDoor
structure Sect (ss : List Byts) (b : Byts) : Prop where
 len : ss.length = nsec b
 ok : ∀ i (h : i < ss.length), SecOk b i ss[i]
theorem Sect.map (b : Byts) : Sect ((List.range (nsec b)).map (sector b)) b := ⟨by simp, fun i h => by simp; exact sector_ok b i⟩
section
variable {d : Dsk} {nm : Byts} {f : Int} {ss : List Byts}
end
end Go.Proofs.YthpjoogmmjikmaaGreatDoor
/-
 A segment's file through Open, Append, Sync and a crash.
 No condition beyond those that each theorem names.
-/
set_option linter.unusedSimpArgs false
open Go.Sx
set_option linter.unusedVariables false
set_option linter.unusedSimpArgs false
namespace Go.Proofs.YthpjoogmmjikmaaGreatDoor
theorem stE_last (E : List Nat) : stE E E.length = sizeE E := by
  unfold stE sizeE
  rw [List.getLastD_eq_getLast?, List.getLast?_eq_getElem?]
  cases h : E.length with
  | zero => have : E = [] := by simpa using h
            subst this; rfl
  | succ n => rw [if_neg (by omega), List.getD_eq_getElem?_getD]
theorem asc_parse : ∀ (m : Nat) (b : Byts) (a : Nat), a ≤ b.length → ∀ i, i < (parseN m b a).length → (if i = 0 then a else (parseN m b a).getD (i - 1) 0) + 4 ≤ (parseN m b a).getD i 0 ∧ (parseN m b a).getD i 0 ≤ b.length
  | 0, _, _, _, i, h => by simp [parseN] at h
  | m + 1, b, a, h, i, hi => by
    by_cases h1 : a + 4 ≤ b.length
    · by_cases h2 : 65536 < u32 b a ∨ b.length < a + 4 + u32 b a
      · have e : parseN (m + 1) b a = [] := by unfold parseN; rw [if_pos h1, if_pos h2]
        rw [e] at hi; simp at hi
      · have e : parseN (m + 1) b a = (a + 4 + u32 b a) :: parseN m b (a + 4 + u32 b a) := by rw [parseN, if_pos h1, if_neg h2]
        have h2' := not_or.1 h2
        obtain ⟨u, hu⟩ : ∃ u, u32 b a = u := ⟨_, rfl⟩
        rw [hu] at e h2'
        clear hu h2
        rw [e] at hi ⊢
        cases i with
        | zero =>
          show a + 4 ≤ a + 4 + u ∧ a + 4 + u ≤ b.length
          exact ⟨by omega, by omega⟩
        | succ i =>
          have ih := asc_parse m b (a + 4 + u) (by omega) i (Nat.lt_of_succ_lt_succ hi)
          cases i with
          | zero => exact ih
          | succ i => exact ih
    · have e : parseN (m + 1) b a = [] := by unfold parseN; rw [if_neg h1]
      rw [e] at hi; simp at hi
theorem asc_ends (b : Byts) : Asc b (ends b) := fun i hi => asc_parse (b.length + 1) b 0 (Nat.zero_le _) i hi
theorem told_app {B t : Byts} {E : List Nat} (hE : sizeE E = B.length) (ha : Asc B E) : toldL (B ++ frame t) (E ++ [(B ++ frame t).length]) = toldL B E ++ [t] := by
 have hfl := frame_length t
 unfold toldL
 rw [show (E ++ [(B ++ frame t).length]).length = E.length + 1 by simp, List.range_succ, List.map_append]
 congr 1
 ·refine List.map_congr_left fun i hi => ?_
  have hi : i < E.length := List.mem_range.1 hi
  have g : ∀ q, q < E.length → (E ++ [(B ++ frame t).length]).getD q 0 = E.getD q 0 := fun q hq => by
   rw [List.getD_eq_getElem?_getD, List.getD_eq_getElem?_getD, List.getElem?_append_left hq]
  have hs : stE (E ++ [(B ++ frame t).length]) i = stE E i := by
   unfold stE
   split
   ·rfl
   ·exact g _ (by omega)
  unfold bd
  rw [g i hi, hs, List.take_append_of_le_length (ha i hi).2]
 ·have hs : stE (E ++ [(B ++ frame t).length]) E.length = B.length := by
   rw [← hE, ← stE_last]
   unfold stE
   split
   ·rfl
   ·rw [List.getD_eq_getElem?_getD, List.getD_eq_getElem?_getD, List.getElem?_append_left (by omega)]
  have hg : (E ++ [(B ++ frame t).length]).getD E.length 0 = (B ++ frame t).length := by
   rw [List.getD_eq_getElem?_getD, List.getElem?_append_right (Nat.le_refl _)]; simp
  simp only [List.map_cons, List.map_nil]
  unfold bd
  rw [hg, hs, List.take_length, List.drop_append, List.drop_of_length_le (by omega), List.nil_append, show B.length + 4 - B.length = 4 by omega]
  congr 1
end Go.Proofs.YthpjoogmmjikmaaGreatDoor
/-
 What the functions of this chapter do.
 No condition beyond those that each theorem names.
-/
set_option linter.unusedSimpArgs false
open Go.Sx
set_option linter.unusedVariables false
namespace Go.Proofs.YthpjoogmmjikmaaGreatDoor
def F3 (hk : Hook) (most_0 : Int) (bodies_1 : AV) (from_2 : Int) (n_3 : Int) (w : AW) (K : AV → AW → Prop) : Prop :=
 Cl Tryz.prog hk 8 [(.int .i64 most_0), (.int .i64 300)] w fun r_4 w_5 =>
 ∃ x_6 : Int, r_4 = (.int .i64 x_6) ∧
 Cl Tryz.prog hk 9 [] w_5 fun r_7 w_8 =>
 Cl Tryz.prog hk 10 [r_7, (.str [108, 111, 103]), (.int .i64 (wi (1 + x_6))), (.int .i64 7)] w_8 fun r_9 w_10 =>
 ∃ x_11 : AV, ∃ x_12 : Int, r_9 = .tup [x_11, (.int .i64 x_12)] ∧
 ifT (!decide (x_12 = 0)) (K (.bool false) w_10)
 (join (fun l_13 w_14 => ∃ all_16 : AV, l_13 = [all_16] ∧ ∀ _ : Nat → AV,
  ∃ x_17 : Int, lenS all_16 = some (.int .i64 x_17) ∧
  Cl Tryz.prog hk 8 [(.int .i64 from_2), (.int .i64 (wi (x_17 + 1)))] w_14 fun r_18 w_19 =>
  ∃ from_20 : Int, r_18 = (.int .i64 from_20) ∧
  Cl Tryz.prog hk 8 [(.int .i64 n_3), (.int .i64 50)] w_19 fun r_21 w_22 =>
  ∃ n_23 : Int, r_21 = (.int .i64 n_23) ∧
  Cl Tryz.prog hk 12 [x_11, (.int .i64 (wi (7 + from_20))), (.int .i64 n_23)] w_22 fun r_24 w_25 =>
  ∃ x_26 : AV, ∃ x_27 : Int, r_24 = .tup [x_26, (.int .i64 x_27)] ∧
  ∃ x_28 : Int, lenS all_16 = some (.int .i64 x_28) ∧
  onM (slS 1 all_16 (some (.int .i64 from_20)) (some (.int .i64 (imin x_28 (wi (from_20 + n_23))))) none) fun want_29 =>
  Cl Tryz.prog hk 13 [x_11] w_25 fun r_30 w_31 =>
  loopP [(.int .i64 0)] w_31 fun R_32 l_33 w_34 => ∃ i_35 : Int, l_33 = [(.int .i64 i_35)] ∧ ∀ _ : Nat → AV,
  ∃ x_36 : Int, lenS r_30 = some (.int .i64 x_36) ∧
  ifT (decide (i_35 < x_36)) (atP (idxS 1 r_30 (.int .i64 i_35)) fun b_37 o_38 =>
  ∃ x_39 : Int, ld w_34 b_37 o_38 = some (.int .i64 x_39) ∧
  ifT (decide (x_39 < 7)) (K (.bool false) w_34)
  (ifT (decide (0 < i_35)) (atP (idxS 1 r_30 (.int .i64 i_35)) fun b_40 o_41 =>
  ∃ x_42 : Int, ld w_34 b_40 o_41 = some (.int .i64 x_42) ∧
  atP (idxS 1 r_30 (.int .i64 (wi (i_35 - 1)))) fun b_43 o_44 =>
  ∃ x_45 : Int, ld w_34 b_43 o_44 = some (.int .i64 x_45) ∧
  ifT (decide (x_42 ≤ x_45)) (K (.bool false) w_34)
  (R_32 [(.int .i64 (wi (i_35 + 1)))] w_34))
  (R_32 [(.int .i64 (wi (i_35 + 1)))] w_34)))
  (ifT (decide (x_27 = 0)) (Cl Tryz.prog hk 14 [x_26, want_29] w_34 fun r_46 w_47 =>
  ∃ x_48 : Bool, r_46 = (.bool x_48) ∧
  ifT x_48 (∃ x_49 : Int, lenS r_30 = some (.int .i64 x_49) ∧
  ∃ x_50 : Int, lenS all_16 = some (.int .i64 x_50) ∧
  ifT ((decide (x_49 = 0)) == (decide (x_50 = 0))) (Cl Tryz.prog hk 15 [] w_47 fun r_51 w_52 =>
  ∃ x_53 : Bool, r_51 = (.bool x_53) ∧
  K (.bool x_53) w_52)
  (K (.bool false) w_47))
  (K (.bool false) w_47))
  (K (.bool false) w_34))) fun J_15 =>
 loopP [.nilslice, (.int .i64 0)] w_10 fun R_54 l_55 w_56 => ∃ all_57 : AV, ∃ i_58 : Int, l_55 = [all_57, (.int .i64 i_58)] ∧ ∀ _ : Nat → AV,
  ∃ x_59 : Int, lenS bodies_1 = some (.int .i64 x_59) ∧
  ifT (decide (i_58 < x_59)) (ifT (decide (i_58 < 40)) (atP (idxS 1 bodies_1 (.int .i64 i_58)) fun b_60 o_61 =>
  onM (ld w_56 b_60 o_61) fun x_62 =>
  atP (idxS 1 bodies_1 (.int .i64 i_58)) fun b_63 o_64 =>
  onM (ld w_56 b_63 o_64) fun x_65 =>
  ∃ x_66 : Int, lenS x_65 = some (.int .i64 x_66) ∧
  onM (slS 1 x_62 none (some (.int .i64 (imin x_66 300))) none) fun x_67 =>
  Cl Tryz.prog hk 11 [x_11, x_67] w_56 fun r_68 w_69 =>
  ∃ x_70 : Int, ∃ x_71 : Int, r_68 = .tup [(.int .i64 x_70), (.int .i64 x_71)] ∧
  ifT (!decide (x_70 = (wi (7 + i_58)))) (K (.bool false) w_69)
  (ifT (!decide (x_71 = 0)) (K (.bool false) w_69)
  (gd (okCell x_67) (
  new w_69 [x_67] fun b_72 w_73 =>
  onE (appS 1 24 w_73 all_57 (.slice b_72 0 1 1 none)) fun all_74 w_75 =>
  R_54 [all_74, (.int .i64 (wi (i_58 + 1)))] w_75))))
  (J_15 [all_57] w_56))
  (J_15 [all_57] w_56))
def adv3 : Adv := (.sq .lf (.sq .lf (.sq .lf (.sq .lf (.sq (.sq .lf (.cd (.sq .lf .lf) .lf)) (.sq .lf (.sj [(12, .sc (.opq))] (.sq .lf (.bl (.lp [(12, .sc (.opq)), (13, .sc (.int .i64))] (.sq (.sq .lf (.cd .lf .lf)) (.sq (.bl (.sq .lf (.sq (.sq .lf (.sq .lf (.cd (.sq .lf .lf) .lf))) .lf))) .lf))))) (.sq .lf (.sq .lf (.sq .lf (.sq .lf (.sq (.sq .lf (.bl (.lp [(21, .sc (.int .i64))] (.sq (.sq .lf (.cd .lf .lf)) (.sq (.bl (.sq .lf (.cd (.sq .lf .lf) .lf))) .lf))))) (.sq .lf .lf)))))))))))))
set_option maxRecDepth 100000 in
theorem eq3 (hk : Hook) (most_0 : Int) (bodies_1 : AV) (from_2 : Int) (n_3 : Int) (w : AW) (K : AV → AW → Prop) : fnS Tryz.prog hk Tryz.f3 adv3 [(.int .i64 most_0), bodies_1, (.int .i64 from_2), (.int .i64 n_3)] w K = F3 hk most_0 bodies_1 from_2 n_3 w K := by kernel_rfl
theorem in3 {hk : Hook} {most_0 : Int} {bodies_1 : AV} {from_2 : Int} {n_3 : Int} {w : AW} {K : AV → AW → Prop} (hn : hk 3 [(.int .i64 most_0), bodies_1, (.int .i64 from_2), (.int .i64 n_3)] w = none) (h : F3 hk most_0 bodies_1 from_2 n_3 w K) : Cl Tryz.prog hk 3 [(.int .i64 most_0), bodies_1, (.int .i64 from_2), (.int .i64 n_3)] w K :=
 fnS_ok Tryz.func3 hn (by rw [eq3]; exact h)
def F8 (hk : Hook) (x_0 : Int) (n_1 : Int) (w : AW) (K : AV → AW → Prop) : Prop :=
 ifT (decide (n_1 ≤ 0)) (K (.int .i64 0) w)
 (∃ x_2 : Int, arith .rem .i64 x_0 n_1 = some (.int .i64 x_2) ∧
 ifT (decide (x_2 < 0)) (K (.int .i64 (wi (x_2 + n_1))) w)
 (K (.int .i64 x_2) w))
def adv8 : Adv := (.sq .lf (.sq (.sq .lf (.cd (.sq .lf .lf) .lf)) (.sq .lf (.sq (.sq .lf (.cd .lf .lf)) (.sq .lf .lf)))))
set_option maxRecDepth 100000 in
theorem eq8 (hk : Hook) (x_0 : Int) (n_1 : Int) (w : AW) (K : AV → AW → Prop) : fnS Tryz.prog hk Tryz.f8 adv8 [(.int .i64 x_0), (.int .i64 n_1)] w K = F8 hk x_0 n_1 w K := by kernel_rfl
theorem in8 {hk : Hook} {x_0 : Int} {n_1 : Int} {w : AW} {K : AV → AW → Prop} (hn : hk 8 [(.int .i64 x_0), (.int .i64 n_1)] w = none) (h : F8 hk x_0 n_1 w K) : Cl Tryz.prog hk 8 [(.int .i64 x_0), (.int .i64 n_1)] w K :=
 fnS_ok Tryz.func8 hn (by rw [eq8]; exact h)
def F14 (hk : Hook) (a_0 : AV) (b_1 : AV) (w : AW) (K : AV → AW → Prop) : Prop :=
 ∃ x_2 : Int, lenS a_0 = some (.int .i64 x_2) ∧
 ∃ x_3 : Int, lenS b_1 = some (.int .i64 x_3) ∧
 ifT (!decide (x_2 = x_3)) (K (.bool false) w)
 (loopP [(.int .i64 0)] w fun R_4 l_5 w_6 => ∃ i_7 : Int, l_5 = [(.int .i64 i_7)] ∧ ∀ _ : Nat → AV,
  ∃ x_8 : Int, lenS a_0 = some (.int .i64 x_8) ∧
  ifT (decide (i_7 < x_8)) (atP (idxS 1 a_0 (.int .i64 i_7)) fun b_9 o_10 =>
  onM (ld w_6 b_9 o_10) fun x_11 =>
  atP (idxS 1 b_1 (.int .i64 i_7)) fun b_12 o_13 =>
  onM (ld w_6 b_12 o_13) fun x_14 =>
  Cl Tryz.prog hk 17 [x_11, x_14] w_6 fun r_15 w_16 =>
  ∃ x_17 : Bool, r_15 = (.bool x_17) ∧
  ifT (!x_17) (K (.bool false) w_16)
  (R_4 [(.int .i64 (wi (i_7 + 1)))] w_16))
  (K (.bool true) w_6))
def adv14 : Adv := (.sq .lf (.sq (.sq .lf (.cd (.sq .lf .lf) .lf)) (.sq (.sq .lf (.bl (.lp [(5, .sc (.int .i64))] (.sq (.sq .lf (.cd .lf .lf)) (.sq (.bl (.sq .lf (.cd (.sq .lf .lf) .lf))) .lf))))) (.sq .lf .lf))))
set_option maxRecDepth 100000 in
theorem eq14 (hk : Hook) (a_0 : AV) (b_1 : AV) (w : AW) (K : AV → AW → Prop) : fnS Tryz.prog hk Tryz.f14 adv14 [a_0, b_1] w K = F14 hk a_0 b_1 w K := by kernel_rfl
theorem in14 {hk : Hook} {a_0 : AV} {b_1 : AV} {w : AW} {K : AV → AW → Prop} (hn : hk 14 [a_0, b_1] w = none) (h : F14 hk a_0 b_1 w K) : Cl Tryz.prog hk 14 [a_0, b_1] w K :=
 fnS_ok Tryz.func14 hn (by rw [eq14]; exact h)
def F49 (hk : Hook) (s_0 : AV) (w : AW) (K : AV → AW → Prop) : Prop :=
 Cl Tryz.prog hk 83 [s_0] w fun r_1 w_2 =>
 ∃ e_3 : Int, r_1 = (.int .i64 e_3) ∧
 ifT (!decide (e_3 = 0)) (K (.int .i64 e_3) w_2)
 (onP s_0 fun b_4 o_5 =>
 onM (ld w_2 b_4 (o_5 + 0)) fun x_6 =>
 onP s_0 fun b_7 o_8 =>
 ∃ x_9 : List UInt8, ld w_2 b_7 (o_8 + 1) = some (.str x_9) ∧
 Cl Tryz.prog hk 37 [x_6, (.str x_9)] w_2 fun r_10 w_11 =>
 ∃ x_12 : Int, r_10 = (.int .i64 x_12) ∧
 ifT (decide (x_12 = 70)) (K (.int .i64 0) w_11)
 (Cl Tryz.prog hk 84 [s_0, (.int .i64 x_12)] w_11 fun r_13 w_14 =>
 ∃ x_15 : Int, r_13 = (.int .i64 x_15) ∧
 K (.int .i64 x_15) w_14))
def adv49 : Adv := (.sq .lf (.sq (.sq .lf (.sq .lf (.cd (.sq .lf .lf) .lf))) (.sq .lf (.sq (.sq .lf (.cd (.sq .lf .lf) .lf)) (.sq .lf .lf)))))
set_option maxRecDepth 100000 in
theorem eq49 (hk : Hook) (s_0 : AV) (w : AW) (K : AV → AW → Prop) : fnS Tryz.prog hk Tryz.f49 adv49 [s_0] w K = F49 hk s_0 w K := by kernel_rfl
theorem in49 {hk : Hook} {s_0 : AV} {w : AW} {K : AV → AW → Prop} (hn : hk 49 [s_0] w = none) (h : F49 hk s_0 w K) : Cl Tryz.prog hk 49 [s_0] w K :=
 fnS_ok Tryz.func49 hn (by rw [eq49]; exact h)
end Go.Proofs.YthpjoogmmjikmaaGreatDoor
/-
 Names, found, made and renamed.
 No condition beyond those that each theorem names.
-/
set_option linter.unusedSimpArgs false
open Go.Sx
namespace Go.Proofs.YthpjoogmmjikmaaGreatDoor
theorem nget_new {ns : List (Byts × Int)} {a : Byts} {f : Int} (h : nget ns a = Option.none) : nget (ns ++ [(a, f)]) a = some f := by
 unfold nget at h ⊢
 rw [List.find?_append]
 cases hf : ns.find? fun x => decide (x.1 = a) with
 | some x => rw [hf] at h; cases h
 | none => simp
theorem nset_new {a : Byts} {f : Int} : ∀ {ns : List (Byts × Int)}, nget ns a = Option.none → nset ns a f = ns ++ [(a, f)]
  | [], _ => rfl
  | x :: r, h => by
    unfold nget at h
    rw [List.find?_cons] at h
    by_cases hx : x.1 = a
    · simp [hx] at h
    · simp only [decide_eq_false hx] at h
      simp only [nset, if_neg hx, List.cons_append]
      rw [nset_new h]
end Go.Proofs.YthpjoogmmjikmaaGreatDoor
/-
 A file beside others on a disk whose power may go, purely.
 No condition beyond those that each theorem names.
-/
set_option linter.unusedSimpArgs false
open Go.Sx
set_option linter.unusedVariables false
set_option linter.unusedSimpArgs false
namespace Go.Proofs.YthpjoogmmjikmaaGreatDoor
abbrev Nms := List (Byts × Int)
def Ar (ss : List Byts) : Prop := ss.length ≤ 12 ∧ ∀ s ∈ ss, s.length = 64
theorem Ar.nil : Ar [] := ⟨by decide, by simp⟩
theorem Ar.put {ss : List Byts} {j : Nat} {x : Byts} (h : Ar ss) (hj : j < 12) (hx : x.length = 64) : Ar (putS ss j x) := by
 obtain ⟨h1, h2⟩ := h
 refine ⟨by unfold putS; simp; omega, fun s hs => ?_⟩
 unfold putS at hs
 rcases List.mem_or_eq_of_mem_set hs with hs | rfl
 ·rcases List.mem_append.1 hs with hs | hs
  ·exact h2 s hs
  ·have := List.eq_of_mem_replicate hs
   rw [this]; simp [zsec]
 ·exact hx
theorem Ar.cut {ss : List Byts} {k : Nat} (h : Ar ss) : Ar (ss.take k) := ⟨by have := h.1; simp; omega, fun s hs => h.2 s (List.mem_of_mem_take hs)⟩
structure Ot (N : Nms) (G : Int → List Byts) (s : FS) : Prop where
 g : ∀ g ∈ N.map (·.2), s.files g = G g
def OS (t : Byts) (f : Int) (i : Nat) (x : Stp) : Prop := x.file = f ∧ ((x.what = 1 ∧ x.n.toNat < 12 ∧ x.data.length = 64) ∨ x.what = 2 ∨ (x.what = 0 ∧ i = 0 ∧ x.name = t))
def Fresh (d : Dsk) : Prop := ∀ g, d.last < g → d.safe.files g = [] ∧ d.now.files g = []
structure Tk (d : Dsk) (t : Byts) (N : Nms) (G : Int → List Byts) (f : Int) : Prop where
 names : d.now.names = N ++ [(t, f)]
 now : d.steps.foldl FS.does d.safe = d.now
 sn : d.safe.names = N ++ [(t, f)] ∨ d.safe.names = N
 sf : Ar (d.safe.files f)
 g1 : Ot N G d.safe
 g2 : Ot N G d.now
 st : ∀ (i : Nat) (x : Stp), d.steps[i]? = some x → OS t f i x
 tN : nget N t = none
 fN : f ∉ N.map (·.2)
 la : f ≤ d.last ∧ ∀ g ∈ N.map (·.2), g ≤ d.last
 fr : Fresh d
structure Tn (d : Dsk) (t : Byts) (N : Nms) (G : Int → List Byts) : Prop where
 names : d.now.names = N
 se : d.safe = d.now
 st : d.steps = []
 g : Ot N G d.now
 tN : nget N t = none
 la : ∀ g ∈ N.map (·.2), g ≤ d.last
 fr : Fresh d
structure Same (d d' : Dsk) : Prop where
 s : d'.safe = d.safe
 n : d'.now = d.now
 t : d'.steps = d.steps
 l : d'.last = d.last
section
variable {d d' : Dsk} {t b : Byts} {N : Nms} {G : Int → List Byts} {f : Int}
theorem Tn.same (h : Tn d t N G) (e : Same d d') : Tn d' t N G := ⟨by rw [e.n]; exact h.names, by rw [e.s, e.n]; exact h.se, by rw [e.t]; exact h.st, by rw [e.n]; exact h.g, h.tN, by rw [e.l]; exact h.la, by unfold Fresh; rw [e.l, e.s, e.n]; exact h.fr⟩
theorem Tk.same (h : Tk d t N G f) (e : Same d d') : Tk d' t N G f :=
 ⟨by rw [e.n]; exact h.names, by rw [e.t, e.s, e.n]; exact h.now, by rw [e.s]; exact h.sn, by rw [e.s]; exact h.sf, by rw [e.s]; exact h.g1, by rw [e.n]; exact h.g2, by rw [e.t]; exact h.st, h.tN, h.fN, by rw [e.l]; exact h.la, by unfold Fresh; rw [e.l, e.s, e.n]; exact h.fr⟩
theorem stop_ap (h : d.fault = 0) : ∃ d1 e, d.stopped = (d1, e) ∧ Same d d1 ∧ d1.fault = 0 ∧ e ≠ 70 ∧ (e = 0 → d1.down = false) ∧ (Qu d → e = 0 ∧ Qu d1) := by
  obtain ⟨a, bb, c, l, dn, ar, fa, wt⟩ := d
  simp only at h
  subst h
  unfold Dsk.stopped
  cases dn with
  | true => exact ⟨_, _, rfl, ⟨rfl, rfl, rfl, rfl⟩, rfl, by decide, (fun h => (by cases h)), fun h => (by cases h.1)⟩
  | false =>
    simp only [Bool.false_eq_true, if_false]
    split
    · rename_i h
      refine ⟨_, _, rfl, ⟨rfl, rfl, rfl, rfl⟩, by simp [spent], by decide, (fun h => (by cases h)), fun hq => ?_⟩
      obtain ⟨_, h2, _⟩ := hq
      simp only at h2
      subst h2
      cases h
    · refine ⟨_, _, rfl, ⟨rfl, rfl, rfl, rfl⟩, by simp [spent], by simp [spent], fun _ => rfl, fun hq => ?_⟩
      obtain ⟨_, h2, _⟩ := hq
      simp only at h2
      subst h2
      exact ⟨rfl, rfl, rfl, rfl⟩
theorem Tk.get (h : Tk d t N G f) : nget d.now.names t = some f := by rw [h.names]; exact nget_new h.tN
theorem does_os {x : Stp} {s : FS} {i : Nat} (hx : OS t f i x) (hf : Ar (s.files f)) (hg : Ot N G s) (hN : f ∉ N.map (·.2)) (ht : nget N t = none) (hn : s.names = N ++ [(t, f)] ∨ s.names = N) :
    Ar ((s.does x).files f) ∧ Ot N G (s.does x) ∧ ((s.does x).names = N ++ [(t, f)] ∨ (s.does x).names = s.names) ∧ ∀ g, g ≠ f → (s.does x).files g = s.files g := by
  obtain ⟨hxf, ⟨g1, g2, g3⟩ | g1 | ⟨g1, _, g3⟩⟩ := hx
  · unfold FS.does
    rw [if_neg (by omega), if_pos g1]
    refine ⟨?_, ⟨fun g hg' => ?_⟩, .inr rfl, fun g hg' => ?_⟩
    · show Ar (updF _ _ _ f)
      unfold updF
      rw [if_pos hxf.symm, hxf]; exact hf.put g2 g3
    · show updF _ _ _ g = _
      unfold updF
      rw [if_neg (by rw [hxf]; rintro rfl; exact hN hg')]; exact hg.g g hg'
    · show updF _ _ _ g = _
      unfold updF
      rw [if_neg (by rw [hxf]; exact hg')]
  · unfold FS.does
    rw [if_neg (by omega), if_neg (by omega), if_pos g1]
    refine ⟨?_, ⟨fun g hg' => ?_⟩, .inr rfl, fun g hg' => ?_⟩
    · show Ar (updF _ _ _ f)
      unfold updF
      rw [if_pos hxf.symm, hxf]; exact hf.cut
    · show updF _ _ _ g = _
      unfold updF
      rw [if_neg (by rw [hxf]; rintro rfl; exact hN hg')]; exact hg.g g hg'
    · show updF _ _ _ g = _
      unfold updF
      rw [if_neg (by rw [hxf]; exact hg')]
  · unfold FS.does
    rw [if_pos g1]
    refine ⟨hf, ⟨hg.g⟩, .inl ?_, fun g _ => rfl⟩
    show nset s.names x.name x.file = _
    rw [g3, hxf]
    rcases hn with e | e <;> rw [e]
    · have : ∀ N : Nms, nget N t = none → nset (N ++ [(t, f)]) t f = N ++ [(t, f)] := fun N => by
        induction N with
        | nil => intro _; simp [nset]
        | cons a N ih =>
          intro ht
          unfold nget at ht
          rw [List.find?_cons] at ht
          by_cases ha : a.1 = t
          · simp [ha] at ht
          · simp only [ha, decide_false] at ht
            show (if a.1 = t then _ else a :: nset (N ++ [(t, f)]) t f) = _
            rw [if_neg ha, ih ht]; rfl
      exact this N ht
    · exact nset_new ht
theorem keep_os (keep : List Bool) (hN : f ∉ N.map (·.2)) (ht : nget N t = none) : ∀ (l : List Stp) (k i : Nat) (s : FS), (∀ (j : Nat) (x : Stp), l[j]? = some x → OS t f (k + j) x) → Ar (s.files f) → Ot N G s → (s.names = N ++ [(t, f)] ∨ s.names = N) →
    Ar ((keepL keep i l s).files f) ∧ Ot N G (keepL keep i l s) ∧ ((keepL keep i l s).names = N ++ [(t, f)] ∨ (keepL keep i l s).names = N) ∧ ∀ g, g ≠ f → (keepL keep i l s).files g = s.files g
  | [], _, _, s, _, h1, h2, h3 => ⟨h1, h2, h3, fun _ _ => rfl⟩
  | x :: l, k, i, s, h, h1, h2, h3 => by
    have hx := h 0 x rfl
    obtain ⟨a1, a2, a3, a4⟩ := does_os hx h1 h2 hN ht h3
    have hr : ∀ (j : Nat) (y : Stp), l[j]? = some y → OS t f (k + 1 + j) y := fun j y hy => by
      have := h (j + 1) y hy
      rw [show k + 1 + j = k + (j + 1) by omega]; exact this
    simp only [keepL]
    split
    · obtain ⟨b1, b2, b3, b4⟩ := keep_os keep hN ht l (k + 1) (i + 1) (s.does x) hr a1 a2 (a3.elim .inl fun e => by rw [e]; exact h3)
      exact ⟨b1, b2, b3, fun g hg => (b4 g hg).trans (a4 g hg)⟩
    · exact keep_os keep hN ht l (k + 1) (i + 1) s hr h1 h2 h3
theorem fold_os (hN : f ∉ N.map (·.2)) (ht : nget N t = none) : ∀ (l : List Stp) (k : Nat) (s : FS), (∀ (j : Nat) (x : Stp), l[j]? = some x → OS t f (k + j) x) → Ar (s.files f) → Ot N G s → (s.names = N ++ [(t, f)] ∨ s.names = N) → Ar ((l.foldl FS.does s).files f)
  | [], _, s, _, h1, _, _ => h1
  | x :: l, k, s, h, h1, h2, h3 => by
    obtain ⟨a1, a2, a3, a4⟩ := does_os (h 0 x rfl) h1 h2 hN ht h3
    exact fold_os hN ht l (k + 1) (s.does x) (fun j y hy => by
      have := h (j + 1) y hy
      rw [show k + 1 + j = k + (j + 1) by omega]; exact this) a1 a2 (a3.elim .inl fun e => by rw [e]; exact h3)
theorem Tk.ar (h : Tk d t N G f) : Ar (d.now.files f) := by
 rw [← h.now]
 exact fold_os h.fN h.tN d.steps 0 d.safe (fun j x hx => by rw [Nat.zero_add]; exact h.st j x hx) h.sf h.g1 h.sn
theorem Tk.step {d1 : Dsk} (h : Tk d1 t N G f) {x : Stp} (hx : x.file = f ∧ ((x.what = 1 ∧ x.n.toNat < 12 ∧ x.data.length = 64) ∨ x.what = 2)) : Tk { d1 with steps := d1.steps ++ [x], now := [x].foldl FS.does d1.now } t N G f := by
 have hos : ∀ i, OS t f i x := fun i => ⟨hx.1, hx.2.elim .inl fun e => .inr (.inl e)⟩
 have har := h.ar
 obtain ⟨a1, a2, a3, a4⟩ := does_os (hos 0) har h.g2 h.fN h.tN (.inl h.names)
 have hnm : (d1.now.does x).names = N ++ [(t, f)] := a3.elim id fun e => e.trans h.names
 refine ⟨hnm, ?_, h.sn, h.sf, h.g1, a2, ?_, h.tN, h.fN, h.la, fun g hg => ?_⟩
 ·simp only [List.foldl_append, h.now]
 ·intro i y hy
  rw [List.getElem?_append] at hy
  split at hy
  ·exact h.st i y hy
  ·cases hq : i - d1.steps.length with
   | zero => rw [hq] at hy; simp at hy; subst hy; exact hos i
   | succ n => rw [hq] at hy; simp at hy
 ·obtain ⟨g1, g2⟩ := h.fr g hg
  have hgf : g ≠ f := by
   have := h.la.1
   have hg : d1.last < g := hg
   omega
  exact ⟨g1, (a4 g hgf).trans g2⟩
theorem Tk.put (h : Tk d t N G f) (hq0 : d.fault = 0) (hn : named t = true) {j : Nat} {data : Byts} (hl : data.length = 64) (hj : j ≤ (d.now.files f).length) (hj2 : j < 12) :
  ∃ d' e, d.put t j data = (d', e) ∧ Tk d' t N G f ∧ d'.fault = 0 ∧ (Qu d → e = 0 ∧ Qu d') ∧ (e = 0 → d'.down = false ∧ d'.now.files f = putS (d.now.files f) j data) := by
 unfold Dsk.put
 simp only [h.get, hn, hl, Option.getD_some]
 rw [if_neg (by simp; omega), if_neg (by simp; omega)]
 obtain ⟨d1, e, h1, h2, hf1, h70, h3, hq⟩ := stop_ap hq0
 unfold Dsk.more
 rw [h1]
 by_cases he : e = 0
 ·subst he
  rw [if_neg (by simp)]
  refine ⟨_, _, rfl, (h.same h2).step ⟨rfl, .inl ⟨rfl, by simpa using hj2, hl⟩⟩, hf1, fun q => ⟨rfl, (hq q).2⟩, fun _ => ⟨h3 rfl, ?_⟩⟩
  simp [FS.does, updF, h2.n]
 ·rw [if_pos he]
  exact ⟨_, _, rfl, h.same h2, hf1, fun q => absurd (hq q).1 he, fun h => absurd h he⟩
theorem Tk.sync (h : Tk d t N G f) (hq0 : d.fault = 0) : ∃ d' e, d.sync t = (d', e) ∧ e ≠ 70 ∧ Tk d' t N G f ∧ d'.fault = 0 ∧ (Qu d → e = 0 ∧ Qu d') ∧ (e = 0 → d'.down = false ∧ d'.now = d.now ∧ d'.steps = [] ∧ d'.safe = d'.now) := by
  unfold Dsk.sync
  rw [h.get]
  simp only []
  have hall : ∀ (s : FS), settleL (fun i x => if x.what = 1 ∨ x.what = 2 then decide (x.file = f) else decide ((i : Int) ≤ upto f d.steps)) 0 d.steps s = (d.steps.foldl FS.does s, []) := fun s => settle_all d.steps 0 s fun j x hx => by
    obtain ⟨g1, g2⟩ := h.st j x hx
    rw [Nat.zero_add]
    rcases g2 with ⟨g2, _⟩ | g2 | ⟨g2, rfl, _⟩
    · rw [if_pos (.inl g2)]; simpa using g1
    · rw [if_pos (.inr g2)]; simpa using g1
    · rw [if_neg (by rw [g2]; decide)]
      have : upto f d.steps = 0 := by
        cases hs : d.steps with
        | nil => rw [hs] at hx; simp at hx
        | cons y l =>
          rw [hs] at hx
          simp at hx
          subst hx
          unfold upto
          rw [List.findIdx?_cons]
          simp [g1, g2]
      rw [this]; simp
  obtain ⟨d1, e, h1, h2, hf1, h70, h3, hq⟩ := stop_ap hq0
  unfold Dsk.settle
  rw [h1]
  by_cases he : e = 0
  · subst he
    rw [if_neg (by simp)]
    have e1 := hall d1.safe
    rw [← h2.t] at e1
    simp only [h2.t] at e1 ⊢
    rw [e1]
    have hnow : d.steps.foldl FS.does d1.safe = d1.now := by rw [h2.s, h2.n]; exact h.now
    have hs := h.same h2
    refine ⟨_, _, rfl, by decide, ⟨hs.names, hnow, ?_, ?_, ?_, hs.g2, fun i x hx => (by simp at hx), h.tN, h.fN, hs.la, fun g hg => ?_⟩, hf1, fun q => ⟨rfl, (hq q).2⟩, fun _ => ⟨h3 rfl, h2.n, rfl, hnow⟩⟩
    · left
      show (d.steps.foldl FS.does d1.safe).names = _
      rw [hnow]; exact hs.names
    · show Ar ((d.steps.foldl FS.does d1.safe).files f)
      rw [hnow]; exact hs.ar
    · show Ot N G (d.steps.foldl FS.does d1.safe)
      rw [hnow]; exact hs.g2
    · have g2 := (hs.fr g hg).2
      refine ⟨?_, g2⟩
      show (d.steps.foldl FS.does d1.safe).files g = []
      rw [hnow]; exact g2
  · rw [if_pos he]
    exact ⟨_, _, rfl, h70, h.same h2, hf1, fun q => absurd (hq q).1 he, fun h => absurd h he⟩
theorem tk_puts (hn : named t = true) {B : Byts} : ∀ (m j : Nat) (d : Dsk), Tk d t N G f → d.fault = 0 → d.down = false → j ≤ (d.now.files f).length → j + m ≤ 12 →
    ∃ d' e, puts t B m j d = (d', e) ∧ Tk d' t N G f ∧ d'.fault = 0 ∧ (Qu d → e = 0 ∧ Qu d') ∧ (e = 0 → d'.down = false ∧ (d'.now.files f).length = max (d.now.files f).length (j + m) ∧ (∀ i, i < j → (d'.now.files f)[i]? = (d.now.files f)[i]?) ∧ ∀ i, j ≤ i → i < j + m → (d'.now.files f)[i]? = some (sector B i))
  | 0, j, d, h, hf, hd, hj, _ => ⟨d, 0, rfl, h, hf, fun q => ⟨rfl, q⟩, fun _ => ⟨hd, by omega, fun _ _ => rfl, fun i h1 h2 => by omega⟩⟩
  | m + 1, j, d, h, hf, hd, hj, hm => by
    obtain ⟨d1, e, h1, h2, hf1, hq, h3⟩ := h.put hf hn (data := sector B j) (sector_length B j) hj (by omega)
    have hu : puts t B (m + 1) j d = if (d.put t j (sector B j)).2 ≠ 0 then d.put t j (sector B j) else puts t B m (j + 1) (d.put t j (sector B j)).1 := rfl
    rw [h1] at hu
    by_cases he : e = 0
    · subst he
      rw [if_neg (by simp)] at hu
      obtain ⟨g1, g2⟩ := h3 rfl
      obtain ⟨p1, p2, p3⟩ := putS_get (x := sector B j) hj
      rw [← g2] at p1 p2 p3
      obtain ⟨d2, e2, k1, k2, kf, kq, k3⟩ := tk_puts hn (B := B) m (j + 1) d1 h2 hf1 g1 (by rw [p1]; omega) (by omega)
      refine ⟨d2, e2, hu.trans k1, k2, kf, fun q => kq (hq q).2, fun h0 => ?_⟩
      obtain ⟨a1, a2, a3, a4⟩ := k3 h0
      refine ⟨a1, by rw [a2, p1]; omega, fun i hi => (a3 i (by omega)).trans (p2 i hi), fun i hi hi2 => ?_⟩
      by_cases hij : i = j
      · subst hij; exact (a3 i (by omega)).trans p3
      · exact a4 i (by omega) (by omega)
    · rw [if_pos he] at hu
      exact ⟨d1, e, hu, h2, hf1, fun q => absurd (hq q).1 he, fun h => absurd h he⟩
theorem Tn.get (h : Tn d t N G) : nget d.now.names t = none := by rw [h.names]; exact h.tN
theorem Tn.put (h : Tn d t N G) (hq0 : d.fault = 0) (hn : named t = true) (hNl : N.length < 256) {data : Byts} (hl : data.length = 64) :
  ∃ d' e, d.put t ((0 : Nat) : Int) data = (d', e) ∧ d'.fault = 0 ∧ (Qu d → e = 0 ∧ Qu d') ∧ (e ≠ 0 → Tn d' t N G) ∧ (e = 0 → d'.down = false ∧ ∃ f, Tk d' t N G f ∧ d'.now.files f = [data]) := by
 unfold Dsk.put
 simp only [h.get, hn, hl, Option.getD_none]
 rw [if_neg (by simp), if_neg (by rw [h.names]; simp; omega)]
 obtain ⟨d1, e, h1, h2, hf1, h70, h3, hq⟩ := stop_ap hq0
 unfold Dsk.more
 rw [h1]
 have hE := h.same h2
 by_cases he : e = 0
 ·subst he
  simp only [ne_eq, not_true_eq_false, if_false]
  have hfn : d.last + 1 ∉ N.map (·.2) := fun hm => by have := h.la _ hm; omega
  have hl1 : d1.last = d.last := h2.l
  have hst : d1.steps ++ [⟨0, d.last + 1, 0, zsec, t, []⟩, ⟨1, d.last + 1, ((0 : Nat) : Int), data, [], []⟩] = [⟨0, d.last + 1, 0, zsec, t, []⟩, ⟨1, d.last + 1, ((0 : Nat) : Int), data, [], []⟩] := by rw [hE.st]; rfl
  have hfe := (hE.fr (d.last + 1) (by omega)).2
  have hfs := (hE.fr (d.last + 1) (by omega)).1
  have hnm : nset d1.now.names t (d.last + 1) = N ++ [(t, d.last + 1)] := by rw [hE.names]; exact nset_new h.tN
  refine ⟨_, _, rfl, hf1, fun q => ⟨rfl, (hq q).2⟩, fun h => absurd rfl h, fun _ => ⟨h3 rfl, d.last + 1, ⟨?_, ?_, ?_, ?_, ?_, ?_, ?_, h.tN, hfn, ?_, ?_⟩, ?_⟩⟩
  ·simp only [List.foldl_cons, List.foldl_nil, FS.does]
   simp only [if_pos]
   exact hnm
  ·show List.foldl FS.does d1.safe (d1.steps ++ _) = _
   rw [hst, hE.se]
  ·exact .inr (by show d1.safe.names = N; rw [hE.se]; exact hE.names)
  ·show Ar (d1.safe.files (d.last + 1))
   rw [hfs]; exact Ar.nil
  ·show Ot N G d1.safe
   rw [hE.se]; exact hE.g
  ·refine ⟨fun g hg => ?_⟩
   have hgl := h.la g hg
   simp [FS.does, updF]
   rw [if_neg (by omega)]
   exact hE.g.g g hg
  ·intro i x hx
   have hx : (d1.steps ++ [⟨0, d.last + 1, 0, zsec, t, []⟩, ⟨1, d.last + 1, ((0 : Nat) : Int), data, [], []⟩] : List Stp)[i]? = some x := hx
   rw [hst] at hx
   match i with
   | 0 => simp at hx; subst hx; exact ⟨rfl, .inr (.inr ⟨rfl, rfl, rfl⟩)⟩
   | 1 => simp at hx; subst hx; exact ⟨rfl, .inl ⟨rfl, by simp, hl⟩⟩
   | i + 2 => simp at hx
  ·exact ⟨Int.le_refl _, fun g hg => by have := h.la g hg; show g ≤ d.last + 1; omega⟩
  ·intro g hg
   have hg : d.last + 1 < g := hg
   obtain ⟨g1, g2⟩ := hE.fr g (by omega)
   refine ⟨g1, ?_⟩
   simp [FS.does, updF]
   rw [if_neg (by omega)]; exact g2
  ·simp [FS.does, updF, putS, hfe]
 ·simp only [ne_eq, he, not_false_eq_true, if_true]
  exact ⟨_, _, rfl, hf1, fun q => absurd (hq q).1 he, fun _ => hE, fun h => absurd h he⟩
end
end Go.Proofs.YthpjoogmmjikmaaGreatDoor
/-
 The steps of Save, purely; and what Load finds.
 No condition beyond those that each theorem names.
-/
set_option linter.unusedSimpArgs false
open Go.Sx
set_option linter.unusedVariables false
set_option linter.unusedSimpArgs false
namespace Go.Proofs.YthpjoogmmjikmaaGreatDoor
def EX (b : Byts) : List Byts := (List.range (nsec (frame b))).map (sector (frame b))
theorem EX_sect (b : Byts) : Sect (EX b) (frame b) := Sect.map _
def Md (d : Dsk) (t : Byts) (N : Nms) (G : Int → List Byts) : Prop := d.fault = 0 ∧ (Tn d t N G ∨ ∃ f, Tk d t N G f)
def Rest (d : Dsk) : Prop := d.steps = [] ∧ d.safe = d.now
section
variable {d d' : Dsk} {t nm b : Byts} {N : Nms} {G : Int → List Byts} {f : Int}
def Rd (d : Dsk) (t : Byts) (N : Nms) (G : Int → List Byts) : Prop := d.fault = 0 ∧ d.down = false ∧ Rest d ∧ (Tn d t N G ∨ ∃ f, Tk d t N G f ∧ d.now.files f = [])
def Fu (d : Dsk) (t : Byts) (N : Nms) (G : Int → List Byts) (f : Int) (b : Byts) : Prop := d.fault = 0 ∧ d.down = false ∧ Tk d t N G f ∧ d.now.files f = EX b
theorem ex_of {ss : List Byts} (hl : ss.length = nsec (frame b)) (h : ∀ i, i < nsec (frame b) → ss[i]? = some (sector (frame b) i)) : ss = EX b := by
 apply List.ext_getElem?
 intro i
 by_cases hi : i < nsec (frame b)
 ·rw [h i hi]; unfold EX; simp [hi]
 ·rw [List.getElem?_eq_none (by omega), List.getElem?_eq_none (by unfold EX; simp; omega)]
theorem app_md (hn : named t = true) (hN : N.length < 256) (h : Rd d t N G) (hb : b.length ≤ 600) :
  ∃ d' e, puts t ([] ++ frame b) (nsec ([] ++ frame b) - ([] : Byts).length / 62) (([] : Byts).length / 62) d = (d', e) ∧ Md d' t N G ∧ (Qu d → e = 0 ∧ Qu d') ∧ (e = 0 → ∃ f, Fu d' t N G f b) := by
 obtain ⟨hf, hd, hr, h⟩ := h
 have hbl : (frame b).length = 4 + b.length := frame_length b
 have hns : nsec (frame b) = (4 + b.length + 61) / 62 := by unfold nsec; rw [hbl]
 show ∃ d' e, puts t (frame b) (nsec (frame b)) 0 d = (d', e) ∧ _
 rcases h with h | ⟨f, h, hfe⟩
 ·obtain ⟨m, hm⟩ : ∃ m, nsec (frame b) = m + 1 := ⟨nsec (frame b) - 1, by omega⟩
  obtain ⟨d1, e1, q1, qf, qq, q2, q3⟩ := h.put hf hn hN (sector_length (frame b) 0)
  have hu : puts t (frame b) (nsec (frame b)) 0 d = if (d.put t ((0 : Nat) : Int) (sector (frame b) 0)).2 ≠ 0 then d.put t ((0 : Nat) : Int) (sector (frame b) 0) else puts t (frame b) m 1 (d.put t ((0 : Nat) : Int) (sector (frame b) 0)).1 := by
   rw [hm]; rfl
  rw [q1] at hu
  rw [hu]
  by_cases he : e1 = 0
  ·subst he
   simp only [ne_eq, not_true_eq_false, if_false]
   obtain ⟨g1, f, g2, g3⟩ := q3 rfl
   obtain ⟨d2, e2, k1, k2, kf, kq, k3⟩ := tk_puts hn (B := frame b) m 1 d1 g2 qf g1 (by rw [g3]; simp) (by omega)
   refine ⟨d2, e2, k1, ⟨kf, .inr ⟨f, k2⟩⟩, fun q => kq (qq q).2, fun h0 => ?_⟩
   obtain ⟨a1, a2, a3, a4⟩ := k3 h0
   rw [g3] at a2 a3
   refine ⟨f, kf, a1, k2, ex_of (by rw [a2]; simp; omega) fun i hi => ?_⟩
   by_cases hif : i < 1
   ·obtain rfl : i = 0 := by omega
    rw [a3 0 (by omega)]; rfl
   ·exact a4 i (by omega) (by omega)
  ·simp only [ne_eq, he, not_false_eq_true, if_true]
   exact ⟨d1, e1, rfl, ⟨qf, .inl (q2 he)⟩, fun q => absurd (qq q).1 he, fun h => absurd h he⟩
 ·obtain ⟨d2, e2, k1, k2, kf, kq, k3⟩ := tk_puts hn (B := frame b) (nsec (frame b)) 0 d h hf hd (Nat.zero_le _) (by omega)
  refine ⟨d2, e2, k1, ⟨kf, .inr ⟨f, k2⟩⟩, kq, fun h0 => ?_⟩
  obtain ⟨a1, a2, a3, a4⟩ := k3 h0
  rw [hfe] at a2
  exact ⟨f, kf, a1, k2, ex_of (by rw [a2]; simp) fun i hi => a4 i (by omega) (by omega)⟩
end
end Go.Proofs.YthpjoogmmjikmaaGreatDoor
/-
 Frames' bytes, purely.
 No condition beyond those that each theorem names.
-/
set_option linter.unusedSimpArgs false
open Go.Sx
set_option linter.unusedVariables false
set_option linter.unusedSimpArgs false
namespace Go.Proofs.YthpjoogmmjikmaaGreatDoor
def cat (l : List Byts) : Byts := (l.map frame).flatten
theorem cat_snoc (l : List Byts) (t : Byts) : cat (l ++ [t]) = cat l ++ frame t := by simp [cat]
theorem cat_told : ∀ (n : Nat) (l : List Byts), l.length = n → (∀ t ∈ l, t.length ≤ 65536) → (ends (cat l)).length = l.length ∧ sizeE (ends (cat l)) = (cat l).length ∧ toldL (cat l) (ends (cat l)) = l
  | 0, l, hn, _ => by
    obtain rfl : l = [] := by simpa using hn
    exact ⟨rfl, rfl, rfl⟩
  | n + 1, l, hn, h => by
    obtain ⟨r, t, rfl⟩ : ∃ r t, l = r ++ [t] := by
      rcases List.eq_nil_or_concat l with e | ⟨r, t, e⟩
      · subst e; simp at hn
      · exact ⟨r, t, by simpa using e⟩
    obtain ⟨g1, g2, g3⟩ := cat_told n r (by simpa using hn) fun t ht => h t (by simp [ht])
    have ht := h t (by simp)
    rw [cat_snoc, ends_app ht g2]
    refine ⟨by simp [g1], by unfold sizeE; simp, ?_⟩
    rw [told_app g2 (asc_ends _), g3]
end Go.Proofs.YthpjoogmmjikmaaGreatDoor
/-
 A log of at most one segment, over memory.
 No condition beyond those that each theorem names.
-/
set_option linter.unusedSimpArgs false
open Go.Sx
set_option linter.unusedVariables false
set_option linter.unusedSimpArgs false
namespace Go.Proofs.YthpjoogmmjikmaaGreatDoor
abbrev lognm : Byts := [108, 111, 103]
section
variable {hk : Hook} {A B : Nat → Prop} {I : List Nat} {w0 w w' : AW} {D S LG pf : Nat} {i i' : DI} {d d' : Dsk} {k k' : Nat} {L L' R : Obs} {K : AV → AW → Prop} {nm bs t : Byts} {bv ev pv : AV} {ef : Nat} {eo : Ob}
theorem s51 (hh : HK hk) (h0 : ld w LG 0 = some (.ptr D 0)) (hK : K (.bool false) w) : Cl Tryz.prog hk 51 [.ptr LG 0] w K := by
 apply in51 (hh.no _ _ _ (by decide) (by decide))
 unfold F51
 refine ⟨false, by kernel_rfl, ifT_f ?_⟩
 simp only [onP]
 exact onM_s h0 ⟨false, by kernel_rfl, hK⟩
theorem s45 (hh : HK hk) (h0 : ld w LG 0 = some (.ptr D 0)) (h6 : ld w LG 6 = some (.bool false)) (hK : K (.int .i64 0) w) : Cl Tryz.prog hk 45 [.ptr LG 0] w K := by
 apply in45 (hh.no _ _ _ (by decide) (by decide))
 unfold F45
 refine s51 hh h0 ⟨_, rfl, ifT_f ?_⟩
 exact ⟨false, h6, ifT_f hK⟩
end
end Go.Proofs.YthpjoogmmjikmaaGreatDoor
/-
 A log of at most one segment, over memory: its calls.
 No condition beyond those that each theorem names.
-/
set_option linter.unusedSimpArgs false
open Go.Sx
set_option linter.unusedVariables false
set_option linter.unusedSimpArgs false
namespace Go.Proofs.YthpjoogmmjikmaaGreatDoor
section
variable {hk : Hook} {A B : Nat → Prop} {I : List Nat} {w0 w w' : AW} {D S LG pf : Nat} {i i' : DI} {d d' : Dsk} {k k' : Nat} {L L' R : Obs} {K : AV → AW → Prop} {nm bs t : Byts} {bv ev pv : AV} {ef : Nat} {eo : Ob}
end
end Go.Proofs.YthpjoogmmjikmaaGreatDoor
/-
 A log's files and parts, purely.
 No condition beyond those that each theorem names.
-/
set_option linter.unusedSimpArgs false
open Go.Sx
set_option linter.unusedVariables false
set_option linter.unusedSimpArgs false
namespace Go.Proofs.YthpjoogmmjikmaaGreatDoor
def dig (k : Nat) : UInt8 := UInt8.ofNat (48 + k)
def itoa (n : Nat) : Byts := if n < 10 then [dig n] else [dig (n / 10), dig (n % 10)]
def fnm (n : Nat) : Byts := [108, 111, 103] ++ ([45] ++ itoa n)
theorem dig_inj {a b : Nat} (ha : a < 10) (hb : b < 10) (h : dig a = dig b) : a = b := by
 have := congrArg UInt8.toNat h
 unfold dig at this
 rw [UInt8.toNat_ofNat', UInt8.toNat_ofNat'] at this
 omega
theorem fnm_named {n : Nat} : named (fnm n) = true := by
 unfold named fnm itoa
 split <;> simp
theorem fnm_inj {a b : Nat} (ha : a < 100) (hb : b < 100) (h : fnm a = fnm b) : a = b := by
 unfold fnm itoa at h
 have h := List.append_cancel_left (List.append_cancel_left h)
 split at h <;> split at h
 ·simp only [List.cons.injEq, and_true] at h
  exact dig_inj (by assumption) (by assumption) h
 ·simp at h
 ·simp at h
 ·simp only [List.cons.injEq, and_true] at h
  have h1 := dig_inj (by omega) (by omega) h.1
  have h2 := dig_inj (by omega) (by omega) h.2
  omega
section
variable {d d' : Dsk} {t b : Byts} {N : Nms} {G : Int → List Byts} {f : Int}
theorem tk_app (hn : named t = true) {B x : Byts} (h : Tk d t N G f) (hq : Qu d) (hS : Sect (d.now.files f) B) (hl : B.length + (4 + x.length) ≤ 744) :
  ∃ d', puts t (B ++ frame x) (nsec (B ++ frame x) - B.length / 62) (B.length / 62) d = (d', 0) ∧ Tk d' t N G f ∧ Qu d' ∧ Sect (d'.now.files f) (B ++ frame x) := by
 have hbl : (B ++ frame x).length = B.length + (4 + x.length) := by rw [List.length_append, frame_length]
 have hlen := hS.len
 have n1 : nsec B = (B.length + 61) / 62 := rfl
 have n2 : nsec (B ++ frame x) = (B.length + (4 + x.length) + 61) / 62 := by unfold nsec; rw [hbl]
 obtain ⟨d1, e1, p1, p2, pf, pq, p3⟩ := tk_puts hn (B := B ++ frame x) (nsec (B ++ frame x) - B.length / 62) (B.length / 62) d h hq.2.2 hq.1 (by omega) (by omega)
 rw [show B.length / 62 + (nsec (B ++ frame x) - B.length / 62) = nsec (B ++ frame x) by omega] at p3
 obtain ⟨rfl, q1⟩ := pq hq
 obtain ⟨a1, a2, a3, a4⟩ := p3 rfl
 refine ⟨d1, p1, p2, q1, ⟨by omega, fun i hi => ?_⟩⟩
 have key : ∀ s, (d1.now.files f)[i]? = some s → SecOk (B ++ frame x) i s → SecOk (B ++ frame x) i (d1.now.files f)[i] := fun s hs hs2 => by
  rw [List.getElem?_eq_getElem hi] at hs
  cases hs; exact hs2
 by_cases hif : i < B.length / 62
 ·have g : i < (d.now.files f).length := by omega
  exact key _ ((a3 i hif).trans (List.getElem?_eq_getElem g)) ((hS.ok i g).app (by omega))
 ·exact key _ (a4 i (by omega) (by omega)) (sector_ok _ i)
theorem tn_next {t' : Byts} (h : Tk d t N G f) (hr : Rest d) (ht : nget (N ++ [(t, f)]) t' = none) : Tn d t' (N ++ [(t, f)]) d.now.files := by
 refine ⟨h.names, hr.2, hr.1, ⟨fun _ _ => rfl⟩, ht, fun g hg => ?_, h.fr⟩
 rw [List.map_append] at hg
 rcases List.mem_append.1 hg with hg | hg
 ·exact h.la.2 g hg
 ·simp at hg; rw [hg]; exact h.la.1
def DS (d : Dsk) (n : Nat) (bs : List Byts) (m : Nat) : Prop := Qu d ∧ ∃ N G f, Tk d (fnm n) N G f ∧ Sect (d.now.files f) (cat bs) ∧ N.length ≤ m ∧ ∀ k, n < k → k < 100 → nget N (fnm k) = none
def DN (d : Dsk) (n m : Nat) : Prop := Qu d ∧ Rest d ∧ ∃ N G, Tn d (fnm n) N G ∧ N.length ≤ m ∧ ∀ k, n < k → k < 100 → nget N (fnm k) = none
theorem ds_app {n m : Nat} {bs : List Byts} {x : Byts} (h : DS d n bs m) (hl : (cat bs).length + (4 + x.length) ≤ 744) : ∃ d', puts (fnm n) (cat bs ++ frame x) (nsec (cat bs ++ frame x) - (cat bs).length / 62) ((cat bs).length / 62) d = (d', 0) ∧ DS d' n (bs ++ [x]) m := by
 obtain ⟨hq, N, G, f, h1, h2, h3, h4⟩ := h
 obtain ⟨d', p1, p2, p3, p4⟩ := tk_app fnm_named h1 hq h2 hl
 exact ⟨d', p1, p3, N, G, f, p2, by rw [cat_snoc]; exact p4, h3, h4⟩
theorem dn_app {n m : Nat} {x : Byts} (h : DN d n m) (hm : m < 256) (hl : x.length ≤ 600) : ∃ d', puts (fnm n) ([] ++ frame x) (nsec ([] ++ frame x) - ([] : Byts).length / 62) (([] : Byts).length / 62) d = (d', 0) ∧ DS d' n [x] m := by
 obtain ⟨hq, hr, N, G, h1, h3, h4⟩ := h
 obtain ⟨d', e, p1, _, pq, p3⟩ := app_md fnm_named (by omega) ⟨hq.2.2, hq.1, hr, .inl h1⟩ hl
 obtain ⟨rfl, q1⟩ := pq hq
 obtain ⟨f, _, _, p4, p5⟩ := p3 rfl
 refine ⟨d', p1, q1, N, G, f, p4, ?_, h3, h4⟩
 rw [p5]
 have : cat [x] = frame x := by simp [cat]
 rw [this]; exact EX_sect x
theorem ds_next {n m n' : Nat} {bs : List Byts} (h : DS d n bs m) (hn : n < n') (hn' : n' < 100) : ∃ d', d.sync (fnm n) = (d', 0) ∧ DN d' n' (m + 1) := by
 obtain ⟨hq, N, G, f, h1, h2, h3, h4⟩ := h
 obtain ⟨d', e, y1, _, y2, _, yq, y3⟩ := h1.sync hq.2.2
 obtain ⟨rfl, q1⟩ := yq hq
 obtain ⟨z1, z2, z3, z4⟩ := y3 rfl
 have hg : ∀ k, n < k → k < 100 → nget (N ++ [(fnm n, f)]) (fnm k) = none := fun k hk hk' => by
  have h5 := h4 k hk hk'
  have h6 : fnm n ≠ fnm k := fun e => by have := fnm_inj (by omega) hk' e; omega
  unfold nget at h5 ⊢
  rw [List.find?_append]
  cases hf : N.find? (fun y => decide (y.1 = fnm k)) with
  | some y => rw [hf] at h5; cases h5
  | none => simp [h6]
 refine ⟨d', y1, q1, ⟨z3, z4⟩, _, _, tn_next y2 ⟨z3, z4⟩ (hg n' hn hn'), by simp; omega, fun k hk hk' => hg k (by omega) hk'⟩
theorem dn_open {n m : Nat} (h : DN d n m) : d.read (fnm n) = ([], 70) ∧ openD (fnm n) d = (d, 0) := by
 obtain ⟨hq, hr, N, G, h1, _⟩ := h
 have hrd : d.read (fnm n) = ([], 70) := by unfold Dsk.read; rw [h1.get]
 refine ⟨hrd, ?_⟩
 unfold openD
 rw [hrd]
 simp only []
 rw [if_neg (by simp)]
 have : (clean (kept []) == ([] : Byts)) = true := by rfl
 rw [this, if_pos rfl]
theorem dn_none : DN Dsk.none 7 0 := ⟨⟨rfl, rfl, rfl⟩, ⟨rfl, rfl⟩, [], fun _ => [], ⟨rfl, rfl, rfl, ⟨by simp⟩, rfl, by simp, fun _ _ => ⟨rfl, rfl⟩⟩, Nat.le_refl _, fun _ _ _ => rfl⟩
end
/-! ### Parts -/
abbrev Pts := List (Nat × List Byts)
def flat (Q : Pts) : List Byts := Q.flatMap (·.2)
def Chain : Nat → Pts → Prop
 | _, [] => True
 | s, q :: r => q.1 = s ∧ q.2 ≠ [] ∧ Chain (s + q.2.length) r
theorem flat_cons (q : Nat × List Byts) (r : Pts) : flat (q :: r) = q.2 ++ flat r := by simp [flat]
theorem flat_app (P Q : Pts) : flat (P ++ Q) = flat P ++ flat Q := by simp [flat]
theorem chain_new : ∀ {Q : Pts} {s : Nat} {x : List Byts}, Chain s Q → x ≠ [] → Chain s (Q ++ [(s + (flat Q).length, x)])
  | [], s, x, _, hx => ⟨by simp [flat], hx, trivial⟩
  | q :: r, s, x, ⟨h1, h2, h3⟩, hx => by
    refine ⟨h1, h2, ?_⟩
    have := chain_new h3 hx
    rw [flat_cons, List.length_append, ← Nat.add_assoc]; exact this
theorem chain_ext : ∀ {P : Pts} {s n : Nat} {bs ys : List Byts}, Chain s (P ++ [(n, bs)]) → Chain s (P ++ [(n, bs ++ ys)])
 | [], s, n, bs, ys, ⟨h1, h2, _⟩ => ⟨h1, by simp [h2], trivial⟩
 | q :: r, s, n, bs, ys, ⟨h1, h2, h3⟩ => ⟨h1, h2, chain_ext (P := r) h3⟩
theorem chain_last : ∀ {P : Pts} {s n : Nat} {bs : List Byts}, Chain s (P ++ [(n, bs)]) → n = s + (flat P).length
  | [], s, n, bs, ⟨h1, _, _⟩ => by simp [flat]; exact h1
  | q :: r, s, n, bs, ⟨_, _, h3⟩ => by
    have := chain_last (P := r) h3
    rw [flat_cons, List.length_append]; omega
theorem chain_ge : ∀ {Q : Pts} {s j : Nat} (hj : j < Q.length), Chain s Q → s ≤ Q[j].1 ∧ Q[j].1 + Q[j].2.length ≤ s + (flat Q).length ∧ 0 < Q[j].2.length
  | q :: r, s, 0, _, ⟨h1, h2, h3⟩ => by
    have : 0 < q.2.length := List.length_pos_iff.2 h2
    rw [flat_cons, List.length_append]
    show s ≤ q.1 ∧ q.1 + q.2.length ≤ _ ∧ 0 < q.2.length
    omega
  | q :: r, s, j + 1, hj, ⟨h1, h2, h3⟩ => by
    have hj' : j < r.length := by simpa using hj
    have := chain_ge hj' h3
    rw [flat_cons, List.length_append]
    simp only [List.getElem_cons_succ]
    omega
theorem chain_lt : ∀ {Q : Pts} {s j k : Nat} (hk : k < Q.length) (hjk : j < k), Chain s Q → (Q[j]'(by omega)).1 < Q[k].1
  | q :: r, s, 0, k + 1, hk, _, ⟨h1, h2, h3⟩ => by
    have hk' : k < r.length := by simpa using hk
    have := chain_ge hk' h3
    have : 0 < q.2.length := List.length_pos_iff.2 h2
    simp only [List.getElem_cons_succ, List.getElem_cons_zero]
    omega
  | q :: r, s, j + 1, k + 1, hk, hjk, ⟨h1, h2, h3⟩ => by
    have hk' : k < r.length := by simpa using hk
    simp only [List.getElem_cons_succ]
    exact chain_lt hk' (by omega) h3
theorem chain_get : ∀ {Q : Pts} {s n : Nat}, Chain s Q → s ≤ n → n < s + (flat Q).length → ∃ j, ∃ hj : j < Q.length, Q[j].1 ≤ n ∧ n < Q[j].1 + Q[j].2.length ∧ (flat Q)[n - s]? = Q[j].2[n - Q[j].1]?
  | [], s, n, _, h1, h2 => by simp [flat] at h2; omega
  | q :: r, s, n, ⟨h1, h2, h3⟩, hs, hn => by
    rw [flat_cons, List.length_append] at hn
    by_cases hq : n < s + q.2.length
    · refine ⟨0, by simp, by simp; omega, by simp; omega, ?_⟩
      rw [flat_cons, List.getElem?_append_left (by omega)]
      simp [h1]
    · obtain ⟨j, hj, g1, g2, g3⟩ := chain_get (n := n) h3 (by omega) (by omega)
      refine ⟨j + 1, by simpa using hj, by simpa using g1, by simpa using g2, ?_⟩
      rw [flat_cons, List.getElem?_append_right (by omega)]
      simp only [List.getElem_cons_succ]
      rw [← g3]
      congr 1; omega
end Go.Proofs.YthpjoogmmjikmaaGreatDoor
/-
 A log of many segments, over memory: its parts and find.
 No condition beyond those that each theorem names.
-/
set_option linter.unusedSimpArgs false
open Go.Sx
set_option linter.unusedVariables false
set_option linter.unusedSimpArgs false
namespace Go.Proofs.YthpjoogmmjikmaaGreatDoor
def lgC (D : Nat) (m : Int) (pv : AV) : List AV := [.ptr D 0, .str lognm, .int .i64 m, pv, .int .i64 7, .int .i64 6, .bool false]
def ptC (x : Nat × Nat) : List AV := [.int .i64 (x.1 : Int), .ptr x.2 0]
def ptsC (l : List (Nat × Nat)) : List AV := l.flatMap ptC
theorem ptsC_length (l : List (Nat × Nat)) : (ptsC l).length = l.length * 2 := by
 induction l with
 | nil => rfl
 | cons a l ih => show (ptC a ++ ptsC l).length = _; rw [List.length_append, ih, List.length_cons]; simp [ptC]; omega
theorem ptsC_at : ∀ {l : List (Nat × Nat)} {j : Nat} (hj : j < l.length), ((ptsC l).drop (j * 2)).take 2 = ptC l[j]
  | a :: l, 0, _ => rfl
  | a :: l, j + 1, hj => by
    have hj' : j < l.length := by simpa using hj
    show ((ptC a ++ ptsC l).drop ((j + 1) * 2)).take 2 = _
    rw [show (j + 1) * 2 = (ptC a).length + j * 2 by simp [ptC]; omega, ← List.drop_drop, List.drop_left]
    exact ptsC_at hj'
theorem ptsC_first {l : List (Nat × Nat)} {j : Nat} (hj : j < l.length) : (ptsC l)[j * 2 + 0]? = some (.int .i64 (l[j].1 : Int)) := by
 have h := ptsC_at hj
 have h2 := congrArg (fun x => x[0]?) h
 rw [List.getElem?_take_of_lt (by omega), List.getElem?_drop] at h2
 exact h2
def enC (x : Int × Int) : List AV := [.int .i64 x.1, .int .i64 x.2]
def ensC (l : List (Int × Int)) : List AV := l.flatMap enC
theorem ensC_length (l : List (Int × Int)) : (ensC l).length = l.length * 2 := by
 induction l with
 | nil => rfl
 | cons a l ih => show (enC a ++ ensC l).length = _; rw [List.length_append, ih, List.length_cons]; simp [enC]; omega
theorem ensC_app (l r : List (Int × Int)) : ensC (l ++ r) = ensC l ++ ensC r := by simp [ensC]
theorem ensC_at : ∀ {l : List (Int × Int)} {j : Nat} (hj : j < l.length), ((ensC l).drop (j * 2)).take 2 = enC l[j]
  | a :: l, 0, _ => rfl
  | a :: l, j + 1, hj => by
    have hj' : j < l.length := by simpa using hj
    show ((enC a ++ ensC l).drop ((j + 1) * 2)).take 2 = _
    rw [show (j + 1) * 2 = (enC a).length + j * 2 by simp [enC]; omega, ← List.drop_drop, List.drop_left]
    exact ensC_at hj'
section
variable {hk : Hook} {A B : Nat → Prop} {I : List Nat} {w0 w w' : AW} {D S LG pf : Nat} {po : Ob} {i i' : DI} {d d' : Dsk} {k k' : Nat} {L L' R : Obs} {K : AV → AW → Prop} {nm bs t : Byts} {bv ev pv : AV} {ef : Nat} {eo : Ob} {m : Int} {Q : List (Nat × Nat)} {n a b : Nat}
theorem ens_at {v : AV} {es : List (Int × Int)} (h : Rs w 2 es.length v (ensC es)) {j : Nat} (hj : j < es.length) {K : Nat → Nat → Prop} (hK : ∀ b o, ld w b (o + 0 * 1) = some (.int .i64 es[j].1) → ld w b (o + 1 * 1) = some (.int .i64 es[j].2) → ldN 2 w b o = some (.agg (enC es[j])) → K b o) : atP (idxS 2 v (.int .i64 (j : Int))) K := by
 refine h.at (by omega) (by omega) fun b o hf hn => hK b o ?_ ?_ ?_
 ·have := hf 0 (by decide)
  have e := congrArg (fun x => x[0]?) (ensC_at hj)
  rw [List.getElem?_take_of_lt (by omega), List.getElem?_drop] at e
  exact this.trans e
 ·have := hf 1 (by decide)
  have e := congrArg (fun x => x[1]?) (ensC_at hj)
  rw [List.getElem?_take_of_lt (by omega), List.getElem?_drop] at e
  exact this.trans e
 ·rw [hn]
  show some (AV.agg (((ensC es).drop (j * 2)).take 2)) = _
  rw [ensC_at hj]
theorem g129 {v : AV} {es : List (Int × Int)} (hh : HK hk) (h : Rs w 2 es.length v (ensC es)) (h0 : 0 < es.length) (hz : es[0]'h0 = (0, 0)) (hr : ∀ j (hj : j + 1 < es.length), (es[j]'(by omega)).1 < (es[j + 1]'hj).1 ∧ (es[j]'(by omega)).2 ≤ (es[j + 1]'hj).2) (hb : ∀ j (hj : j < es.length), es[j].1 ≤ 1000 ∧ es[j].2 ≤ 1000) (hl : es.length < 1000) (hK : K (.bool true) w) : Cl Tryz.prog hk 129 [v] w K := by
 apply in129 (hh.no _ _ _ (by decide) (by decide))
 unfold F129
 refine ⟨_, h.len, ifT_d (fun hc => by omega) fun _ => ?_⟩
 refine ens_at (j := 0) h h0 fun b o _ _ hn => ?_
 rw [hz] at hn
 refine ⟨0, 0, hn, false, by kernel_rfl, ifT_f ?_⟩
 refine loopP_ind (fun mm l w9 => ∃ j : Nat, mm = es.length - j ∧ 1 ≤ j ∧ j ≤ es.length ∧ l = [.int .i64 j] ∧ w9 = w) ?_ ⟨1, rfl, Nat.le_refl _, h0, rfl, rfl⟩
 rintro mm l w9 ⟨j, rfl, hj1, hj, rfl, rfl⟩ R2 ih
 refine ⟨_, rfl, fun _ => ⟨_, h.len, ifT_d (fun hc => ?_) fun _ => hK⟩⟩
 obtain ⟨q, rfl⟩ : ∃ q, j = q + 1 := ⟨j - 1, by omega⟩
 have hq : q + 1 < es.length := by omega
 obtain ⟨r1, r2⟩ := hr q hq
 obtain ⟨b1, b2⟩ := hb (q + 1) hq
 have ew : wi (((q + 1 : Nat) : Int) - 1) = ((q : Nat) : Int) := by rw [wi_eq (by omega) (by omega)]; omega
 rw [ew]
 refine ens_at h hq fun x1 y1 l1 _ _ => ⟨_, l1, ens_at h (j := q) (by omega) fun x2 y2 l2 _ _ => ⟨_, l2, ifT_d (fun hc => by omega) fun _ => ?_⟩⟩
 refine ens_at h hq fun x1 y1 _ l1 _ => ⟨_, l1, ens_at h (j := q) (by omega) fun x2 y2 _ l2 _ => ⟨_, l2, ifT_d (fun hc => by omega) fun _ => ?_⟩⟩
 refine ens_at h hq fun x1 y1 l1 _ _ => ⟨_, l1, ifT_d (fun hc => by omega) fun _ => ?_⟩
 refine ens_at h hq fun x1 y1 _ l1 _ => ⟨_, l1, ifT_d (fun hc => by omega) fun _ => ?_⟩
 exact ih (es.length - (q + 1 + 1)) (by omega) _ _ ⟨q + 1 + 1, rfl, by omega, by omega, by rw [wi_eq (by omega) (by omega)]; rfl, rfl⟩
theorem g130 {v : AV} {es : List (Int × Int)} {x : Int} {q b2 b4 : Nat} {af : Nat} {ao : Ob} (hh : HK hk) (h : Dk A I w0 w D i d k ((b4, .row [.int .i64 0, .int .i64 0]) :: (b2, .row [.int .i64 x]) :: (af, ao) :: L)) (hv : Sv 2 ao v (ensC es)) (hl : es.length < 1000)
  (hq : q < es.length) (hq1 : ∀ j (hj : j < es.length), j ≤ q → es[j].1 ≤ x) (hq2 : ∀ j (hj : j < es.length), q < j → x < es[j].1)
  (hK : ∀ w' i18, Dk A I w0 w' D i d k ((b4, .row [.int .i64 0, .int .i64 0]) :: (b2, .row [.int .i64 x]) :: (af, ao) :: L) → Xt (dkU D i ((b4, .row [.int .i64 0, .int .i64 0]) :: (b2, .row [.int .i64 x]) :: (af, ao) :: L)) w (dkU D i ((b4, .row [.int .i64 0, .int .i64 0]) :: (b2, .row [.int .i64 x]) :: (af, ao) :: L)) w' → (i18 = -1 ∧ q + 1 = es.length ∨ i18 = ((q + 1 : Nat) : Int)) → K (.int .i64 i18) w') : Cl Tryz.prog hk 130 [v, .func 131 [] [.ptr b2 0]] w K := by
 apply in130 (hh.no _ _ _ (by decide) (by decide))
 unfold F130
 have rs : ∀ {w' : AW}, Dk A I w0 w' D i d k ((b4, .row [.int .i64 0, .int .i64 0]) :: (b2, .row [.int .i64 x]) :: (af, ao) :: L) → Rs w' 2 es.length v (ensC es) := fun hd => hd.ow.sv (i := 8) (f := af) (o := ao) rfl hv (by decide) (ensC_length es)
 refine ⟨_, (rs h).len, ?_⟩
 refine loopP_ind (fun mm l w5' => ∃ j : Nat, mm = es.length - j ∧ j ≤ q + 1 ∧ l = [.int .i64 j] ∧ Dk A I w0 w5' D i d k ((b4, .row [.int .i64 0, .int .i64 0]) :: (b2, .row [.int .i64 x]) :: (af, ao) :: L) ∧ Xt (dkU D i ((b4, .row [.int .i64 0, .int .i64 0]) :: (b2, .row [.int .i64 x]) :: (af, ao) :: L)) w (dkU D i ((b4, .row [.int .i64 0, .int .i64 0]) :: (b2, .row [.int .i64 x]) :: (af, ao) :: L)) w5') ?_
  ⟨0, rfl, Nat.zero_le _, rfl, h, Xt.refl⟩
 rintro mm l w5' ⟨j, rfl, hj, rfl, h6, x6⟩ R2 ih
 have r6 := rs h6
 refine ⟨_, rfl, fun _ => ifT_d (fun hc => ?_) fun hc => ?_⟩
 ·have hjl : j < es.length := by omega
  refine ens_at r6 hjl fun x1 y1 _ _ hn => ⟨_, _, hn, ?_⟩
  show Cl Tryz.prog hk 131 [.agg [.int .i64 es[j].1, .int .i64 es[j].2], .ptr b2 0] w5' _
  apply in131 (hh.no _ _ _ (by decide) (by decide))
  unfold F131
  refine h6.new' fun b3 w12 h12 x12 => ⟨es[j].1, h12.ow.ld 6 rfl rfl, ?_⟩
  simp only [onP]
  refine ⟨x, h12.ow.ld 8 rfl rfl, _, rfl, ?_⟩
  obtain ⟨h13, x13, _⟩ := h12.drop
  have xx := (x6.trans x12).trans x13
  refine ifT_d (fun hlt => ?_) fun hge => ?_
  ·have : ¬ j ≤ q := fun hle => by have := hq1 j hjl hle; omega
   obtain rfl : j = q + 1 := by omega
   exact hK w12 _ h13 xx (.inr rfl)
  ·have : ¬ q < j := fun hle => by have := hq2 j hjl hle; omega
   exact ih (es.length - (j + 1)) (by omega) _ _ ⟨j + 1, rfl, by omega, by rw [wi_eq (by omega) (by omega)]; rfl, h13, xx⟩
 ·have : q + 1 = es.length := by omega
  exact hK w5' _ h6 x6 (.inl ⟨rfl, this⟩)
theorem g88 {v : AV} {es : List (Int × Int)} {x : Int} {q : Nat} {af : Nat} {ao : Ob} (hh : HK hk) (h : Dk A I w0 w D i d k ((af, ao) :: L)) (hv : Sv 2 ao v (ensC es)) (h0 : 0 < es.length) (hz : es[0]'h0 = (0, 0)) (hr : ∀ j (hj : j + 1 < es.length), (es[j]'(by omega)).1 < (es[j + 1]'hj).1 ∧ (es[j]'(by omega)).2 ≤ (es[j + 1]'hj).2) (hb : ∀ j (hj : j < es.length), es[j].1 ≤ 1000 ∧ es[j].2 ≤ 1000) (hl : es.length < 1000)
  (hx : 0 ≤ x) (hq : q < es.length) (hq1 : ∀ j (hj : j < es.length), j ≤ q → es[j].1 ≤ x) (hq2 : ∀ j (hj : j < es.length), q < j → x < es[j].1)
  (hK : ∀ w', Dk A I w0 w' D i d k ((af, ao) :: L) → Xt (dkU D i ((af, ao) :: L)) w (dkU D i ((af, ao) :: L)) w' → K (.tup [.agg (enC es[q]), .int .i64 0]) w') : Cl Tryz.prog hk 88 [v, .int .i64 x] w K := by
 apply in88 (hh.no _ _ _ (by decide) (by decide))
 unfold F88
 refine h.new' fun b2 w3 h3 x3 => h3.new' fun b4 w5 h5 x5 => ?_
 have rs : ∀ {w' : AW}, Dk A I w0 w' D i d k ((b4, .row [.int .i64 0, .int .i64 0]) :: (b2, .row [.int .i64 x]) :: (af, ao) :: L) → Rs w' 2 es.length v (ensC es) := fun hd => hd.ow.sv (i := 8) (f := af) (o := ao) rfl hv (by decide) (ensC_length es)
 refine g129 hh (rs h5) h0 hz hr hb hl ⟨_, rfl, ifT_f ⟨x, h5.ow.ld 7 rfl rfl, ifT_d (fun hc => by omega) fun _ => ?_⟩⟩
 refine g130 hh h5 hv hl hq hq1 hq2 fun w17 i18 h17 x17 hor => ⟨_, rfl, ?_⟩
 have r17 := rs h17
 refine join_of (fun l w20 => l = [.int .i64 ((q + 1 : Nat) : Int)] ∧ w20 = w17) ?_ fun J hJ => ?_
 ·rintro l w20 ⟨rfl, rfl⟩
  refine ⟨_, rfl, fun _ => ?_⟩
  rw [show wi (((q + 1 : Nat) : Int) - 1) = ((q : Nat) : Int) by rw [wi_eq (by omega) (by omega)]; omega]
  refine ens_at r17 hq fun x1 y1 _ _ hn => ⟨_, _, hn, h17.wr 0 rfl (by simp) fun w27 h27 x27 => ⟨es[q].1, es[q].2, h27.ow.ldN 6 rfl rfl rfl, ?_⟩⟩
  obtain ⟨h28, x28⟩ := Dk.spoilM (M := [_, _]) (L := (af, ao) :: L) h27 (Nat.le_refl _) h27.ow.mem fun _ _ _ => rfl
  exact hK w27 h28 ((((x3.trans x5).trans x17).trans x27).trans x28)
 ·rcases hor with ⟨rfl, hqe⟩ | rfl
  ·refine ifT_t ⟨_, r17.len, hJ _ _ ⟨?_, rfl⟩⟩
   rw [hqe]
  ·exact ifT_d (fun hc => by omega) fun _ => hJ _ _ ⟨rfl, rfl⟩
end
end Go.Proofs.YthpjoogmmjikmaaGreatDoor
