/-
  SegmentKept.
  No condition beyond those that each theorem names.
-/
import Derived.Test.YtdlogcincelccaaWK08
set_option linter.unusedSimpArgs false
open Go.Sx
set_option linter.unusedVariables false
set_option linter.unusedSimpArgs false
namespace Go.Proofs.Ytdlogcincelccaa
structure Life where
  work : List Int
  arm : Int
  keep : List Bool
  later : List Bool
  again : Int
def rLife : Rp Life := ⟨5, fun A w cs x => ∃ v1 v2 v3, cs = [v1, .int .i64 x.arm, v2, v3, .int .i64 x.again] ∧ (rL rI).rd A w [v1] x.work ∧ (rL rT).rd A w [v2] x.keep ∧ (rL rT).rd A w [v3] x.later,
  fun ⟨_, _, _, h, _⟩ => by rw [h]; rfl, fun ⟨_, _, _, h, h1, h2, h3⟩ => by rw [h]; simp [h1.ok1, h2.ok1, h3.ok1]; exact ⟨rfl, rfl⟩,
  fun e ⟨v1, v2, v3, h, h1, h2, h3⟩ => ⟨v1, v2, v3, h, h1.xa e, h2.xa e, h3.xa e⟩⟩
abbrev T1 : Nat → Prop := fun _ => True
theorem cat_len : ∀ {l : List Byts}, (∀ t ∈ l, t.length ≤ 199) → (cat l).length ≤ 203 * l.length
  | [], _ => by simp [cat]
  | t :: l, h => by
    have h1 := cat_len (l := l) fun u hu => h u (List.mem_cons_of_mem _ hu)
    have h2 := h t List.mem_cons_self
    have h3 := frame_length t
    have e : (cat (t :: l)).length = (frame t).length + (cat l).length := by simp [cat]
    rw [e, List.length_cons]; omega
theorem cat_lt {l : List Byts} {m : Nat} (h : m < l.length) : (cat (l.take m)).length < (cat l).length := by
  have h1 := cat_mono l (show m + 1 ≤ l.length from h)
  rw [List.take_length, List.take_succ_eq_append_getElem h, cat_snoc, List.length_append, frame_length] at h1
  omega
def AllV (A : Nat → Prop) (w0 w : AW) (v : AV) (l : List Byts) : Prop := Ga (rL rU) A w0 w v l ∨ ((rL (rL rU)).rd A w [v] l ∧ ∃ b o n, v = .slice b o n n none)
section
variable {hk : Hook} {A B : Nat → Prop} {I : List Nat} {w0 w w' w1 w2 : AW} {D S : Nat} {i i' : DI} {d d' : Dsk} {k k' : Nat} {L L' : Obs} {K : AV → AW → Prop} {nm bs : Byts} {E : List Nat} {v bv ev : AV} {br : Bool} {ef : Nat} {eo : Ob} {l : List Byts} {U U' : List Nat}
theorem AllV.rd (h : AllV A w0 w v l) : (rL (rL rU)).rd A w [v] l := h.elim (fun h => h.rd (by decide)) (·.1)
theorem AllV.x (h : AllV (fz B U) w0 w v l) (e : Xt U w U' w') (hm : Ow A I w2 w L) : AllV (fz B U') w0 w' v l := h.imp (fun h => Ga.x' h e hm) fun h => ⟨h.1.x e, h.2⟩
theorem AllV.cut (h : AllV A w0 w v l) {m : Nat} (hm : m < l.length) : ∃ v', slS 1 v none (some (.int .i64 (m : Int))) (some (.int .i64 (m : Int))) = some v' ∧ AllV A w0 w v' (l.take m) := by
  rcases h.rd.sl with ⟨_, rfl⟩ | ⟨b, o, cap, ex, f, all, rfl, ⟨c1, c2⟩, h2, h3, h4, h5, h6⟩
  · simp at hm
  · have hml : (l.take m).length = m := by rw [List.length_take]; omega
    have hz : (rL rU).sz = 1 := rfl
    rw [hz] at h5 h6 c2
    refine ⟨.slice b o m m none, ?_, .inr ⟨⟨_, rfl, .inr ⟨b, o, m, none, f, all, by rw [hml], ⟨by omega, rfl⟩, h2, h3, h4, by rw [hml, hz]; omega, ?_⟩⟩, b, o, m, rfl⟩⟩
    · have e1 : Nat.ble 0 m = true := by rw [Nat.ble_eq]; omega
      have e2 : Nat.ble m m = true := by rw [Nat.ble_eq]; omega
      have e3 : Nat.ble m cap = true := by rw [Nat.ble_eq]; omega
      simp [slS, boundA, asN_ofNat, okB, e1, e2, e3, c2, guardO]
    · rw [hml, hz]
      have := h6.take m
      rw [hz, List.take_take, Nat.min_eq_left (by omega)] at this
      exact this
theorem AllV.app (h : Dk T1 [] w0 w D i d k L) (ha : AllV (fz T1 (dkU D i L)) w0 w v l) {b : Nat} {x : AV} {t : Byts} (hb : Box w b [x]) (hx : (rL rU).rd (fz T1 (dkU D i L)) w [x] t) (hl : l.length < 2 ^ 20)
    (hK : ∀ v' w', Dk T1 [] w0 w' D i d k L → Xw (dkU D i L) w (dkU D i L) w' → AllV (fz T1 (dkU D i L)) w0 w' v' (l ++ [t]) → K v' w') : onE (appS 1 24 w v (.slice b 0 1 1 none)) K := by
  have hsrc : Bhd w 1 1 (.slice b 0 1 1 none) [x] := Rs.src (hb.rs rfl)
  rcases ha with hg | ⟨hr, b0, o0, n0, rfl⟩
  · refine Ow.appSrc (r := rL rU) (l' := [t]) h.ow hg hsrc (Chk.one hx) (by decide) (fun _ _ => trivial) (by simp; omega) (by simp; omega) fun v' w' st' x' hg' => ?_
    have x' : Xw (dkU D i L) w (dkU D i L) w' := x'
    exact hK v' w' ⟨st', h.st, h.f1.y x', h.f2.y x', h.V, h.k27⟩ x' (.inl hg')
  · have hlen : n0 = l.length := by
      have := hr.len'
      simp only [lenS] at this
      cases this; rfl
    subst hlen
    obtain ⟨all, g1, g2⟩ := hr.rs
    rcases g1 with ⟨g, _⟩ | ⟨b', o', cap', ex', al, g0, q1, q2, q3⟩
    · cases g
    cases g0
    have hz : (rL rU).sz = 1 := rfl
    rw [hz] at q2 q3
    have f1 : Fr w.size w (newCells w (all ++ [x])) := Fr.push h.ow.mem fun cs' f own d e => by cases e; exact Nat.le_refl _
    have b1 : Box (newCells w (all ++ [x])) w.size (all ++ [x]) := by simp [Box, newCells, cellsAO]
    obtain ⟨h2, x2⟩ := h.fr f1
    have hcell : okCell x = true := hx.ok1
    refine onE_s (v := .slice w.size 0 (l.length + 1) (l.length + 1) (some 1)) (w := newCells w (all ++ [x])) ?_ (hK _ _ h2 x2.xw (.inl ⟨fun c hc => ?_, all ++ [x], .inr ⟨w.size, w.size, l.length + 1, some 1, w.size, false, rfl, ?_, .inr rfl, ⟨?_, h.ow.P.new _ (Nat.le_refl _)⟩, ?_, b1, AW.root?_iff.2 ⟨_, b1, rfl⟩⟩, (g2.xa x2.xw.xa).app (Chk.one (hx.x x2))⟩))
    · have e0 : Nat.ble (l.length + 1) l.length = false := by
        cases he : Nat.ble (l.length + 1) l.length with
        | false => rfl
        | true => rw [Nat.ble_eq] at he; omega
      have e1 : Nat.blt ((2 * (l.length + 1) + 1000) * 24) Sx.room = true := by rw [Nat.blt_eq]; unfold Sx.room; omega
      have e2 : Nat.blt (l.length + 1) (2 ^ 62) = true := by rw [Nat.blt_eq]; omega
      have e4 : takeCells al o0 (l.length * 1) = some all := by rw [takeCells_some (by omega), q3]
      have e5 : Nat.beq 1 0 = false := rfl
      have hok : okSrc (.slice b 0 1 1 none) [x] = true := rfl
      simp only [appS, hsrc.read, Option.bind_some, e5, cond_false, Bool.not_false, hok, guardO, Bool.and_self, cond_true, e0, e1, e2, growA, q1, e4]
    · cases hc; exact h.ow.P.new _ (Nat.le_refl _)
    · rw [hz, List.length_append, q3, List.length_take, List.length_drop, List.length_singleton]; omega
    · have := h.ow.size; omega
    · have := h.ow.P.pos; omega
set_option maxRecDepth 20000 in
theorem s7 {v : AV} {lives : List Life} (hh : HK hk) (pv : Pv T1 w) (h : (rL rLife).rd T1 w [v] lives) (hn : lives.length < 2 ^ 60) (hsl : ∀ x ∈ lives, x.work.length < 2 ^ 60 ∧ x.keep.length < 2 ^ 60 ∧ x.later.length < 2 ^ 60) : Cl Try.prog hk 7 [v] w fun r _ => r = .bool true := by
  apply in7 (hh.no _ _ _ (by decide) (by decide))
  unfold F7
  have hnm : named [115] = true := rfl
  have awake : ∀ {w : AW}, Cl Try.prog hk 15 [] w fun r w => ∃ x : Bool, r = .bool x ∧ (AV.bool x) = .bool true := fun {w} => Cl_hook (hh.awake _) ⟨_, rfl, rfl⟩
  refine s8 hh pv.st fun D i0 w3 h3 x3 => ?_
  refine join_of (fun lv w4 => lv = []) ?_ ?_
  · rintro lv w4 rfl
    exact ⟨rfl, fun _ => awake⟩
  intro J hJ
  refine loopP_ind (fun m l w11 => ∃ (n : Nat) (i' : DI) (d' : Dsk) (av : AV) (all : List Byts), m = 3 - n ∧ n ≤ 3 ∧ l = [av, .int .i64 n] ∧ Dk T1 [] w w11 D i' d' (1000000 * n) [] ∧ Cq d' [115] all ∧ AllV (fz T1 (dkU D i' [])) w w11 av all ∧ (∀ t ∈ all, t.length ≤ 199) ∧ all.length ≤ 30 * n) ?_
    ⟨0, i0, Dsk.none, .nilslice, [], rfl, Nat.zero_le _, rfl, h3, ⟨⟨rfl, rfl, rfl⟩, rfl, rfl, rfl, .inl ⟨⟨rfl, rfl, rfl, rfl, fun _ => rfl, fun _ => rfl⟩, rfl, rfl⟩⟩, .inl Ga.nil, by simp, by simp⟩
  rintro m l w11 ⟨n, i7, d7, av, all, rfl, hn3, rfl, h7, hC, hav, hsz, hal⟩ R ih
  have done : J [] w11 := hJ _ _ rfl
  have ha := h7.ow.arg pv.mem h
  refine ⟨_, _, rfl, fun _ => ⟨_, ha.len', ifT_d (fun hc => ifT_d (fun hc2 => ?_) fun _ => done) fun _ => done⟩⟩
  have hnl : n < lives.length := by omega
  refine ha.at hnl fun b15 o16 cs hcs _ hld => ?_
  obtain ⟨hx1, hx2, hx3⟩ := hsl lives[n] (List.getElem_mem hnl)
  generalize lives[n] = X at *
  obtain ⟨v1, v2, v3, rfl, hr1, hr2, hr3⟩ := hcs
  refine ⟨v1, _, v2, v3, _, hld, h7.new' fun b22 w23 h23 x23 => gd_t (by simp [hr1.ok1, hr2.ok1, hr3.ok1]; exact ⟨rfl, rfl⟩) (h23.wr 0 rfl (by simp) fun w24 h24 x24 => ?_)⟩
  have h24 : Dk T1 [] w w24 D i7 d7 (1000000 * n) [(b22, .row [v1, .int .i64 X.arm, v2, v3, .int .i64 X.again])] := h24
  have x24 : Xt (dkU D i7 [(b22, .row [.nilslice, .int .i64 0, .nilslice, .nilslice, .int .i64 0])]) w23 (dkU D i7 [(b22, .row [v1, .int .i64 X.arm, v2, v3, .int .i64 X.again])]) w24 := x24
  generalize hrow : [v1, AV.int .i64 X.arm, v2, v3, .int .i64 X.again] = row at *
  have r0 : row[0]? = some v1 := by rw [← hrow]; rfl
  have r1 : row[1]? = some (.int .i64 X.arm) := by rw [← hrow]; rfl
  have r2 : row[2]? = some v2 := by rw [← hrow]; rfl
  have r3 : row[3]? = some v3 := by rw [← hrow]; rfl
  have r4 : row[4]? = some (.int .i64 X.again) := by rw [← hrow]; rfl
  have x024 := x23.trans x24
  have hav24 := (hav.x x23 h7.ow).x x24 h23.ow
  have hcl := cat_len hsz
  have h64 : ∀ {l : List Byts}, (∀ t ∈ l, t.length ≤ 199) → ∀ t ∈ l, t.length ≤ 65536 := fun h t ht => Nat.le_trans (h t ht) (by decide)
  obtain ⟨hq, hst, hse, hlv⟩ := hC
  obtain ⟨q, q1, q2, q3, q4, q5, d1, e1, ho, hdd1, hcq⟩ := open_dd hnm (l := all) (s := all.length) (by rw [List.take_length]; exact hlv.dd) (Nat.le_refl _) hlv.1 (h64 hsz) (by omega)
  obtain rfl : q = all.length := by omega
  rw [List.take_length] at q3 q4 hcq
  obtain ⟨rfl, hq1, hst1, hse1, hlv1⟩ := hcq hq hst hse
  refine s11 hh h24 q5 (by omega) (fun hne => absurd (by rw [ho]) hne) (fun _ S1 bv1 ev1 ef1 eo1 i8 w26 h26 x26 hbv1 hsv1 => ⟨_, _, rfl, ifT_f ?_⟩)
  rw [ho] at h26
  rw [q3] at hbv1
  rw [q4] at hsv1
  have hav26 := hav24.x x26 h24.ow
  obtain ⟨t1, t2, t3⟩ := cat_told all.length all rfl (h64 hsz)
  refine s12 hh h26 hbv1 hsv1 (asc_ends _) (by omega) fun r29 w30 f30 hg30 => ?_
  obtain ⟨h30, x30⟩ := h26.fr f30
  rw [t3] at hg30
  have hav30 := hav26.x x30 h26.ow
  refine s14 hh (hg30.rd (by decide)) hav30.rd (by omega) (by omega) ⟨_, rfl, ?_⟩
  rw [show (all == all) = true by simp]
  refine ifT_f ⟨_, h30.ow.ld 8 rfl r1, s29 hh (by decide) (by decide) fun y y0 y1 => ⟨_, rfl, s27 hh h30 ?_⟩⟩
  rw [if_neg (by omega)]
  intro i9 w39 h39 x39
  have hav39 := hav30.x x39 h30.ow
  have x039 : Xw (dkU D i7 []) w11 _ w39 := (((x024.trans x26).trans x30).trans x39).xw
  refine ⟨_, rfl, ifT_f ⟨_, hav39.rd.len', ?_⟩⟩
  refine join_of (fun lv w43 => ∃ (i : DI) (d : Dsk) (av : AV) (all : List Byts) (sy : Nat) (bv ev : AV) (br : Bool) (ef : Nat) (eo : Ob), lv = [av, .int .i64 (sy : Int)] ∧ Dk T1 [] w w43 D i d (1000000 * n + 400000) [(S1, .row (segC D [115] bv ev br)), (ef, eo), (b22, .row row)] ∧
    Xw (dkU D i7 []) w11 (dkU D i [(S1, .row (segC D [115] bv ev br)), (ef, eo), (b22, .row row)]) w43 ∧ AllV (fz T1 (dkU D i [(S1, .row (segC D [115] bv ev br)), (ef, eo), (b22, .row row)])) w w43 av all ∧ sy ≤ all.length ∧ (∀ t ∈ all, t.length ≤ 199) ∧ all.length ≤ 30 * n + 30 ∧ Dd d [115] (cat all) (cat (all.take sy)).length) ?_ ?_
  · clear hav hsz hal hlv hcl hdd1 hcq t1 t2 t3 hav24 hav26 hav30 hav39 hg30 q3 q4 q5 q1 q2
    rintro lv w43 ⟨i43, d43, av, all, sy, bv, ev, br, ef, eo, rfl, h43, x43, hav, hsy, hsz, hal, hdd⟩
    have hcl := cat_len hsz
    refine ⟨_, _, rfl, fun _ => ?_⟩
    refine onM_s (v := v2) (h43.ow.ld 8 rfl r2) ?_
    have hr2' := hr2.y x43
    refine s18 (keep := X.keep) hh h43 (by omega) hr2' ?_
    intro i49 w49 h49 x49
    have hcs := crash_ok hdd X.keep
    generalize d43.crash X.keep = d49 at *
    obtain ⟨hq49, hst49, hse49, hd49⟩ := hcs
    have hav49 := hav.x x49 h43.ow
    refine ⟨_, rfl, ifT_f ⟨_, h49.ow.ld 8 rfl r4, s29 hh (by decide) (by decide) fun z z0 z1 => ⟨_, rfl, s27 hh h49 ?_⟩⟩⟩
    rw [if_neg (by omega)]
    intro i56 w56 h56 x56
    have hav56 := hav49.x x56 h49.ow
    have hdd56 : Dd { d49 with arm := wi (imin z 4611686018427387904 + 1) } [115] (cat all) (cat (all.take sy)).length := dd_arm (show Dd d49 [115] (cat all) (cat (all.take sy)).length from hd49)
    have hdn56 : ({ d49 with arm := wi (imin z 4611686018427387904 + 1) } : Dsk).down = false := hq49.1
    generalize ({ d49 with arm := wi (imin z 4611686018427387904 + 1) } : Dsk) = d56 at *
    obtain ⟨h57, x57, _⟩ := h56.drop
    obtain ⟨h58, x58⟩ := h57.forget
    have hav58 := (hav56.x x57 h56.ow).x x58 h57.ow
    have x058 := ((((x43.trans' x49).trans' x56).trans' x57).trans' x58)
    refine ⟨_, rfl, ?_⟩
    have hl58 : (cat all).length ≤ 200000 := by omega
    obtain ⟨qa, qa1, qa2, qa3, qa4, qa5, d57, e57, hoa, hdda, _⟩ := open_dd hnm hdd56 hsy hdn56 (h64 hsz) hl58
    refine Cl_mono (K := fun r w' => ∃ (x60 : AV) (x61 : Int) (i' : DI) (k' : Nat), r = .tup [x60, .int .i64 x61] ∧ k' = 1000000 * n + 400000 + 10000 ∧ Dk T1 [] w w' D i' d57 k' [(b22, .row row)] ∧ Xw (dkU D i7 []) w11 (dkU D i' [(b22, .row row)]) w' ∧ AllV (fz T1 (dkU D i' [(b22, .row row)])) w w' av all) ?_ ?_
    rotate_left
    · refine s11 hh h58 qa5 (by omega) (fun hne i9 w9 h9 x9 => ?_) (fun _ S9 bv9 ev9 ef9 eo9 i9 w9 h9 x9 _ _ => ?_)
      · rw [hoa] at h9
        exact ⟨_, _, _, _, rfl, rfl, h9, x058.trans' x9, hav58.x x9 h58.ow⟩
      · rw [hoa] at h9
        obtain ⟨ha, xa, _⟩ := h9.drop
        obtain ⟨hb, xb⟩ := ha.forget
        exact ⟨_, _, _, _, rfl, rfl, hb, ((x058.trans' x9).trans' xa).trans' xb, ((hav58.x x9 h58.ow).x xa h9.ow).x xb ha.ow⟩
    rintro r w59 ⟨x60, x61, i59, k59, rfl, rfl, h59, x59, hav59⟩
    refine ⟨_, _, rfl, onM_s (v := v3) (h59.ow.ld 6 rfl r3) (s18 (keep := X.later) hh h59 (by omega) (hr3.y x59) ?_)⟩
    intro i64 w64 h64' x64
    have hcs := crash_ok hdda X.later
    generalize d57.crash X.later = d64 at *
    obtain ⟨hq64, hst64, hse64, hd64⟩ := hcs
    have hav64 := hav59.x x64 h59.ow
    obtain ⟨qb, qb1, qb2, qb3, qb4, qb5, d67, e67, hob, _, hcqb⟩ := open_dd hnm (show Dd d64 [115] (cat all) (cat (all.take sy)).length from hd64) hsy hq64.1 (h64 hsz) hl58
    obtain ⟨rfl, hC67⟩ := hcqb hq64 hst64 hse64
    have hsz2 : ∀ t ∈ all.take qb, t.length ≤ 199 := fun t ht => hsz t (List.mem_of_mem_take ht)
    have hcl2 := cat_len hsz2
    have hlq : (all.take qb).length = qb := by rw [List.length_take]; omega
    obtain ⟨t1, t2, t3⟩ := cat_told (all.take qb).length (all.take qb) rfl (h64 hsz2)
    refine ⟨_, rfl, ifT_f (s11 hh h64' qb5 (by omega) (fun hne => absurd (by rw [hob]) hne) (fun _ S2 bv2 ev2 ef2 eo2 i67 w67 h67 x67 hbv2 hsv2 => ⟨_, _, rfl, ifT_f ?_⟩))⟩
    rw [hob] at h67
    rw [qb3] at hbv2
    rw [qb4] at hsv2
    have hav67 := hav64.x x67 h64'.ow
    refine s12 hh h67 hbv2 hsv2 (asc_ends _) (by omega) fun r70 w71 f71 hg71 => ?_
    obtain ⟨h71, x71⟩ := h67.fr f71
    rw [t3] at hg71
    have hav71 := hav67.x x71 h67.ow
    refine s30 hh (hg71.rd (by decide)) hav71.rd (by omega) (by omega) (by omega) (by omega) (by rw [hlq]) ⟨_, rfl, ifT_f ?_⟩
    refine s12 hh h71 (hbv2.x x71) hsv2 (asc_ends _) (by omega) fun r75 w76 f76 hg76 => ?_
    obtain ⟨h76, x76⟩ := h71.fr f76
    rw [t3] at hg76
    obtain ⟨h77, x77, _⟩ := h76.drop
    obtain ⟨h78, x78⟩ := h77.forget
    obtain ⟨h79, x79, _⟩ := h78.drop
    have hgz := (((hg76.x' x77 h76.ow).x' x78 h77.ow).x' x79 h78.ow).xa (w1 := w) (by have := h71.ow.size; omega) fun _ h => h
    exact ih (3 - (n + 1)) (by omega) _ _ ⟨n + 1, _, _, _, _, rfl, by omega, by rw [wi_eq (by omega) (by omega)]; rfl, h79.le (by omega) (by omega), hC67, .inl hgz, hsz2, by omega⟩
  · intro J2 hJ2
    refine loopP_ind (fun m l w79 => ∃ (j : Nat) (i : DI) (d : Dsk) (av : AV) (all : List Byts) (sy : Nat) (bv ev : AV) (br : Bool) (ef : Nat) (eo : Ob), m = 30 - j ∧ j ≤ 30 ∧ l = [av, .int .i64 (sy : Int), .int .i64 j] ∧ Dk T1 [] w w79 D i d (1000000 * n + 20000 + 10000 * j) [(S1, .row (segC D [115] bv ev br)), (ef, eo), (b22, .row row)] ∧
      Xw (dkU D i7 []) w11 (dkU D i [(S1, .row (segC D [115] bv ev br)), (ef, eo), (b22, .row row)]) w79 ∧ AllV (fz T1 (dkU D i [(S1, .row (segC D [115] bv ev br)), (ef, eo), (b22, .row row)])) w w79 av all ∧ sy ≤ all.length ∧ (∀ t ∈ all, t.length ≤ 199) ∧ all.length ≤ 30 * n + j ∧ Dd d [115] (cat all) (cat (all.take sy)).length ∧
      (br = false → Lv d [115] (cat all) (cat (all.take sy)).length ∧ (rL rU).rd (fz T1 (dkU D i [(S1, .row (segC D [115] bv ev br)), (ef, eo), (b22, .row row)])) w79 [bv] (cat all) ∧ Sv 1 eo ev (cst (ends (cat all))))) ?_
      ⟨0, i9, _, av, all, all.length, bv1, ev1, false, ef1, eo1, rfl, Nat.zero_le _, rfl, h39.le (by omega) (by omega), x039, hav39, Nat.le_refl _, hsz, by omega, dd_arm (by rw [List.take_length]; exact hlv1.dd), fun _ => ⟨lv_arm (by rw [List.take_length]; exact hlv1), (hbv1.x x30).x x39, hsv1⟩⟩
    clear hav hsz hal hlv hcl hdd1 hcq t1 t2 t3 hav24 hav26 hav30 hav39 hg30 q3 q4 q5 q1 q2 hlv1 x039 h39 x39 hbv1 hsv1 h30 x30 h26 x26
    rintro m l w79 ⟨j, i, d, av, all, sy, bv, ev, br, ef, eo, rfl, hj, rfl, h79, x79, hav, hsy, hsz, hal, hdd, hlv⟩ R2 ih2
    have done2 : J2 [av, .int .i64 (sy : Int)] w79 := hJ2 _ _ ⟨i, d, av, all, sy, bv, ev, br, ef, eo, rfl, h79.le (by omega) (by omega), x79, hav, hsy, hsz, by omega, hdd⟩
    have hr1' := hr1.y x79
    refine ⟨_, _, _, rfl, fun _ => onM_s (v := v1) (h79.ow.ld 8 rfl r0) ⟨_, hr1'.len', ifT_d (fun hc3 => ifT_d (fun hc4 => ?_) fun _ => done2) fun _ => done2⟩⟩
    refine s24 (D := D) (br := br) hh (h79.ow.ld 6 rfl rfl) (h79.ow.ld 6 rfl rfl) ⟨_, rfl, ?_⟩
    cases br with
    | true => exact ifT_f done2
    | false =>
    obtain ⟨hL, hbv, hsv⟩ := hlv rfl
    clear hlv
    have hcl := cat_len hsz
    have hjw : j < X.work.length := by omega
    refine ifT_t (onM_s (v := v1) (h79.ow.ld 8 rfl r0) ?_)
    refine hr1'.at1 rfl hjw fun b89 o90 a89 hra hlda => ?_
    have hra : [a89] = [AV.int .i64 X.work[j]] := hra
    cases hra
    refine ⟨_, hlda, s29 hh (by decide) (by decide) fun nn n0 n1 => ⟨_, rfl, ?_⟩⟩
    have hj1 : wi ((j : Int) + 1) = ((j + 1 : Nat) : Int) := by rw [wi_eq (by omega) (by omega)]; rfl
    -- one goes on
    have go : ∀ (i : DI) (d : Dsk) (av : AV) (all : List Byts) (sy : Nat) (bv ev : AV) (br : Bool) (ef : Nat) (eo : Ob) (w' : AW), Dk T1 [] w w' D i d (1000000 * n + 20000 + 10000 * j + 10000) [(S1, .row (segC D [115] bv ev br)), (ef, eo), (b22, .row row)] →
      Xw (dkU D i7 []) w11 (dkU D i [(S1, .row (segC D [115] bv ev br)), (ef, eo), (b22, .row row)]) w' → AllV (fz T1 (dkU D i [(S1, .row (segC D [115] bv ev br)), (ef, eo), (b22, .row row)])) w w' av all → sy ≤ all.length → (∀ t ∈ all, t.length ≤ 199) → all.length ≤ 30 * n + j + 1 → Dd d [115] (cat all) (cat (all.take sy)).length →
      (br = false → Lv d [115] (cat all) (cat (all.take sy)).length ∧ (rL rU).rd (fz T1 (dkU D i [(S1, .row (segC D [115] bv ev br)), (ef, eo), (b22, .row row)])) w' [bv] (cat all) ∧ Sv 1 eo ev (cst (ends (cat all)))) → R2 [av, .int .i64 (sy : Int), .int .i64 (wi ((j : Int) + 1))] w' := by
      intro i d av all sy bv ev br ef eo w' h1 h2 h3 h4 h5 h6 h7 h8
      rw [hj1]
      exact ih2 (30 - (j + 1)) (by omega) _ _ ⟨j + 1, i, d, av, all, sy, bv, ev, br, ef, eo, rfl, by omega, rfl, h1.le (by omega) (by omega), h2, h3, h4, h5, by omega, h7, h8⟩
    have h27 : 1000000 * n + 20000 + 10000 * j + 10000 < 2 ^ 27 := by omega
    have stay : R2 [av, .int .i64 (sy : Int), .int .i64 (wi ((j : Int) + 1))] w79 := go i d av all sy bv ev false ef eo w79 (h79.le (by omega) h27) x79 hav hsy hsz (by omega) hdd fun _ => ⟨hL, hbv, hsv⟩
    obtain ⟨t1, t2, t3⟩ := cat_told all.length all rfl (h64 hsz)
    obtain ⟨N, rfl⟩ := Int.eq_ofNat_of_zero_le n0
    have hN : N < 1000003 := by omega
    have htd : wi (Int.tdiv ((N : Nat) : Int) 7) = ((N / 7 : Nat) : Int) := by
      rw [show Int.tdiv ((N : Nat) : Int) 7 = ((N / 7 : Nat) : Int) from rfl, wi_eq (by omega) (by omega)]
    refine join_of (fun l w96 => ∃ bb : Bool, l = [.bool bb] ∧ w96 = w79) ?_ fun J3 hJ3 => ifT_d (fun _ => hJ3 _ _ ⟨_, rfl, rfl⟩) fun _ => hJ3 _ _ ⟨_, rfl, rfl⟩
    rintro l w96 ⟨bb, rfl, rfl⟩
    refine ⟨_, rfl, fun _ => ?_⟩
    cases bb with
    | true =>
      -- Sync
      obtain ⟨d99, e99, hy, hdd99, hy70, hy0⟩ := lv_sync hL
      refine ifT_t (s17 hh h79 fun i99 w100 h100 x100 => ⟨_, rfl, ?_⟩)
      rw [hy] at h100 x100
      rw [hy]
      simp only at h100 x100 ⊢
      have hav100 := hav.x x100 h79.ow
      by_cases he : e99 = 0
      · subst he
        refine ifT_t ⟨_, hav100.rd.len', ?_⟩
        have hl := hy0 rfl
        exact go i99 d99 av all all.length bv ev false ef eo w100 (h100.le (by omega) h27) (x79.trans' x100) hav100 (Nat.le_refl _) hsz (by omega) (by rw [List.take_length]; exact hl.dd) fun _ => ⟨by rw [List.take_length]; exact hl, hbv.x x100, hsv⟩
      · by_cases he7 : e99 = 70
        · subst he7
          obtain ⟨rfl, hc0, hz⟩ := hy70 rfl
          have hl : Lv d99 [115] (cat all) (cat all).length := by
            rw [hz] at hL
            rw [hc0] at hL ⊢; exact hL
          refine ifT_t ⟨_, hav100.rd.len', ?_⟩
          exact go i99 d99 av all all.length bv ev false ef eo w100 (h100.le (by omega) h27) (x79.trans' x100) hav100 (Nat.le_refl _) hsz (by omega) (by rw [List.take_length]; exact hl.dd) fun _ => ⟨by rw [List.take_length]; exact hl, hbv.x x100, hsv⟩
        · rw [show decide (e99 ≠ 0 ∧ e99 ≠ 70) = true by simp [he, he7]] at h100 x100 hav100
          rw [if_neg he7]
          refine ifT_d (fun h => absurd h he) fun _ => ?_
          exact go i99 d99 av all sy bv ev true ef eo w100 (h100.le (by omega) h27) (x79.trans' x100) hav100 hsy hsz (by omega) hdd99 fun h => by cases h
    | false =>
    refine ifT_f (ifT_d (fun h2 => ifT_d (fun _ => stay) fun _ => ?_) fun h2 => ?_)
    · -- Truncate
      refine ⟨_, hav.rd.len', _, rem_eq (by rw [wi_eq (by omega) (by omega)]; omega), _, hav.rd.len', ?_⟩
      rw [htd, wi_eq (x := (all.length : Int) + 1) (by omega) (by omega), show Int.tmod ((N / 7 : Nat) : Int) ((all.length : Int) + 1) = ((N / 7 % (all.length + 1) : Nat) : Int) from rfl]
      have hmm : N / 7 % (all.length + 1) < all.length + 1 := Nat.mod_lt _ (by omega)
      generalize N / 7 % (all.length + 1) = m at *
      refine ifT_d (fun _ => stay) fun hml => ?_
      have hml : m < all.length := by omega
      have hmt : ∀ t ∈ all.take m, t.length ≤ 199 := fun t ht => hsz t (List.mem_of_mem_take ht)
      have hlt := cat_lt hml
      obtain ⟨c1, c2⟩ := cat_ends all (h64 hsz) (Nat.le_of_lt hml)
      have hcp := cat_pre all m
      have hlm : (all.take m).length = m := by rw [List.length_take]; omega
      obtain ⟨d106, e106, hp, hddp, hlvp⟩ := lv_trim hnm hL hlt (by omega)
      rw [hcp] at hp hlvp
      refine s22 (m := m) hh h79 hbv hsv (by omega) (by omega) (by rw [c2]; omega) (by omega) h27 fun i107 w107 bv7 ev7 ef7 eo7 h107 x107 hbv7 hsv7 => ⟨_, rfl, ?_⟩
      rw [c2, hcp] at h107 x107 hbv7 ⊢
      rw [c1] at hsv7
      rw [hp] at h107 x107 hbv7 ⊢
      simp only at h107 x107 hbv7 ⊢
      have hav107 := hav.x x107 h79.ow
      by_cases he : e106 = 0
      · subst he
        rw [show decide ((0 : Int) ≠ 0) = false from rfl] at h107 x107 hbv7 hav107
        refine ifT_t ?_
        obtain ⟨v9, hc9, hav9⟩ := hav107.cut hml
        refine onM_s hc9 ?_
        have hl := hlvp rfl
        rw [show imin ((m : Nat) : Int) ((m : Nat) : Int) = ((m : Nat) : Int) by unfold imin; split <;> rfl]
        exact go i107 d106 v9 (all.take m) m bv7 ev7 false ef7 eo7 w107 h107 (x79.trans' x107) hav9 (Nat.le_of_eq hlm.symm) hmt (by rw [hlm]; omega) (by rw [List.take_of_length_le (Nat.le_of_eq hlm)]; exact hl.dd) fun _ => ⟨by rw [List.take_of_length_le (Nat.le_of_eq hlm)]; exact hl, hbv7, hsv7⟩
      · rw [show decide (e106 ≠ 0) = true by simp [he]] at h107 x107 hav107
        refine ifT_d (fun h => absurd h he) fun _ => ?_
        have hmin : imin ((sy : Nat) : Int) ((m : Nat) : Int) = ((min sy m : Nat) : Int) := by
          unfold imin
          split <;> omega
        rw [hmin]
        refine go i107 d106 av all (min sy m) bv7 ev7 true ef7 eo7 w107 h107 (x79.trans' x107) hav107 (by omega) hsz (by omega) (hddp.le ?_) fun h => by cases h
        have g1 := cat_mono all (Nat.min_le_left sy m)
        have g2 := cat_mono all (Nat.min_le_right sy m)
        omega
    · -- Append
      rw [htd]
      refine (show ∀ {K : Int → Prop} {x : Int}, K x → be x K from fun h => h) ?_
      rw [show Int.tmod ((N / 7 : Nat) : Int) 200 = ((N / 7 % 200 : Nat) : Int) from rfl]
      have hy200 : N / 7 % 200 < 200 := Nat.mod_lt _ (by omega)
      generalize N / 7 % 200 = y at *
      refine s25 hh h79.ow.mem h79.ow.P0.pos (by omega) fun body w112 f112 b112 hbl => ?_
      obtain ⟨h112, x112⟩ := h79.fr f112
      have hnew := h79.ow.P.new w96.size (Nat.le_refl _)
      have hbody : (rL rU).rd (fz T1 (dkU D i [(S1, .row (segC D [115] bv ev false)), (ef, eo), (b22, .row row)])) w112 [.slice w96.size 0 y y none] body := Box.sl b112 hnew hbl.symm (Chk.bytes.2 rfl)
      have hav112 := hav.x x112 h79.ow
      have ecst : ((ends (cat all)).map fun n : Nat => ((n : Nat) : Int)).map (AV.int .i64) = cst (ends (cat all)) := by unfold cst; rw [List.map_map]; rfl
      have hcs : cat (all ++ [body]) = cat all ++ frame body := cat_snoc _ _
      have hsz' : ∀ t ∈ all ++ [body], t.length ≤ 199 := fun t ht => by
        rcases List.mem_append.1 ht with ht | ht
        · exact hsz t ht
        · simp at ht; subst ht; omega
      have htk : (all ++ [body]).take sy = all.take sy := List.take_append_of_le_length hsy
      obtain ⟨d113, e113, hp, hddp, hlvp⟩ := lv_app hnm (t := body) hL (by omega)
      refine s16 (body := body) (es := (ends (cat all)).map fun n : Nat => ((n : Nat) : Int)) hh h112 (hbv.x x112) (by rw [ecst]; exact hsv) (fun w' _ _ _ hd hx => (hbody.x hx).rsB) (by omega) (by omega) (by simp; omega) h27 (fun h0 i114 w114 bv4 ev4 ef4 eo4 h114 x114 hbv4 hsv4 => ?_) (fun h0 i114 w114 h114 x114 => ?_)
      · rw [hp] at h0 h114
        simp only at h0 h114
        subst h0
        have hl := hlvp rfl
        have hav114 := hav112.x x114 h112.ow
        have hb114 := hbody.x x114
        have hel : ((ends (cat all)).map fun n : Nat => ((n : Nat) : Int)).length = all.length := by rw [List.length_map]; exact t1
        refine ⟨_, _, rfl, join_of (fun l w118 => l = [] ∧ w118 = w114) ?_ fun J9 hJ9 => ifT_t ⟨_, hav114.rd.len', ifT_nd (fun h => absurd (by rw [hel]) h) fun _ => hJ9 _ _ ⟨rfl, rfl⟩⟩⟩
        rintro l w118 ⟨rfl, rfl⟩
        refine ⟨rfl, fun _ => ifT_t (gd_t rfl (h114.new' fun b120 w121 h121 x121 => ?_))⟩
        have hb120 : Box w121 b120 [.slice w96.size 0 y y none] := (h121.ow.box (b120, .row [.slice w96.size 0 y y none]) (nth_mem (i := 6) rfl) rfl).1
        refine AllV.app h121 (hav114.x x121 h114.ow) hb120 (hb114.x x121) (by omega) fun v9 w123 h123 x123 hav123 => ?_
        obtain ⟨h124, x124, _⟩ := h123.drop
        refine go i114 d113 v9 (all ++ [body]) sy bv4 ev4 false ef4 eo4 w123 h124 (((((x79.trans' x112).trans' x114).trans' x121).trans x123).trans' x124) (hav123.x x124 h123.ow) (by simp; omega) hsz' (by simp; omega) (by rw [hcs, htk]; exact hl.dd) fun _ => ⟨by rw [hcs, htk]; exact hl, by rw [hcs]; exact (((hbv4.x x121).y x123).x x124), ?_⟩
        rw [hcs, ends_app (by omega) t2]
        have e9 : ((ends (cat all)).map (fun n : Nat => ((n : Nat) : Int)) ++ [((cat all ++ frame body).length : Int)]).map (AV.int .i64) = cst (ends (cat all) ++ [(cat all ++ frame body).length]) := by
          unfold cst; rw [List.map_append, List.map_append, List.map_map]; rfl
        rw [← e9]; exact hsv4
      · rw [hp] at h0 h114 ⊢
        simp only at h0 h114 ⊢
        have hav114 := hav112.x x114 h112.ow
        have hb114 := hbody.x x114
        refine ⟨_, _, rfl, join_of (fun l w118 => l = [] ∧ w118 = w114) ?_ fun J9 hJ9 => ifT_d (fun h => absurd h h0) fun _ => hJ9 _ _ ⟨rfl, rfl⟩⟩
        rintro l w118 ⟨rfl, rfl⟩
        refine ⟨rfl, fun _ => ifT_d (fun h => absurd h h0) fun _ => s24 (D := D) (br := true) hh (h114.ow.ld 6 rfl rfl) (h114.ow.ld 6 rfl rfl) ⟨_, rfl, ifT_t (gd_t rfl (h114.new' fun b120 w121 h121 x121 => ?_))⟩⟩
        have hb120 : Box w121 b120 [.slice w96.size 0 y y none] := (h121.ow.box (b120, .row [.slice w96.size 0 y y none]) (nth_mem (i := 6) rfl) rfl).1
        refine AllV.app h121 (hav114.x x121 h114.ow) hb120 (hb114.x x121) (by omega) fun v9 w123 h123 x123 hav123 => ?_
        obtain ⟨h124, x124, _⟩ := h123.drop
        exact go i114 d113 v9 (all ++ [body]) sy bv ev true ef eo w123 h124 (((((x79.trans' x112).trans' x114).trans' x121).trans x123).trans' x124) (hav123.x x124 h123.ow) (by simp; omega) hsz' (by simp; omega) (by rw [hcs, htk]; exact hddp) fun h => by cases h
end
end Go.Proofs.Ytdlogcincelccaa
