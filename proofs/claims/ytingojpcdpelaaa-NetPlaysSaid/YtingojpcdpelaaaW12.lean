/-
  Lists and copies of the net, and the document's net, over memory.
  No condition beyond those that each theorem names.
-/
import Derived.Test.YtingojpcdpelaaaV12
import Derived.Test.YtingojpcdpelaaaSxv
import Derived.Test.YtingojpcdpelaaaSxr
set_option linter.unusedSimpArgs false
open Go.Sx
set_option linter.unusedVariables false
namespace Go.Proofs.Ytingojpcdpelaaa

section
variable {hk : Hook} {A B : Nat → Prop} {I : List Nat} {w0 w : AW} {b r : Nat} {L : Obs} {N : List Pk} {last n p1 p2 p3 : Int} {es : List (AV × AV)} {v u : AV} {s t : List UInt8} {K : AV → AW → Prop}

theorem look_at {N : List Pk} (h : (N.map Pk.num).Pairwise (· < ·)) {i : Nat} (hi : i < N.length) : look N N[i].num = some N[i] := by
  unfold look
  rw [List.find?_eq_some_iff_getElem]
  refine ⟨by simp, i, hi, rfl, fun j hj => ?_⟩
  have hlt := List.pairwise_iff_getElem.1 h j i (by simp; omega) (by simp; omega) hj
  simp at hlt
  simp; omega

/-- List. -/
theorem s14 (hh : HK hk) (h : Nt A I w0 w b r N last es L) (hl : last < 2 ^ 60) (hK : ∀ v w', Nt A I w0 w' b r N last es L → Xt (b :: r :: ids L) w (b :: r :: ids L) w' → (rL rPk).rd (nb A b r L) w' [v] N → K v w') : Cl Try.prog hk 14 [.ptr b 0] w K := by
  apply in14 (hh.no _ _ _ (by decide) (by decide))
  unfold F14
  obtain ⟨st00, hE, hI⟩ := h
  have st := st00.restart
  have hcap := hI.cap
  refine s31 hh (st.ld 0 rfl rfl) ⟨_, rfl, ifT_f (onM_s (st.ld 0 rfl rfl) ?_)⟩
  refine in36 (hh.no _ _ _ (by decide) (by decide)) (gd_t rfl (st.new' fun bk w8 st8 e8 => ?_))
  have hE8 : EnR Pk.num rPk (fz A (bk :: b :: r :: ids L)) w8 es N := (by repeat (first | assumption | refine EnR.x ?_ ‹Xt _ _ _ _› | refine EnR.y ?_ ‹Xw _ _ _ _›))
  obtain ⟨v10, w10, hs10, f10, hr10⟩ := st8.sorted (fS := 35) (fK := 44) (i := 0) (j := 2) rfl rfl hE8 (fun x hx => by have := hI.low x hx; omega) hI.rise (by omega)
  refine Cl_hook (hh.sorted _ _ _ hs10) ⟨_, hr10.len', ?_⟩
  obtain ⟨st10, e10⟩ := st8.call f10
  have hE10 : EnR Pk.num rPk (fz A (bk :: b :: r :: ids L)) w10 es N := (by repeat (first | assumption | refine EnR.x ?_ ‹Xt _ _ _ _› | refine EnR.y ?_ ‹Xw _ _ _ _›))
  have hel : (N.map Pk.num).length = N.length := by simp
  refine loopP_ind (fun m lv w' => ∃ (i : Nat) (out : AV), i ≤ N.length ∧ m = N.length - i ∧ lv = [out, .int .i64 i] ∧ Ow A (b :: r :: ids L) w w' ((bk, .row [.map r]) :: (b, .row [.map r, .int .i64 last]) :: (r, .map es) :: L) ∧ Xw (bk :: b :: r :: ids L) w10 (bk :: b :: r :: ids L) w' ∧ Ga rPk (fz A (bk :: b :: r :: ids L)) w w' out (N.take i)) ?_
    ⟨0, .nilslice, Nat.zero_le _, rfl, rfl, st10, Xw.refl, Ga.nil⟩
  rintro m lv w14 ⟨i, out, hi, rfl, rfl, st14, e14, hg14⟩ R ih
  have hr14 : (rL rI).rd (fz A (bk :: b :: r :: ids L)) w14 [v10] (N.map Pk.num) := hr10.y e14
  have hE14 : EnR Pk.num rPk (fz A (bk :: b :: r :: ids L)) w14 es N := hE10.y e14
  refine ⟨_, _, rfl, fun _ => ifT_d (fun hc => ?_) fun hc => ?_⟩
  · have hil : i < N.length := by rw [hel] at hc; omega
    refine hr14.rsI.atN (by rw [hel]; exact hil) fun bb oo hld => ⟨_, hld, onM_s (st14.ld 1 rfl rfl) ?_⟩
    rw [List.getElem_map]
    have hlk := Ents.look N[i].num hE14
    have hfind : N.find? (fun x => decide (x.num = N[i].num)) = some N[i] := look_at hI.rise hil
    rw [hfind] at hlk
    obtain ⟨v0, hv0, cs, rfl, v, rfl, hv⟩ := hlk
    have hls := st14.look (z := .agg [.int .i64 0, .int .i64 0, .int .i64 0, .nilslice]) (ok := false) 2 rfl (Ents.like N[i].num hE14)
    rw [hv0] at hls
    refine ⟨_, _, _, _, hls, st14.new' fun b27 w28 st28 e28 => gd_t (by simp only [List.all_cons, List.all_nil, hv.ok1]; rfl) (st28.put 0 rfl (by simp) fun w29 st29 e29 => onM_s (st29.ld 0 rfl rfl) ?_)⟩
    have hx29 : (rL rU).rd (fz A (b27 :: bk :: b :: r :: ids L)) w29 [v] N[i].body := (by repeat (first | assumption | refine Rp.rd.x ?_ ‹Xt _ _ _ _› | refine Rp.rd.y ?_ ‹Xw _ _ _ _›))
    refine s34 hh st29.P hx29 (hI.body _ (List.getElem_mem hil)) fun v' w32 f32 hv' => gd_t hv'.ok1 ?_
    obtain ⟨st32, e32⟩ := st29.call f32
    refine st32.put 0 rfl (by simp [listPut]) fun w33 st33 e33 => ⟨_, _, _, _, st33.ldN 0 rfl rfl rfl, gd_t (by simp only [List.all_cons, List.all_nil, hv'.ok1]; rfl) (st33.new' fun b38 w39 st39 e39 => ?_)⟩
    obtain ⟨st40, e40, hA40, hb40⟩ := st39.drop
    obtain ⟨st41, e41, _⟩ := st40.drop
    have hv40 : (rL rU).rd (fz A (b27 :: bk :: b :: r :: ids L)) w39 [v'] N[i].body := (by repeat (first | assumption | refine Rp.rd.x ?_ ‹Xt _ _ _ _› | refine Rp.rd.y ?_ ‹Xw _ _ _ _›))
    have hx : (rL rPk).rd (fz A (b27 :: bk :: b :: r :: ids L)) w39 [.slice b38 0 1 1 none] [N[i]] := Box.rd1 hb40 hA40 ⟨v', rfl, hv40⟩
    have hx' : (rL rPk).rd (fz A (bk :: b :: r :: ids L)) w39 [.slice b38 0 1 1 none] [N[i]] := hx.x e41
    have hg39 : Ga rPk (fz A (bk :: b :: r :: ids L)) w w39 out (N.take i) := (by repeat (first | assumption | refine Ga.x ‹Xt _ _ _ _› ‹Ow _ _ _ _ _› ?_))
    refine Ow.app st41 hg39 hx' (by decide) st41.new (by simp; omega) (by simp; omega) fun out' w41 st42 e42 hg42 => ?_
    refine ih (N.length - (i + 1)) (by omega) _ _ ⟨i + 1, out', hil, rfl, by rw [wi_eq (by omega) (by omega)]; rfl, st42, (by repeat (first | assumption | exact Xw.refl | refine Xw.trans' ?_ ‹Xt _ _ _ _› | refine Xw.trans ?_ ‹Xw _ _ _ _›)), by rw [← List.take_append_getElem hil]; exact hg42⟩
  · have : i = N.length := by rw [hel] at hc; omega
    subst this
    obtain ⟨st15, e15, _⟩ := st14.drop
    rw [List.take_length] at hg14
    have hr := (hg14.rd (by decide)).x e15
    have ew : Xw (b :: r :: ids L) w (b :: r :: ids L) w14 := ((e8.xw.trans e10.xw).trans e14).trans e15.xw
    exact hK _ _ ⟨st00.resume st15, (hE14.x e15), hI⟩ (Ow.xt (L := (b, .row [.map r, .int .i64 last]) :: (r, .map es) :: L) (L' := (b, .row [.map r, .int .i64 last]) :: (r, .map es) :: L) st15 ew fun _ _ h => h) hr

set_option maxRecDepth 100000 in
/-- maps.Clone. -/
theorem s41 (hh : HK hk) (st : Ow A I w0 w L) {i : Nat} (hi : nth L i = some (r, .map es)) (hK : ∀ m w', Ow A I w0 w' ((m, .map es) :: L) → Xt (ids L) w (m :: ids L) w' → K (.map m) w') : Cl Try.prog hk 41 [.map r] w K := by
  apply in41 (hh.no _ _ _ (by decide) (by decide))
  unfold F41
  obtain ⟨cl, hg⟩ := (st.box _ (nth_mem hi)).1
  obtain ⟨a, e⟩ := st.push (p := (w.size, .map es)) (Fr.push st.mem (o := .map es 0) fun cs f own d e => by cases e) rfl ⟨0, by simp⟩
  exact ⟨false, by kernel_rfl, ifT_f (Cl_ext (hh.no _ _ _ (by decide) (by decide)) Try.func45 rfl (ext_clone hg) (onM_s (v := .map w.size) (by kernel_rfl) (hK _ _ a e)))⟩
/-- Copy. -/
theorem s30 (hh : HK hk) (h : Nt A I w0 w b r N last es L) (hK : ∀ b' r' w', Ow A I w0 w' ((b', .row [.map r', .int .i64 last]) :: (r', .map es) :: (b, .row [.map r, .int .i64 last]) :: (r, .map es) :: L) → Xt (b :: r :: ids L) w (b' :: r' :: b :: r :: ids L) w' → K (.ptr b' 0) w') : Cl Try.prog hk 30 [.ptr b 0] w K := by
  apply in30 (hh.no _ _ _ (by decide) (by decide))
  unfold F30
  obtain ⟨st, hE, hI⟩ := h
  refine s31 hh (st.ld 0 rfl rfl) ⟨_, rfl, ifT_f (onM_s (st.ld 0 rfl rfl) ⟨_, st.ld 0 rfl rfl, ?_⟩)⟩
  refine s41 hh st (i := 1) rfl fun m w11 st11 e11 => gd_t rfl (gd_t rfl (st11.new' fun b12 w13 st13 e13 => ⟨st13.ld 2 rfl rfl, hK _ _ _ st13 (e11.trans e13)⟩))

/-- SameBytes. -/
theorem s17 (hh : HK hk) (h : (rL rU).rd A w [v] s) (h' : (rL rU).rd B w [u] t) (hK : K (.bool (s == t)) w) : Cl Try.prog hk 17 [v, u] w K := by
  apply in17 (hh.no _ _ _ (by decide) (by decide))
  exact ⟨_, h.rsB.str, _, h'.rsB.str, hK⟩
/-- A packet in a list. -/
theorem pk_at (h : (rL rPk).rd A w [v] N) {i : Nat} (hi : i < N.length) {K : Nat → Nat → Prop} (hK : ∀ b o v1, ld w b (o + 0) = some (.int .i64 N[i].num) → ld w b (o + 1) = some (.int .i64 N[i].src) → ld w b (o + 2) = some (.int .i64 N[i].dst) → ld w b (o + 3) = some v1 → (rL rU).rd A w [v1] N[i].body →
    ldN 4 w b o = some (.agg [.int .i64 N[i].num, .int .i64 N[i].src, .int .i64 N[i].dst, v1]) → K b o) : atP (idxS 4 v (.int .i64 (i : Int))) K :=
  h.at hi fun b o cs hc hf hn => by
    obtain ⟨v1, rfl, hv1⟩ := hc
    exact hK b o v1 (hf 0 (by decide)) (hf 1 (by decide)) (hf 2 (by decide)) (hf 3 (by decide)) hv1 hn
/-- SamePackets, of the same. -/
theorem s28 (hh : HK hk) (h : (rL rPk).rd A w [v] N) (h' : (rL rPk).rd B w [u] N) (hN : N.length < 2 ^ 40) (hK : K (.bool true) w) : Cl Try.prog hk 28 [v, u] w K := by
  apply in28 (hh.no _ _ _ (by decide) (by decide))
  unfold F28
  refine ⟨_, h.len', _, h'.len', ifT_nd (fun h => absurd rfl h) fun _ => ?_⟩
  refine loopP_ind (fun m lv w' => ∃ i : Nat, i ≤ N.length ∧ m = N.length - i ∧ lv = [.int .i64 i] ∧ w' = w) ?_ ⟨0, Nat.zero_le _, rfl, rfl, rfl⟩
  rintro m lv w6 ⟨i, hi, rfl, rfl, rfl⟩ R ih
  refine ⟨_, rfl, fun _ => ⟨_, h.len', ifT_d (fun hc => ?_) fun hc => hK⟩⟩
  have hil : i < N.length := by omega
  refine pk_at h hil fun b1 o1 v1 g10 g11 g12 g13 hv1 _ => ⟨_, g10, ?_⟩
  refine pk_at h' hil fun b2 o2 v2 g20 g21 g22 g23 hv2 _ => ⟨_, g20, ifT_nd (fun h => absurd rfl h) fun _ => ?_⟩
  refine pk_at h hil fun b1 o1 v1 g10 g11 g12 g13 hv1 _ => ⟨_, g11, ?_⟩
  refine pk_at h' hil fun b2 o2 v2 g20 g21 g22 g23 hv2 _ => ⟨_, g21, ifT_nd (fun h => absurd rfl h) fun _ => ?_⟩
  refine pk_at h hil fun b1 o1 v1 g10 g11 g12 g13 hv1 _ => ⟨_, g12, ?_⟩
  refine pk_at h' hil fun b2 o2 v2 g20 g21 g22 g23 hv2 _ => ⟨_, g22, ifT_nd (fun h => absurd rfl h) fun _ => ?_⟩
  refine pk_at h hil fun b1 o1 v1 g10 g11 g12 g13 hv1 _ => onM_s g13 ?_
  refine pk_at h' hil fun b2 o2 v2 g20 g21 g22 g23 hv2 _ => onM_s g23 ?_
  refine s17 hh hv1 hv2 ⟨_, rfl, ?_⟩
  rw [show (N[i].body == N[i].body) = true by simp]
  exact ifT_f (ih (N.length - (i + 1)) (by omega) _ _ ⟨i + 1, hil, rfl, by rw [wi_eq (by omega) (by omega)]; rfl, rfl⟩)

/-- CopyBytes. -/
theorem s21 (hh : HK hk) (pv : Pv A w) (h : (rL rU).rd A w [v] s) (hs : s.length ≤ 140737488351232) (hK : ∀ v' w', Fr w.size w w' → (rL rU).rd A w' [v'] s → Ga rU A w w' v' s → K v' w') : Cl Try.prog hk 21 [v] w K := by
  apply in21 (hh.no _ _ _ (by decide) (by decide))
  unfold F21
  refine Ow.app (r := rU) (bytes := 1) pv.st (Ga.nil (w := w)) h.inn (by decide) pv.new (by simp; omega) (by simp; omega) fun v' w' st' e' hg' => ?_
  exact hK _ _ st'.fr (hg'.rd (by decide)).out hg'.out

/-! ### The document's net -/
def pos (N : List Pk) (n : Int) : Nat := N.findIdx fun x => decide (x.num = n)
theorem pos_none {N : List Pk} (h : ¬ pos N n < N.length) : look N n = none := by
  unfold look
  rw [List.find?_eq_none]
  intro x hx hc
  exact h (List.findIdx_lt_length_of_exists ⟨x, hx, hc⟩)
theorem pos_some {N : List Pk} (h : pos N n < N.length) : look N n = some N[pos N n] := by
  unfold look
  rw [List.find?_eq_some_iff_getElem]
  exact ⟨List.findIdx_getElem (w := h), _, h, rfl, fun j hj => by simpa using List.not_of_lt_findIdx hj⟩
theorem pos_del {N : List Pk} (hr : (N.map Pk.num).Pairwise (· < ·)) (h : pos N n < N.length) : del N n = N.take (pos N n) ++ N.drop (pos N n + 1) := by
  have hp := List.findIdx_getElem (w := h)
  have hp : decide (N[pos N n].num = n) = true := hp
  have e : N = N.take (pos N n) ++ N[pos N n] :: N.drop (pos N n + 1) := by
    rw [← List.drop_eq_getElem_cons h, List.take_append_drop]
  have hn : N[pos N n].num = n := of_decide_eq_true hp
  have hnd := nodup_of hr
  conv => lhs; rw [e]
  rw [e, List.map_append, List.map_cons] at hnd
  have h1 := List.nodup_append.1 hnd
  unfold del
  rw [List.filter_append, List.filter_cons]
  simp only [hp, Bool.not_true, Bool.false_eq_true, if_false]
  rw [List.filter_eq_self.2, List.filter_eq_self.2]
  · intro x hx
    have := (List.nodup_cons.1 h1.2.1).1
    have : x.num ≠ N[pos N n].num := fun e => this (by rw [← e]; exact List.mem_map_of_mem hx)
    simp; omega
  · intro x hx
    have := h1.2.2 x.num (List.mem_map_of_mem hx) N[pos N n].num List.mem_cons_self
    simp; omega
/-- find. -/
theorem s40 (hh : HK hk) (pv : Pv A w) (h : (rL rPk).rd A w [v] N) (hN : N.length < 2 ^ 40) (hK : ∀ w', Fr w.size w w' → K (.int .i64 (if pos N n < N.length then (pos N n : Int) else -1)) w') : Cl Try.prog hk 40 [.agg [v, .int .i64 last], .int .i64 n] w K := by
  apply in40 (hh.no _ _ _ (by decide) (by decide))
  unfold F40
  refine gd_t (by simp only [List.all_cons, List.all_nil, h.ok1]; rfl) (pv.st.new' fun b3 w4 st4 e4 => ?_)
  have h4 := h.inn.x e4
  refine loopP_ind (fun m lv w' => ∃ i : Nat, i ≤ N.length ∧ m = N.length - i ∧ lv = [.int .i64 i] ∧ w' = w4 ∧ ∀ j, j < i → ∀ hj : j < N.length, N[j].num ≠ n) ?_ ⟨0, Nat.zero_le _, rfl, rfl, rfl, by omega⟩
  rintro m lv w7 ⟨i, hi, rfl, rfl, rfl, hno⟩ R ih
  refine ⟨_, rfl, fun _ => onM_s (st4.ld 0 rfl rfl) ⟨_, h4.len', ifT_d (fun hc => ?_) fun hc => ?_⟩⟩
  · have hil : i < N.length := by omega
    refine onM_s (st4.ld 0 rfl rfl) (pk_at h4 hil fun b1 o1 v1 g10 g11 g12 g13 hv1 _ => ⟨_, g10, ifT_d (fun he => ?_) fun he => ?_⟩)
    · have hp : pos N n = i := by
        refine (List.findIdx_eq hil).2 ⟨by simpa using he, fun j hj => by have := hno j hj (by omega); simpa using this⟩
      have := hK _ st4.fr
      rw [hp, if_pos hil] at this
      exact this
    · refine ih (N.length - (i + 1)) (by omega) _ _ ⟨i + 1, hil, rfl, by rw [wi_eq (by omega) (by omega)]; rfl, rfl, fun j hj hj' => ?_⟩
      by_cases hji : j = i
      · subst hji; exact he
      · exact hno j (by omega) hj'
  · have : i = N.length := by omega
    have hp : ¬ pos N n < N.length := fun h => hno _ (by omega) h (of_decide_eq_true (List.findIdx_getElem (w := h)))
    have := hK _ st4.fr
    rw [if_neg hp] at this
    exact this

/-- put. -/
theorem s39 (hh : HK hk) (pv : Pv A w) (h : (rL rPk).rd A w [v] N) (hx : (rL rU).rd A w [u] s) (hN : N.length < 2 ^ 20) (hs : s.length < 2 ^ 40) (hl : last < 2 ^ 60) (h0 : 0 ≤ last)
    (hfull : 256 ≤ N.length → ∀ w', Fr w.size w w' → K (.tup [.agg [v, .int .i64 last], .int .i64 0, .int .i64 5]) w')
    (hK : N.length < 256 → ∀ v' w', Fr w.size w w' → (rL rPk).rd A w' [v'] (N ++ [⟨last + 1, p2, p3, s⟩]) → K (.tup [.agg [v', .int .i64 (last + 1)], .int .i64 (last + 1), .int .i64 0]) w') :
    Cl Try.prog hk 39 [.agg [v, .int .i64 last], .agg [.int .i64 p1, .int .i64 p2, .int .i64 p3, u]] w K := by
  apply in39 (hh.no _ _ _ (by decide) (by decide))
  unfold F39
  refine gd_t (by simp only [List.all_cons, List.all_nil, h.ok1]; rfl) (pv.st.new' fun b6 w7 st7 e7 => gd_t (by simp only [List.all_cons, List.all_nil, hx.ok1]; rfl) (st7.new' fun b8 w9 st9 e9 => st9.new' fun b10 w11 st11 e11 => ?_))
  have hv := h.inn
  have hu := hx.inn
  have h11 : (rL rPk).rd (fz A [b10, b8, b6]) w11 [v] N := (by repeat (first | assumption | refine Rp.rd.x ?_ ‹Xt _ _ _ _› | refine Rp.rd.y ?_ ‹Xw _ _ _ _›))
  refine onM_s (st11.ld 2 rfl rfl) ⟨_, h11.len', ifT_d (fun hc => ?_) fun hc => ?_⟩
  · refine ⟨_, _, st11.ldN 2 rfl rfl rfl, gd_t (by simp only [List.all_cons, List.all_nil, h.ok1]; rfl) (st11.put 0 rfl (by simp) fun w16 st16 e16 => ⟨_, _, st16.ldN 0 rfl rfl rfl, hfull (by omega) _ st16.fr⟩)⟩
  refine ⟨_, st11.ld 2 rfl rfl, ?_⟩
  rw [wi_eq (by omega) (by omega)]
  refine st11.put 2 rfl (by simp) fun w20 st20 e20 => ⟨_, st20.ld 2 rfl rfl, st20.put 1 rfl (by simp) fun w22 st22 e22 => onM_s (st22.ld 1 rfl rfl) ?_⟩
  refine s21 (s := s) hh st22.P (by repeat (first | assumption | refine Rp.rd.x ?_ ‹Xt _ _ _ _› | refine Rp.rd.y ?_ ‹Xw _ _ _ _›)) (by omega) fun r24 w25 f25 hr25 _ => gd_t hr25.ok1 ?_
  obtain ⟨st25, e25⟩ := st22.call f25
  refine st25.put 1 rfl (by simp [listPut]) fun w26 st26 e26 => onM_s (st26.ld 2 rfl rfl) ?_
  have h26 : (rL rPk).rd (fz A [b10, b8, b6]) w26 [v] N := (by repeat (first | assumption | refine Rp.rd.x ?_ ‹Xt _ _ _ _› | refine Rp.rd.y ?_ ‹Xw _ _ _ _›))
  refine Ow.app (r := rPk) (bytes := 48) st26 Ga.nil h26 (by decide) st26.new (by simp; omega) (by simp; omega) fun l28 w29 st29 e29 hg29 => ?_
  have hr29 : (rL rU).rd (fz A [b10, b8, b6]) w29 [r24] s := (by repeat (first | assumption | refine Rp.rd.x ?_ ‹Xt _ _ _ _› | refine Rp.rd.y ?_ ‹Xw _ _ _ _›))
  refine ⟨_, _, _, _, st29.ldN 1 rfl rfl rfl, gd_t (by simp only [List.all_cons, List.all_nil, hr25.ok1]; rfl) (st29.new' fun b34 w35 st35 e35 => ?_)⟩
  obtain ⟨st36, e36, hA36, hb36⟩ := st35.drop
  have hr36 : (rL rU).rd (fz A [b10, b8, b6]) w35 [r24] s := (by repeat (first | assumption | refine Rp.rd.x ?_ ‹Xt _ _ _ _› | refine Rp.rd.y ?_ ‹Xw _ _ _ _›))
  have hone : (rL rPk).rd (fz A [b10, b8, b6]) w35 [.slice b34 0 1 1 none] [⟨last + 1, p2, p3, s⟩] := Box.rd1 hb36 hA36 ⟨r24, rfl, hr36⟩
  have hg35 : Ga rPk (fz A [b10, b8, b6]) w w35 l28 ([] ++ N) := (by repeat (first | assumption | refine Ga.x ‹Xt _ _ _ _› ‹Ow _ _ _ _ _› ?_))
  refine Ow.app (r := rPk) (bytes := 48) st36 hg35 hone (by decide) st36.new (by simp; omega) (by simp; omega) fun v' w37 st37 e37 hg37 => gd_t (hg37.rd (by decide)).ok1 ?_
  refine st37.put 2 rfl (by simp [listPut]) fun w38 st38 e38 => ⟨_, _, st38.ldN 2 rfl rfl rfl, _, st38.ld 2 rfl rfl, gd_t (by simp only [List.all_cons, List.all_nil, (hg37.rd (by decide)).ok1]; rfl) (st38.put 0 rfl (by simp) fun w42 st42 e42 => ⟨st42.ld 2 rfl rfl, _, _, st42.ldN 0 rfl rfl rfl, ?_⟩)⟩
  have hres := hg37.rd (by decide)
  have hres' : (rL rPk).rd (fz A [b10, b8, b6]) w42 [v'] ([] ++ N ++ [⟨last + 1, p2, p3, s⟩]) := (by repeat (first | assumption | refine Rp.rd.x ?_ ‹Xt _ _ _ _› | refine Rp.rd.y ?_ ‹Xw _ _ _ _›))
  exact hK (by omega) _ _ st42.fr hres'.out
/-- Send. -/
theorem s23 (hh : HK hk) (pv : Pv A w) (h : (rL rPk).rd A w [v] N) (hx : (rL rU).rd A w [u] s) (hN : N.length < 2 ^ 20) (hl : last < 2 ^ 60) (h0 : 0 ≤ last)
    (hlong : 65545 < s.length → ∀ w', Fr w.size w w' → K (.tup [.agg [v, .int .i64 last], .int .i64 0, .int .i64 3]) w')
    (hfull : s.length ≤ 65545 → 256 ≤ N.length → ∀ w', Fr w.size w w' → K (.tup [.agg [v, .int .i64 last], .int .i64 0, .int .i64 5]) w')
    (hK : s.length ≤ 65545 → N.length < 256 → ∀ v' w', Fr w.size w w' → (rL rPk).rd A w' [v'] (N ++ [⟨last + 1, p2, p3, s⟩]) → K (.tup [.agg [v', .int .i64 (last + 1)], .int .i64 (last + 1), .int .i64 0]) w') :
    Cl Try.prog hk 23 [.agg [v, .int .i64 last], .int .i64 p2, .int .i64 p3, u] w K := by
  apply in23 (hh.no _ _ _ (by decide) (by decide))
  unfold F23
  refine gd_t (by simp only [List.all_cons, List.all_nil, h.ok1]; rfl) (pv.st.new' fun b6 w7 st7 e7 => st7.new' fun b7 w8 st8 e8 => ⟨_, hx.len', ifT_d (fun hc => ?_) fun hc => ?_⟩)
  · exact ⟨_, _, st8.ldN 1 rfl rfl rfl, gd_t (by simp only [List.all_cons, List.all_nil, h.ok1]; rfl) (st8.put 0 rfl (by simp) fun w16 st16 e16 => ⟨_, _, st16.ldN 0 rfl rfl rfl, hlong (by omega) _ st16.fr⟩)⟩
  have hv := h.inn
  have hu := hx.inn
  refine ⟨_, _, st8.ldN 1 rfl rfl rfl, gd_t hx.ok1 ?_⟩
  refine s39 (N := N) (s := s) hh st8.P (by repeat (first | assumption | refine Rp.rd.x ?_ ‹Xt _ _ _ _› | refine Rp.rd.y ?_ ‹Xw _ _ _ _›)) (by repeat (first | assumption | refine Rp.rd.x ?_ ‹Xt _ _ _ _› | refine Rp.rd.y ?_ ‹Xw _ _ _ _›)) hN (by omega) hl h0 (fun hc w18 f18 => ?_) fun hc v' w18 f18 hv' => ?_
  · obtain ⟨st18, e18⟩ := st8.call f18
    exact ⟨_, _, _, _, rfl, gd_t (by simp only [List.all_cons, List.all_nil, h.ok1]; rfl) (st18.put 0 rfl (by simp) fun w16 st16 e16 => ⟨_, _, st16.ldN 0 rfl rfl rfl, hfull (by omega) hc _ st16.fr⟩)⟩
  · obtain ⟨st18, e18⟩ := st8.call f18
    refine ⟨_, _, _, _, rfl, gd_t (by simp only [List.all_cons, List.all_nil, hv'.ok1]; rfl) (st18.put 0 rfl (by simp) fun w16 st16 e16 => ⟨_, _, st16.ldN 0 rfl rfl rfl, ?_⟩)⟩
    have hv16 : (rL rPk).rd (fz A [b7, b6]) w16 [v'] (N ++ [⟨last + 1, p2, p3, s⟩]) := (by repeat (first | assumption | refine Rp.rd.x ?_ ‹Xt _ _ _ _› | refine Rp.rd.y ?_ ‹Xw _ _ _ _›))
    exact hK (by omega) hc _ _ st16.fr hv16.out
end
end Go.Proofs.Ytingojpcdpelaaa
