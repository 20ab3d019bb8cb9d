/-
  The document's net: what is delivered and doubled; bytes that are lent.
  No condition beyond those that each theorem names.
-/
import Derived.Test.YtingojpcdpelaaaW12
set_option linter.unusedSimpArgs false
open Go.Sx
set_option linter.unusedVariables false
namespace Go.Proofs.Ytingojpcdpelaaa

section
variable {hk : Hook} {A B : Nat → Prop} {I : List Nat} {w0 w : AW} {L : Obs} {N : List Pk} {last n p1 p2 p3 : Int} {v u : AV} {s t : List UInt8} {K : AV → AW → Prop}

/-- Deliver. -/
theorem s27 (hh : HK hk) (pv : Pv A w) (h : (rL rPk).rd A w [v] N) (hr : (N.map Pk.num).Pairwise (· < ·)) (hN : N.length < 2 ^ 20)
    (hno : look N n = none → ∀ w', Fr w.size w w' → K (.tup [.agg [v, .int .i64 last], .agg zeroC, .int .i64 100]) w')
    (hK : ∀ x, look N n = some x → ∀ v' u' w', Fr w.size w w' → (rL rPk).rd A w' [v'] (del N n) → (rL rU).rd A w' [u'] x.body → K (.tup [.agg [v', .int .i64 last], .agg [.int .i64 x.num, .int .i64 x.src, .int .i64 x.dst, u'], .int .i64 0]) w') :
    Cl Try.prog hk 27 [.agg [v, .int .i64 last], .int .i64 n] w K := by
  apply in27 (hh.no _ _ _ (by decide) (by decide))
  unfold F27
  refine gd_t (by simp only [List.all_cons, List.all_nil, h.ok1]; rfl) (pv.st.new' fun b3 w4 st4 e4 => st4.new' fun b5 w6 st6 e6 => st6.new' fun b7 w8 st8 e8 => ⟨_, _, st8.ldN 2 rfl rfl rfl, ?_⟩)
  have hv := h.inn
  refine s40 (N := N) hh st8.P (by repeat (first | assumption | refine Rp.rd.x ?_ ‹Xt _ _ _ _› | refine Rp.rd.y ?_ ‹Xw _ _ _ _›)) (by omega) fun w12 f12 => ⟨_, rfl, ?_⟩
  obtain ⟨st12, e12⟩ := st8.call f12
  have h12 : (rL rPk).rd (fz A [b7, b5, b3]) w12 [v] N := (by repeat (first | assumption | refine Rp.rd.x ?_ ‹Xt _ _ _ _› | refine Rp.rd.y ?_ ‹Xw _ _ _ _›))
  by_cases hp : pos N n < N.length
  · rw [if_pos hp]
    refine ifT_d (fun hc => by omega) fun _ => onM_s (st12.ld 2 rfl rfl) (pk_at h12 hp fun bb oo v1 _ _ _ _ hv1 hln => ⟨_, _, _, _, hln, st12.new' fun b31 w32 st32 e32 => gd_t (by simp only [List.all_cons, List.all_nil, hv1.ok1]; rfl) (st32.put 0 rfl (by simp) fun w33 st33 e33 => onM_s (st33.ld 3 rfl rfl) ?_)⟩)
    have h33 : (rL rPk).rd (fz A [b31, b7, b5, b3]) w33 [v] N := (by repeat (first | assumption | refine Rp.rd.x ?_ ‹Xt _ _ _ _› | refine Rp.rd.y ?_ ‹Xw _ _ _ _›))
    obtain ⟨v35, hs35, h35⟩ := h33.cut (i := 0) (j := pos N n) (by omega) (by omega) (lo := none) (hi := some (.int .i64 (pos N n : Int))) (.inr ⟨rfl, rfl⟩) (.inl rfl)
    refine onM_s hs35 ?_
    refine Ow.app (r := rPk) (bytes := 48) st33 Ga.nil h35 (by decide) st33.new (by simp; omega) (by simp; omega) fun l36 w37 st37 e37 hg37 => onM_s (st37.ld 3 rfl rfl) ?_
    rw [wi_eq (by omega) (by omega)]
    have h37 : (rL rPk).rd (fz A [b31, b7, b5, b3]) w37 [v] N := (by repeat (first | assumption | refine Rp.rd.x ?_ ‹Xt _ _ _ _› | refine Rp.rd.y ?_ ‹Xw _ _ _ _›))
    obtain ⟨v39, hs39, h39⟩ := h37.cut (i := pos N n + 1) (j := N.length) (by omega) (by omega) (lo := some (.int .i64 ((pos N n + 1 : Nat) : Int))) (hi := none) (.inl rfl) (.inr ⟨rfl, rfl⟩)
    refine onM_s hs39 ?_
    refine Ow.app (r := rPk) (bytes := 48) st37 hg37 h39 (by decide) st37.new (by simp; omega) (by simp; omega) fun x40 w41 st41 e41 hg41 => gd_t (hg41.rd (by decide)).ok1 ?_
    have hd : [] ++ (N.take (pos N n)).drop 0 ++ (N.take N.length).drop (pos N n + 1) = del N n := by rw [pos_del hr hp]; simp
    rw [hd] at hg41
    have h41 := hg41.rd (by decide)
    have hv33 : (rL rU).rd (fz A [b31, b7, b5, b3]) w41 [v1] N[pos N n].body := (by repeat (first | assumption | refine Rp.rd.x ?_ ‹Xt _ _ _ _› | refine Rp.rd.y ?_ ‹Xw _ _ _ _›))
    refine st41.put 3 rfl (by simp) fun w42 st42 e42 => ⟨_, _, st42.ldN 3 rfl rfl rfl, _, _, _, _, st42.ldN 0 rfl rfl rfl, gd_t (by simp only [List.all_cons, List.all_nil, h41.ok1]; rfl) (st42.put 2 rfl (by simp) fun w49 st49 e49 => ⟨st49.ldN 0 rfl rfl rfl, gd_t (by simp only [List.all_cons, List.all_nil, hv1.ok1]; rfl) (st49.put 1 rfl (by simp) fun w50 st50 e50 => ⟨_, _, st50.ldN 2 rfl rfl rfl, _, _, _, _, st50.ldN 1 rfl rfl rfl, ?_⟩)⟩)⟩
    have r1 : (rL rPk).rd (fz A [b31, b7, b5, b3]) w50 [x40] (del N n) := (by repeat (first | assumption | refine Rp.rd.x ?_ ‹Xt _ _ _ _› | refine Rp.rd.y ?_ ‹Xw _ _ _ _›))
    have r2 : (rL rU).rd (fz A [b31, b7, b5, b3]) w50 [v1] N[pos N n].body := (by repeat (first | assumption | refine Rp.rd.x ?_ ‹Xt _ _ _ _› | refine Rp.rd.y ?_ ‹Xw _ _ _ _›))
    exact hK _ (pos_some hp) _ _ _ st50.fr r1.out r2.out
  · rw [if_neg hp]
    exact ifT_d (fun _ => ⟨_, _, st12.ldN 2 rfl rfl rfl, gd_t (by simp only [List.all_cons, List.all_nil, h.ok1]; rfl) (st12.put 1 rfl (by simp) fun w16 st16 e16 => st16.put 0 rfl (by simp) fun w17 st17 e17 => ⟨_, _, st17.ldN 1 rfl rfl rfl, _, _, _, _, st17.ldN 0 rfl rfl rfl, hno (pos_none hp) _ st17.fr⟩)⟩) fun hc => by omega

/-- Double. -/
theorem s29 (hh : HK hk) (pv : Pv A w) (h : (rL rPk).rd A w [v] N) (hN : N.length < 2 ^ 20) (hb : ∀ x ∈ N, x.body.length < 2 ^ 40) (hl : last < 2 ^ 60) (h0 : 0 ≤ last)
    (hno : look N n = none → ∀ w', Fr w.size w w' → K (.tup [.agg [v, .int .i64 last], .int .i64 0, .int .i64 100]) w')
    (hfull : ∀ x, look N n = some x → 256 ≤ N.length → ∀ w', Fr w.size w w' → K (.tup [.agg [v, .int .i64 last], .int .i64 0, .int .i64 5]) w')
    (hK : ∀ x, look N n = some x → N.length < 256 → ∀ v' w', Fr w.size w w' → (rL rPk).rd A w' [v'] (N ++ [⟨last + 1, x.src, x.dst, x.body⟩]) → K (.tup [.agg [v', .int .i64 (last + 1)], .int .i64 (last + 1), .int .i64 0]) w') :
    Cl Try.prog hk 29 [.agg [v, .int .i64 last], .int .i64 n] w K := by
  apply in29 (hh.no _ _ _ (by decide) (by decide))
  unfold F29
  refine gd_t (by simp only [List.all_cons, List.all_nil, h.ok1]; rfl) (pv.st.new' fun b3 w4 st4 e4 => st4.new' fun b5 w6 st6 e6 => ⟨_, _, st6.ldN 1 rfl rfl rfl, ?_⟩)
  have hv := h.inn
  refine s40 (N := N) hh st6.P (by repeat (first | assumption | refine Rp.rd.x ?_ ‹Xt _ _ _ _› | refine Rp.rd.y ?_ ‹Xw _ _ _ _›)) (by omega) fun w10 f10 => ⟨_, rfl, ?_⟩
  obtain ⟨st10, e10⟩ := st6.call f10
  have h10 : (rL rPk).rd (fz A [b5, b3]) w10 [v] N := (by repeat (first | assumption | refine Rp.rd.x ?_ ‹Xt _ _ _ _› | refine Rp.rd.y ?_ ‹Xw _ _ _ _›))
  by_cases hp : pos N n < N.length
  · rw [if_pos hp]
    refine ifT_d (fun hc => by omega) fun _ => ⟨_, _, st10.ldN 1 rfl rfl rfl, onM_s (st10.ld 1 rfl rfl) (pk_at h10 hp fun bb oo v1 _ _ _ _ hv1 hln => ⟨_, _, _, _, hln, ?_⟩)⟩
    refine s39 (N := N) (s := N[pos N n].body) hh st10.P h10 hv1 hN (hb _ (List.getElem_mem hp)) hl h0 (fun hc w27 f27 => ?_) fun hc v' w27 f27 hv' => ?_
    · obtain ⟨st27, e27⟩ := st10.call f27
      exact ⟨_, _, _, _, rfl, gd_t (by simp only [List.all_cons, List.all_nil, h.ok1]; rfl) (st27.put 0 rfl (by simp) fun w32 st32 e32 => ⟨_, _, st32.ldN 0 rfl rfl rfl, hfull _ (pos_some hp) hc _ st32.fr⟩)⟩
    · obtain ⟨st27, e27⟩ := st10.call f27
      refine ⟨_, _, _, _, rfl, gd_t (by simp only [List.all_cons, List.all_nil, hv'.ok1]; rfl) (st27.put 0 rfl (by simp) fun w32 st32 e32 => ⟨_, _, st32.ldN 0 rfl rfl rfl, ?_⟩)⟩
      have r1 : (rL rPk).rd (fz A [b5, b3]) w32 [v'] (N ++ [⟨last + 1, N[pos N n].src, N[pos N n].dst, N[pos N n].body⟩]) := (by repeat (first | assumption | refine Rp.rd.x ?_ ‹Xt _ _ _ _› | refine Rp.rd.y ?_ ‹Xw _ _ _ _›))
      exact hK _ (pos_some hp) hc _ _ st32.fr r1.out
  · rw [if_neg hp]
    exact ifT_d (fun _ => ⟨_, _, st10.ldN 1 rfl rfl rfl, gd_t (by simp only [List.all_cons, List.all_nil, h.ok1]; rfl) (st10.put 0 rfl (by simp) fun w14 st14 e14 => ⟨_, _, st14.ldN 0 rfl rfl rfl, hno (pos_none hp) _ st14.fr⟩)⟩) fun hc => by omega

/-! ### Bytes that are lent -/
/-- Bytes with three marks behind, the newest block of a family that nobody else has. -/
structure Lent (k : Nat) (w : AW) (v : AV) (s : List UInt8) (m : List UInt8) (b f : Nat) : Prop where
  e : ∃ cap ex, v = .slice b 0 s.length cap ex ∧ cap = s.length + 3 ∧ okEx ex 1 = true
  own : Own k w 1 (.slice b 0 (s.length + 3) (s.length + 3) none) (cellsOfBytes (s ++ m))
  fam : ∃ cs o d, w.get b = some (.cells cs f o d)
  lo : k ≤ b ∧ k ≤ f
  ml : m.length = 3
theorem Lent.get {k : Nat} {w w' : AW} {m : List UInt8} {b f : Nat} (h : Lent k w v s m b f) (h1 : w'.get b = w.get b) (h2 : w'.get f = w.get f) : Lent k w' v s m b f := by
  refine ⟨h.e, ?_, by obtain ⟨cs, o, d, g⟩ := h.fam; exact ⟨cs, o, d, h1.trans g⟩, h.lo, h.ml⟩
  rcases h.own with ⟨e, _⟩ | ⟨b', n, cap, ex, f', o, d, dd, e, g1, g2, g3, g4, g5⟩
  · cases e
  · cases e
    obtain ⟨cs, o2, d2, g⟩ := h.fam
    rw [g] at g4; cases g4
    exact .inr ⟨_, _, _, _, f, o, d, dd, rfl, g1, g2, g3, h1.trans g, by rw [AW.root?_congr h2]; exact g5⟩
theorem Lent.lt {k : Nat} {w : AW} {m : List UInt8} {b f : Nat} (h : Lent k w v s m b f) (hm : Mem w) : b < w.size ∧ f < w.size := by
  obtain ⟨cs, o, d, g⟩ := h.fam
  have := hm.lt _ _ g
  have := hm.fam _ _ _ _ _ g
  omega
theorem Lent.rdb {k : Nat} {w : AW} {m : List UInt8} {b f : Nat} (h : Lent k w v s m b f) : Rdb w b f (cellsOfBytes (s ++ m)) := by
  rcases h.own with ⟨e, _⟩ | ⟨b', n, cap, ex, f', o, d, dd, e, g1, g2, g3, g4, g5⟩
  · cases e
  · cases e
    obtain ⟨cs, o2, d2, g⟩ := h.fam
    rw [g] at g4; cases g4
    exact ⟨⟨b, dd, AW.fam?_iff.2 ⟨_, _, _, g, g5⟩⟩, AW.cells?_iff.2 ⟨(f, b, dd), _, _, AW.fam?_iff.2 ⟨_, _, _, g, g5⟩, .inr rfl, g⟩⟩
theorem Lent.rd {k : Nat} {w : AW} {m : List UInt8} {b f : Nat} (h : Lent k w v s m b f) (h1 : A b) (h2 : A f) : (rL rU).rd A w [v] s := by
  obtain ⟨cap, ex, rfl, rfl, hex⟩ := h.e
  refine ⟨_, rfl, .inr ⟨b, 0, _, ex, f, _, rfl, ⟨by omega, hex⟩, h1, h2, h.rdb, by rw [cellsOfBytes_length]; simp [show rU.sz = 1 from rfl], ?_⟩⟩
  rw [List.drop_zero, show rU.sz = 1 from rfl, Nat.mul_one, cellsOfBytes_append, List.take_left' (by rw [cellsOfBytes_length])]
  exact Chk.bytes.2 rfl
/-- All of it. -/
theorem Lent.all {k : Nat} {w : AW} {m : List UInt8} {b f : Nat} (h : Lent k w v s m b f) (hs : s.length ≤ 140737488351232) : slS 1 v none (some (.int .i64 ((s.length + 3 : Nat) : Int))) none = some (.slice b 0 (s.length + 3) (s.length + 3) (match v with | .slice _ _ _ _ ex => ex | _ => none)) ∧ RsB w (.slice b 0 (s.length + 3) (s.length + 3) (match v with | .slice _ _ _ _ ex => ex | _ => none)) (s ++ m) := by
  obtain ⟨cap, ex, rfl, rfl, hex⟩ := h.e
  constructor
  · have hok : okB 0 (s.length + 3) (s.length + 3) (s.length + 3) = true := by simp [okB]
    simp only [slS, show boundA (s.length + 3) none = some (s.length + 3) from rfl, show boundA s.length (some (.int .i64 ((s.length + 3 : Nat) : Int))) = some (s.length + 3) from rfl, show boundA 0 none = some 0 from rfl, Option.bind_some, hok, hex, guardO]
    simp
  · have hl : (s ++ m).length = s.length + 3 := by simp [h.ml]
    refine .inr ⟨b, 0, _, ex, _, by rw [hl], h.rdb.2, by rw [cellsOfBytes_length]; omega, ?_⟩
    rw [List.drop_zero, List.take_of_length_le (by rw [cellsOfBytes_length]; omega)]

/-- LentBytes. -/
theorem s24 (hh : HK hk) (pv : Pv A w) (h : (rL rU).rd A w [v] s) (hs : s.length ≤ 140737488351232) (hK : ∀ v' b f w', Fr w.size w w' → Lent w.size w' v' s [77, 78, 79] b f → K v' w') : Cl Try.prog hk 24 [v] w K := by
  apply in24 (hh.no _ _ _ (by decide) (by decide))
  unfold F24
  refine s21 hh pv h (by omega) fun r1 w2 f2 hr2 hg2 => ?_
  obtain ⟨st2, e2⟩ := pv.st.call f2
  refine st2.new' fun b3 w4 st4 e4 => ?_
  obtain ⟨st5, e5, hA5, hb5⟩ := st4.drop
  have hb5 : Box w4 b3 (cellsOfBytes [77, 78, 79]) := hb5
  have hx : (rL rU).rd (fz A []) w4 [.slice b3 0 3 3 none] [77, 78, 79] := Box.sl hb5 hA5 rfl (Chk.bytes.2 rfl)
  have hg2 := hg2.inn
  have hg4 : Ga rU (fz A []) w w4 r1 s := (by repeat (first | assumption | refine Ga.x ‹Xt _ _ _ _› ‹Ow _ _ _ _ _› ?_))
  refine Ow.app (r := rU) (bytes := 1) st5 hg4 hx (by decide) st5.new (by simp; omega) (by simp; omega) fun o5 w6 st6 e6 hg6 => ⟨_, h.len', ?_⟩
  -- the block
  obtain ⟨h1, cs, g2, g3⟩ := hg6
  have g3 := Chk.bytes.1 g3
  subst g3
  rcases g2 with ⟨_, g2⟩ | ⟨b, f, n, ex, o, d, rfl, k1, k2, k3, k4, k5, k6⟩
  · rw [cellsOfBytes_append] at g2; simp [cellsOfBytes] at g2
  · have hn : n = s.length + 3 := by
      have k1 : n * 1 = _ := k1
      rw [cellsOfBytes_length] at k1; simp at k1; omega
    subst hn
    have hok : okB 0 s.length (s.length + 3) (s.length + 3) = true := by simp [okB]
    have hex : okEx ex 1 = true := by rcases k2 with rfl | rfl <;> rfl
    refine onM_s (v := .slice b 0 s.length (s.length + 3) ex) ?_ (hK _ b f w6 st6.fr ⟨⟨_, ex, rfl, rfl, hex⟩, .inr ⟨b, _, _, _, f, o, d, false, rfl, by rw [cellsOfBytes_length]; simp, k3.1, k4, k5, k6⟩, ⟨_, _, _, k5⟩, ⟨?_, k3.1⟩, rfl⟩)
    · simp only [slS, show boundA (s.length + 3) none = some (s.length + 3) from rfl, show boundA (s.length + 3) (some (.int .i64 (s.length : Int))) = some s.length from rfl, show boundA 0 none = some 0 from rfl, Option.bind_some, hok, hex, guardO]
      simp
    · have := st6.mem.fam _ _ _ _ _ k5
      have := k3.1
      omega

/-- KeptBytes. -/
theorem s25 {k b f : Nat} (hh : HK hk) (h : Lent k w v s [77, 78, 79] b f) (h' : (rL rU).rd A w [u] s) (hs : s.length ≤ 140737488351232) (hK : K (.bool true) w) : Cl Try.prog hk 25 [v, u] w K := by
  apply in25 (hh.no _ _ _ (by decide) (by decide))
  unfold F25
  have hr : (rL rU).rd (fun _ => True) w [v] s := h.rd trivial trivial
  refine ⟨_, hr.len', ?_⟩
  rw [wi_eq (by omega) (by omega)]
  obtain ⟨ha, hb⟩ := h.all (by omega)
  refine onM_s ha (s17 hh hr h' ⟨_, rfl, ?_⟩)
  rw [show (s == s) = true by simp]
  refine ifT_t ⟨_, h'.len', ?_⟩
  have g : ∀ (i : Nat) (hi : i < 3), (s ++ [77, 78, 79] : List UInt8)[s.length + i]'(by simp; omega) = ([77, 78, 79] : List UInt8)[i] := fun i hi => by
    rw [List.getElem_append_right (by omega)]; simp
  refine hb.at (i := s.length) (by simp) fun b8 o8 hl8 => ⟨_, hl8, ?_⟩
  rw [show (s ++ [77, 78, 79] : List UInt8)[s.length]'(by simp) = 77 from g 0 (by omega)]
  refine ifT_d (fun _ => ⟨_, h'.len', ?_⟩) fun h => absurd rfl h
  rw [wi_eq (by omega) (by omega)]
  refine hb.at (i := s.length + 1) (by simp) fun b12 o12 hl12 => ⟨_, hl12, ?_⟩
  rw [show (s ++ [77, 78, 79] : List UInt8)[s.length + 1]'(by simp) = 78 from g 1 (by omega)]
  refine ifT_d (fun _ => ⟨_, h'.len', ?_⟩) fun h => absurd rfl h
  rw [wi_eq (by omega) (by omega)]
  refine hb.at (i := s.length + 2) (by simp) fun b16 o16 hl16 => ⟨_, hl16, ?_⟩
  rw [show (s ++ [77, 78, 79] : List UInt8)[s.length + 2]'(by simp) = 79 from g 2 (by omega)]
  exact hK
end
end Go.Proofs.Ytingojpcdpelaaa
namespace Go.Proofs.Ytingojpcdpelaaa
theorem own_put {k n b f i : Nat} {w : AW} {cs vs : List AV} (h : Own k w 1 (.slice b 0 n n none) cs) (hf : ∃ cs o d, w.get b = some (.cells cs f o d)) (hm : Mem w) (hl : i + vs.length ≤ cs.length) :
    ∃ w', w.putCells b i vs = some w' ∧ Own k w' 1 (.slice b 0 n n none) (listPut cs i vs) ∧ (∃ cs o d, w'.get b = some (.cells cs f o d)) ∧ w'.size = w.size ∧ Mem w' ∧ ∀ c, c ≠ b → c ≠ f → w'.get c = w.get c := by
  obtain ⟨w', hw, hfr, hown, hsz⟩ := h.put hm hl
  obtain ⟨cs1, o1, d1, hg⟩ := hf
  obtain ⟨f', own', dirty', cs', own1, dirty1, cs0, g1, g2, g3, g4, g5, g6, g7, g8⟩ := putCells_get hw
  rw [hg] at g6
  cases g6
  refine ⟨w', hw, hown, ?_, hsz, hfr.mem, fun c hc hcf => ?_⟩
  · rcases g8 with ⟨e1, _, _, g⟩ | ⟨_, e1, g⟩ | ⟨_, g⟩
    · subst e1; exact ⟨_, _, _, by rw [g, if_pos rfl]⟩
    · subst e1; exact ⟨_, _, _, by rw [g, if_pos rfl]⟩
    · exact ⟨_, _, _, by rw [g, if_pos rfl]⟩
  · rcases g8 with ⟨_, _, _, g⟩ | ⟨_, _, g⟩ | ⟨_, g⟩ <;> simp [g, hc, hcf]
/-- OverBytes. -/
theorem s26 {hk : Hook} {w : AW} {v : AV} {s m : List UInt8} {k b f : Nat} {K : AV → AW → Prop} (hh : HK hk) (h : Lent k w v s m b f) (hm : Mem w) (hs : s.length ≤ 140737488351232)
    (hK : ∀ w', w'.size = w.size → Mem w' → (∀ c, c ≠ b → c ≠ f → w'.get c = w.get c) → K (.tup []) w') : Cl Try.prog hk 26 [v] w K := by
  apply in26 (hh.no _ _ _ (by decide) (by decide))
  unfold F26
  have hr : (rL rU).rd (fun _ => True) w [v] s := h.rd trivial trivial
  refine ⟨_, hr.len', ?_⟩
  rw [wi_eq (by omega) (by omega)]
  obtain ⟨ha, hb⟩ := h.all (by omega)
  refine onM_s ha ?_
  have hl0 : (cellsOfBytes (s ++ m)).length = s.length + 3 := by rw [cellsOfBytes_length]; simp [h.ml]
  generalize (match v with | .slice _ _ _ _ ex => ex | _ => none) = ex
  refine loopP_ind (fun mm lv w' => ∃ (i : Nat) (cs : List AV), i ≤ s.length + 3 ∧ mm = s.length + 3 - i ∧ lv = [.int .i64 i] ∧ cs.length = s.length + 3 ∧ Own k w' 1 (.slice b 0 (s.length + 3) (s.length + 3) none) cs ∧ (∃ cs o d, w'.get b = some (.cells cs f o d)) ∧ w'.size = w.size ∧ Mem w' ∧ ∀ c, c ≠ b → c ≠ f → w'.get c = w.get c) ?_
    ⟨0, _, Nat.zero_le _, rfl, rfl, hl0, h.own, h.fam, rfl, hm, fun _ _ _ => rfl⟩
  rintro mm lv w5 ⟨i, cs, hi, rfl, rfl, hl, ho, hf, hz, hm5, hg⟩ R ih
  refine ⟨_, rfl, fun _ => ⟨_, rfl, ifT_d (fun hc => ?_) fun hc => hK _ hz hm5 hg⟩⟩
  have hil : i < s.length + 3 := by omega
  apply in38 (hh.no _ _ _ (by decide) (by decide))
  refine ⟨_, rfl, ?_⟩
  have hbl : Nat.blt i (s.length + 3) = true := by rw [Nat.blt_eq]; exact hil
  refine atP_iff.2 ⟨b, 0 + i * 1, ?_, ?_⟩
  · show (asN (.int .i64 (Int.ofNat i))).bind _ = _
    simp only [asN, Option.bind_some, hbl, guardO, cond_true]
  obtain ⟨w', hw, ho', hf', hz', hm', hg'⟩ := own_put (vs := [.int .u8 (IntKind.wrap .u8 (shrI .u64 (IntKind.wrap .u64 (IntKind.wrap .u64 (wi (wi (1000003 * (wi (9 + 7))) + i)) * 11400714819323198485)) 56))]) ho hf hm5 (i := 0 + i * 1) (by simp; omega)
  refine onM_s hw (ih (s.length + 3 - (i + 1)) (by omega) _ _ ⟨i + 1, _, hil, rfl, by rw [wi_eq (by omega) (by omega)]; rfl, ?_, ho', hf', hz'.trans hz, hm', fun c h1 h2 => (hg' c h1 h2).trans (hg c h1 h2)⟩)
  simp [listPut]; omega
end Go.Proofs.Ytingojpcdpelaaa
