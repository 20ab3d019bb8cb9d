/-
  CheckWhole.
  No condition beyond those that each theorem names.
-/
import Derived.Test.YtgobllfkiannfaaWL11
set_option linter.unusedSimpArgs false
open Go.Sx
set_option linter.unusedVariables false
set_option linter.unusedSimpArgs false
namespace Go.Proofs.Ytgobllfkiannfaa
structure Life where
  b : Byts
  arm : Int
  keep : List Bool
def rLife : Rp Life := ⟨3, fun A w cs x => ∃ v1 v2, cs = [v1, .int .i64 x.arm, v2] ∧ (rL rU).rd A w [v1] x.b ∧ (rL rT).rd A w [v2] x.keep,
  fun ⟨_, _, h, _⟩ => by rw [h]; rfl, fun ⟨_, _, h, h1, h2⟩ => by rw [h]; simp [h1.ok1, h2.ok1]; rfl,
  fun e ⟨v1, v2, h, h1, h2⟩ => ⟨v1, v2, h, h1.xa e, h2.xa e⟩⟩
abbrev T1 : Nat → Prop := fun _ => True
theorem md_arm {d : Dsk} {t : Byts} {N : Nms} {G : Int → List Byts} {a : Int} (h : Cq d t N G) : Md { d with arm := a } t N G ∧ ({ d with arm := a } : Dsk).down = false ∧ Rest { d with arm := a } := by
  refine ⟨⟨h.qu.2.2, ?_⟩, h.qu.1, h.st, h.se⟩
  rcases h.tt with h | ⟨f, h⟩
  · exact .inl (h.same ⟨rfl, rfl, rfl, rfl⟩)
  · exact .inr ⟨f, h.same ⟨rfl, rfl, rfl, rfl⟩⟩
section
variable {hk : Hook} {w : AW}
set_option maxRecDepth 20000 in
theorem s4 {v : AV} {lives : List Life} (hh : HK hk) (pv : Pv T1 w) (h : (rL rLife).rd T1 w [v] lives) (hn : lives.length < 2 ^ 60) (hsl : ∀ x ∈ lives, x.b.length < 2 ^ 60 ∧ x.keep.length < 2 ^ 60) : Cl Try.prog hk 4 [v] w fun r _ => r = .bool true := by
  apply in4 (hh.no _ _ _ (by decide) (by decide))
  unfold F4
  have awake : ∀ {w : AW}, Cl Try.prog hk 16 [] w fun r w => ∃ x : Bool, r = .bool x ∧ (AV.bool x) = .bool true := fun {w} => Cl_hook (hh.awake _) ⟨_, rfl, rfl⟩
  refine s6 hh pv.st fun D i0 w3 h3 x3 => ?_
  refine join_of (fun lv w4 => lv = []) ?_ ?_
  · rintro lv w4 rfl
    exact ⟨rfl, fun _ => awake⟩
  intro J hJ
  refine loopP_ind (fun m l w11 => ∃ (n : Nat) (i' : DI) (d' : Dsk) (av : AV) (last : Byts) (there : Bool) (N : Nms) (G : Int → List Byts), m = 10 - n ∧ n ≤ 10 ∧ l = [av, .bool there, .int .i64 n] ∧ Dk T1 [] w w11 D i' d' (200000 * n) [] ∧ Cq d' [99, 126] N G ∧ (rL rU).rd (fz T1 (dkU D i' [])) w11 [av] last ∧ ((there = false ∧ N = [] ∧ last = []) ∨ (there = true ∧ ∃ f, N = [([99], f)] ∧ G f = EX last)) ∧ last.length ≤ 600) ?_
    ⟨0, i0, Dsk.none, .nilslice, [], false, [], fun _ => [], rfl, Nat.zero_le _, rfl, h3, ⟨⟨rfl, rfl, rfl⟩, rfl, rfl, .inl ⟨rfl, rfl, rfl, ⟨by simp⟩, rfl, by simp, fun _ _ => ⟨rfl, rfl⟩⟩⟩, Rp.rd.nil, .inl ⟨rfl, rfl, rfl⟩, by simp⟩
  rintro m l w11 ⟨n, i7, d7, av, last, there, N, G, rfl, hn10, rfl, h7, hC, hav, hst, hlast⟩ R ih
  have done : J [] w11 := hJ _ _ rfl
  have ha := h7.ow.arg pv.mem h
  refine ⟨_, _, _, rfl, fun _ => ⟨_, ha.len', ifT_d (fun hc => ifT_d (fun hc2 => ?_) fun _ => done) fun _ => done⟩⟩
  have hnl : n < lives.length := by omega
  refine ha.at hnl fun b16 o17 cs hcs _ hld => ?_
  obtain ⟨hx1, hx2⟩ := hsl lives[n] (List.getElem_mem hnl)
  generalize lives[n] = X at *
  obtain ⟨v1, v2, rfl, hr1, hr2⟩ := hcs
  refine ⟨v1, _, v2, hld, h7.new' fun b21 w22 h22 x22 => gd_t (by simp [hr1.ok1, hr2.ok1]; rfl) (h22.wr 0 rfl (by simp) fun w23 h23 x23 => ?_)⟩
  have h23 : Dk T1 [] w w23 D i7 d7 (200000 * n) [(b21, .row [v1, .int .i64 X.arm, v2])] := h23
  refine onM_s (v := v1) (h23.ow.ld 6 rfl rfl) (onM_s (v := v1) (h23.ow.ld 6 rfl rfl) ⟨_, hr1.len', ?_⟩)
  have hmin : imin ((X.b.length : Nat) : Int) 600 = ((min X.b.length 600 : Nat) : Int) := by
    unfold imin
    split <;> omega
  rw [hmin]
  have hr1' := (hr1.x x22).x x23
  obtain ⟨v27, hc27, hr27⟩ := hr1'.cut (i := 0) (j := min X.b.length 600) (Nat.zero_le _) (by omega) (.inr ⟨rfl, rfl⟩) (.inl rfl)
  have hBl : ((X.b.take (min X.b.length 600)).drop 0).length ≤ 600 := by simp; omega
  generalize hB : (X.b.take (min X.b.length 600)).drop 0 = B at *
  refine onM_s hc27 (gd_t hr27.ok1 (h23.wr 0 rfl (by simp) fun w28 h28 x28 => ?_))
  have h28 : Dk T1 [] w w28 D i7 d7 (200000 * n) [(b21, .row [v27, .int .i64 X.arm, v2])] := h28
  have x028 : Xt (dkU D i7 []) w11 (dkU D i7 [(b21, .row [v27, .int .i64 X.arm, v2])]) w28 := (x22.trans x23).trans x28
  have hr28 := hr27.x x28
  refine ⟨X.arm, h28.ow.ld 6 rfl rfl, s17 hh (by decide) (by decide) fun y y0 y1 => ⟨_, rfl, s11 hh h28 ?_⟩⟩
  rw [if_neg (by omega)]
  intro i34 w34 h34 x34
  refine ⟨_, rfl, ifT_f (onM_s (v := v27) (h34.ow.ld 6 rfl rfl) ?_)⟩
  obtain ⟨m1, m2, m3⟩ := md_arm (a := wi (imin y 4611686018427387904 + 1)) hC
  have hx034 := x028.trans x34
  have hr34 := hr28.x x34
  have hnn : [99, 126] ≠ ([99] : Byts) := by decide
  have hN0 : nget N [] = none ∧ N.length < 256 := by
    rcases hst with ⟨_, rfl, _⟩ | ⟨_, f, rfl, _⟩
    · exact ⟨rfl, by decide⟩
    · exact ⟨rfl, by simp⟩
  refine s7 (nm := [99]) (N := N) (G := G) hh h34 hr34 hBl (by decide) (by decide) (by omega) m1 m2 m3 hN0.2 hN0.1 fun i38 w38 d38 e h38 x38 hend _ => ?_
  have hend : SaveEnd d38 e [99, 126] [99] N G B := hend
  refine ⟨e, rfl, onM_s (v := v2) (h38.ow.ld 6 rfl rfl) ?_⟩
  have hx038 := hx034.trans x38
  refine s13 (keep := X.keep) hh h38 (by omega) (hr2.x hx038) ?_
  intro i42 w42 h42 x42
  have hx042 := hx038.trans x42
  have hcr := end_crash hnn hend X.keep
  generalize d38.crash X.keep = d42 at *
  refine ⟨_, rfl, ifT_f ?_⟩
  have hr42 := (hr34.x x38).x x42
  have hav42 := hav.x hx042
  -- what Load tells
  refine Cl_mono (K := fun r w' => ∃ (v46 : AV) (ok : Bool) (rr : Byts) (N' : Nms) (G' : Int → List Byts), r = .tup [v46, .bool ok, .int .i64 0] ∧ Dk T1 [] w w' D i42 d42 (200000 * n + 100000) [(b21, .row [v27, .int .i64 X.arm, v2])] ∧ Xt (dkU D i42 [(b21, .row [v27, .int .i64 X.arm, v2])]) w42 (dkU D i42 [(b21, .row [v27, .int .i64 X.arm, v2])]) w' ∧
    (rL rU).rd (fz T1 (dkU D i42 [(b21, .row [v27, .int .i64 X.arm, v2])])) w' [v46] rr ∧ Cq d42 [99, 126] N' G' ∧ ((ok = false ∧ N' = [] ∧ rr = []) ∨ (ok = true ∧ ∃ f, N' = [([99], f)] ∧ G' f = EX rr)) ∧ rr.length ≤ 600 ∧ ((ok = true ∧ rr = B) ∨ (e ≠ 0 ∧ ok = there ∧ rr = last))) ?_ ?_
  rotate_left
  · have some_ : ∀ (rr : Byts) (N' : Nms) (G' : Int → List Byts) (f : Int), Cq d42 [99, 126] N' G' → N' = [([99], f)] → G' f = EX rr → rr.length ≤ 600 → ((true = true ∧ rr = B) ∨ (e ≠ 0 ∧ true = there ∧ rr = last)) → Cl Try.prog hk 14 [.ptr D 0, .str [99]] w42 (fun r w' => ∃ (v46 : AV) (ok : Bool) (rr : Byts) (N' : Nms) (G' : Int → List Byts), r = .tup [v46, .bool ok, .int .i64 0] ∧ Dk T1 [] w w' D i42 d42 (200000 * n + 100000) [(b21, .row [v27, .int .i64 X.arm, v2])] ∧ Xt (dkU D i42 [(b21, .row [v27, .int .i64 X.arm, v2])]) w42 (dkU D i42 [(b21, .row [v27, .int .i64 X.arm, v2])]) w' ∧
    (rL rU).rd (fz T1 (dkU D i42 [(b21, .row [v27, .int .i64 X.arm, v2])])) w' [v46] rr ∧ Cq d42 [99, 126] N' G' ∧ ((ok = false ∧ N' = [] ∧ rr = []) ∨ (ok = true ∧ ∃ f, N' = [([99], f)] ∧ G' f = EX rr)) ∧ rr.length ≤ 600 ∧ ((ok = true ∧ rr = B) ∨ (e ≠ 0 ∧ ok = there ∧ rr = last))) := by
      intro rr N' G' f hC' hN' hG' hl' hor
      have hr : d42.read [99] = ((EX rr).flatten, 0) := load_some hnn hC' (by rw [hN']; rfl) hG'
      refine s14 hh h42 (by omega) hl' hr fun c ex w' hd xd hc bx hx => ⟨_, _, rr, N', G', rfl, hd, xd, ?_, hC', .inr ⟨rfl, f, hN', hG'⟩, hl', hor⟩
      exact Box.sl bx (h42.ow.P.new c hc) rfl (Chk.bytes.2 rfl) (by omega) (by rcases hx with rfl | rfl <;> rfl)
    rcases hcr with ⟨he, hC'⟩ | ⟨f, hC'⟩
    · rcases hst with ⟨rfl, rfl, rfl⟩ | ⟨rfl, f, hN', hG'⟩
      · refine s14n hh h42 (load_none hnn hC' rfl) fun w' hd xd => ⟨_, _, [], [], G, rfl, hd, xd, Rp.rd.nil, hC', .inl ⟨rfl, rfl, rfl⟩, by simp, .inr ⟨he, rfl, rfl⟩⟩
      · exact some_ last N G f hC' hN' hG' hlast (.inr ⟨he, rfl, rfl⟩)
    · refine some_ B _ _ f hC' ?_ ?_ hBl (.inl ⟨rfl, rfl⟩)
      · rcases hst with ⟨_, rfl, _⟩ | ⟨_, f', rfl, _⟩ <;> rfl
      · show (if f = f then _ else _) = _
        rw [if_pos rfl]
  rintro r w45 ⟨v46, ok, rr, N', G', rfl, h45, x45, hrr, hC', hst', hl', hor⟩
  have hav45 := hav42.x x45
  have hr45 := hr42.x x45
  have go : R [v46, .bool ok, .int .i64 (wi ((n : Int) + 1))] w45 := by
    obtain ⟨h46, x46, _⟩ := h45.drop
    rw [show wi ((n : Int) + 1) = ((n + 1 : Nat) : Int) by rw [wi_eq (by omega) (by omega)]; rfl]
    exact ih (10 - (n + 1)) (by omega) _ _ ⟨n + 1, i42, d42, v46, rr, ok, N', G', rfl, by omega, rfl, h46.le (by omega) (by omega), hC', hrr.x x46, hst', hl'⟩
  refine ⟨_, _, _, rfl, ?_⟩
  refine join_of (fun l w50 => w50 = w45 ∧ l = [.bool (ok && rr == B)]) ?_ ?_
  · rintro l w50 ⟨rfl, rfl⟩
    refine ⟨_, rfl, fun _ => ?_⟩
    refine join_of (fun l w54 => w54 = w50 ∧ l = [.bool ((ok == there) && rr == last)]) ?_ ?_
    · rintro l w54 ⟨rfl, rfl⟩
      refine ⟨_, rfl, fun _ => ifT_f ?_⟩
      rcases hor with ⟨rfl, rfl⟩ | ⟨he, rfl, rfl⟩
      · rw [show (true && rr == rr) = true by simp]
        exact ifT_d (fun _ => ifT_f (ifT_f go)) fun _ => ifT_f go
      · refine ifT_d (fun h => absurd h he) fun _ => ?_
        rw [show ((ok == ok) && rr == rr) = true by simp]
        cases (ok && rr == B) with
        | true => exact ifT_f go
        | false => exact ifT_t (ifT_f go)
    · intro J2 hJ2
      cases hq : (ok == there) with
      | true =>
        refine ifT_t (s18 hh hrr.rsB hav45.rsB ⟨_, rfl, hJ2 _ _ ⟨rfl, ?_⟩⟩)
        rw [hq, Bool.true_and]
      | false =>
        refine ifT_f (hJ2 _ _ ⟨rfl, ?_⟩)
        rw [hq, Bool.false_and]
  · intro J1 hJ1
    cases ok with
    | true =>
      refine ifT_t (onM_s (v := v27) (h45.ow.ld 6 rfl rfl) (s18 hh hrr.rsB hr45.rsB ⟨_, rfl, hJ1 _ _ ⟨rfl, ?_⟩⟩))
      rw [Bool.true_and]
    | false => exact ifT_f (hJ1 _ _ ⟨rfl, rfl⟩)
end
end Go.Proofs.Ytgobllfkiannfaa
