/-
  NetPlays, over memory (the last part).
  No condition beyond those that each theorem names.
-/
import Derived.Test.YtingojpcdpelaaaY12
set_option linter.unusedSimpArgs false
open Go.Sx
set_option linter.unusedVariables false
namespace Go.Proofs.Ytingojpcdpelaaa

section
variable {hk : Hook} {w : AW} {b6 b9 p r p' r' : Nat} {j : Bool} {e e' : List (AV × AV)} {N N' : List Pk} {m last last' : Int} {lv lv' : AV} {K : AV → AW → Prop}
/-- A state of the law: ids of one's own blocks. -/
abbrev u7 (p r p' r' b6 b9 : Nat) (l : List Nat) : List Nat := p :: r :: p' :: r' :: b6 :: b9 :: l

theorem zeroPk {A : Nat → Prop} {w : AW} : rPk.rd A w zeroC ⟨0, 0, 0, []⟩ := ⟨_, rfl, Rp.rd.nil⟩

set_option maxHeartbeats 1000000 in
set_option maxRecDepth 20000 in
/-- NetPlays. -/
theorem s7 {many : Bool} {v : AV} {ops : List Op7} (hh : HK hk) (pv : Pv (fun _ => True) w) (hs : (rL rOp).rd (fun _ => True) w [v] ops) (hbl : ∀ x ∈ ops, x.body.length ≤ 140737488351232) :
    Cl Try.prog hk 7 [.bool many, v] w fun r _ => r = .bool true := by
  apply in7 (hh.no _ _ _ (by decide) (by decide))
  unfold F7
  refine s9 hh pv.st fun p0 r0 w3 n3 e3 => ?_
  refine s9 hh n3.ow fun p1 r1 w5 n5 e5 => gd_t rfl (gd_t rfl ?_)
  refine n5.ow.new' fun b6 w7 st7 e7 => gd_t rfl (st7.put 0 rfl (by simp) fun w8 st8 e8 => st8.new' fun b9 w10 st10 e10 => ?_)
  obtain ⟨st11, _⟩ := st10.front 1 rfl
  obtain ⟨st12, _⟩ := st11.front 3 rfl
  obtain ⟨st13, _⟩ := st12.front 3 rfl
  obtain ⟨st14, _⟩ := st13.front 5 rfl
  obtain ⟨st15, _⟩ := st14.front 5 rfl
  have S0 : S7 (fun _ => True) 0 w w10 b6 b9 false p0 r0 [] [] 0 .nilslice p1 r1 [] [] 0 .nilslice [] := ⟨st15, trivial, trivial, Rp.rd.nil, Rp.rd.nil, NI.none, NI.none, by omega, by omega⟩
  clear st7 st8 st10 st11 st12 st13 st14 st15 e3 e5 e7 e8 e10 n3 n5
  refine join_of (fun lv w' => lv = [] ∧ ∃ p r e N last l p' r' e' N' last' l', S7 (fun _ => True) 300 w w' b6 b9 false p r e N last l p' r' e' N' last' l' []) ?_ ?_
  · rintro _ w12 ⟨rfl, p, r, e, N, last, l, p', r', e', N', last', l', S12⟩
    refine ⟨rfl, fun _ => ?_⟩
    refine join_of (fun lv w' => lv = [] ∧ ∃ p r e N last l p' r' e' N' last' l', S7 (fun _ => True) 400 w w' b6 b9 false p r e N last l p' r' e' N' last' l' []) ?_ ?_
    · rintro _ w15 ⟨rfl, p, r, e, N, last, l, p', r', e', N', last', l', S15⟩
      refine ⟨rfl, fun _ => onM_s (S15.ow.ld 4 rfl rfl) (onM_s (S15.ow.ld 5 rfl rfl) ?_)⟩
      refine s14 hh S15.nt (by have := S15.le; omega) fun v19 w20 n20 e20 hr20 => ?_
      have S20 := S15.x n20.ow e20
      refine ⟨S20.ow.ld 5 rfl rfl, s28 hh hr20 S20.rl (by have := S20.ni.cap; omega) ⟨_, rfl, ifT_t ?_⟩⟩
      have S21 := S20.swap
      refine onM_s (S21.ow.ld 4 rfl rfl) (onM_s (S21.ow.ld 5 rfl rfl) ?_)
      refine s14 hh S21.nt (by have := S21.le; omega) fun v26 w27 n27 e27 hr27 => ?_
      have S27 := S21.x n27.ow e27
      exact ⟨S27.ow.ld 5 rfl rfl, s28 hh hr27 S27.rl (by have := S27.ni.cap; omega) ⟨_, rfl, ifT_t (Cl_hook (hh.awake _) ⟨_, rfl, rfl⟩)⟩⟩
    intro J hJ
    refine loopP_ind (fun mm lv w' => ∃ i : Nat, i ≤ 80 ∧ i ≤ ops.length ∧ mm = 80 - i ∧ lv = [.int .i64 i] ∧ ∃ p r e N last l p' r' e' N' last' l', S7 (fun _ => True) (300 + i) w w' b6 b9 false p r e N last l p' r' e' N' last' l' []) ?_
      ⟨0, by omega, Nat.zero_le _, rfl, rfl, p, r, e, N, last, l, p', r', e', N', last', l', S12.up (by omega)⟩
    clear S12 S0 p r e N last l p' r' e' N' last' l'
    rintro mm lv w36 ⟨i, hi, hio, rfl, rfl, p, r, e, N, last, l, p', r', e', N', last', l', S36⟩ R ih
    have hs36 := S36.ow.arg pv.mem hs
    refine ⟨_, rfl, fun _ => ⟨_, hs36.len', ifT_d (fun hc => ifT_d (fun hc2 => ?_) fun hc2 => hJ _ _ ⟨rfl, _, _, _, _, _, _, _, _, _, _, _, _, S36.up (by omega)⟩) fun hc => hJ _ _ ⟨rfl, _, _, _, _, _, _, _, _, _, _, _, _, S36.up (by omega)⟩⟩⟩
    clear hJ
    have hil : i < ops.length := by omega
    obtain ⟨j, hj⟩ := bAnd1 ops[i].on
    obtain ⟨p, r, e, N, last, l, p', r', e', N', last', l', S36⟩ := S36.to j
    have hs36 := S36.ow.arg pv.mem hs
    refine hs36.at hil fun b39 o40 cs hcs hf hn => ?_
    obtain ⟨v45, rfl, hb45⟩ := hcs
    have hlen := hbl _ (List.getElem_mem hil)
    generalize ops[i] = o at hj hb45 hlen hn
    refine ⟨_, _, _, _, _, _, hn, S36.ow.new' fun b47 w48 st48 e48 => gd_t (by simp only [List.all_cons, List.all_nil, hb45.ok1]; rfl) (st48.put 0 rfl (by simp) fun w49 st49 e49 => ⟨_, st49.ld 0 rfl rfl, ?_⟩)⟩
    rw [hj]
    obtain ⟨st50, e50⟩ := st49.perm (L' := (p, .row [.map r, .int .i64 last]) :: (r, .map e) :: (p', .row [.map r', .int .i64 last']) :: (r', .map e') :: (b6, .row (row6 j (.ptr p 0) (.ptr p' 0))) :: (b9, .row (row9 j l last l' last')) :: [(b47, .row [.int .i64 o.kind, .int .i64 o.on, .int .i64 o.src, .int .i64 o.dst, v45, .int .i64 o.num])]) (List.perm_append_singleton (b47, Ob.row [.int .i64 o.kind, .int .i64 o.on, .int .i64 o.src, .int .i64 o.dst, v45, .int .i64 o.num]) [_, _, _, _, _, _]).symm
    have x50 := (e48.trans e49).trans e50
    have S := S36.x (T' := [(b47, .row [.int .i64 o.kind, .int .i64 o.on, .int .i64 o.src, .int .i64 o.dst, v45, .int .i64 o.num])]) st50 x50
    have hb := hb45.x x50
    clear st48 st49 st50 e48 e49 e50 x50 hb45 S36 hs36 hn hf
    refine join_of (fun lv w' => lv = [.bool true] ∧ ∃ p r e N last l p' r' e' N' last' l', S7 (fun _ => True) (301 + i) w w' b6 b9 j p r e N last l p' r' e' N' last' l' [(b47, .row [.int .i64 o.kind, .int .i64 o.on, .int .i64 o.src, .int .i64 o.dst, v45, .int .i64 o.num])]) ?_ ?_
    · rintro _ w52 ⟨rfl, p, r, e, N, last, l, p', r', e', N', last', l', S52⟩
      refine ⟨_, rfl, fun _ => ifT_f (idxP_of (jlt j) (onM_s (S52.ow.ld 4 rfl (h6 _ _ _)) (idxP_of (jlt j) (onM_s (S52.ow.ld 5 rfl (h9 _ _ _ _ _)) ?_))))⟩
      refine s14 hh S52.nt (by have := S52.le; omega) fun v61 w62 n62 e62 hr62 => ?_
      have S62 := S52.x n62.ow e62
      refine ⟨S62.ow.ld 5 rfl (h9 _ _ _ _ _), s28 hh hr62 S62.rl (by have := S62.ni.cap; omega) ⟨_, rfl, ifT_f ?_⟩⟩
      obtain ⟨st1, x1⟩ := S62.ow.front 6 rfl
      obtain ⟨st2, x2, _⟩ := st1.drop
      have S63 := S62.x (T' := []) st2 (x1.trans x2)
      obtain ⟨p, r, e, N, last, l, p', r', e', N', last', l', S64⟩ := S63.to false
      exact ih (80 - (i + 1)) (by omega) _ _ ⟨i + 1, by omega, hil, rfl, by rw [wi_eq (by omega) (by omega)]; rfl, _, _, _, _, _, _, _, _, _, _, _, _, S64.up (by omega)⟩
    intro J hJ
    have hle := S.le
    have hcapN := S.ni.cap
    have h0 := S.ni.last0
    refine ⟨_, S.ow.ld 6 rfl rfl, ifT_d (fun hk1 => ?_) fun hk1 => ifT_d (fun hk2 => ?_) fun hk2 => ifT_d (fun hk3 => ?_) fun hk3 => ifT_d (fun hk4 => ?_) fun hk4 => ifT_d (fun hk5 => ?_) fun hk5 => hJ _ _ ⟨rfl, _, _, _, _, _, _, _, _, _, _, _, _, S.up (by omega)⟩⟩
    · -- Send
      refine onM_s (S.ow.ld 6 rfl rfl) (s24 hh S.ow.P0 hb.out hlen fun v68 bb ff w69 f69 hL69 => ?_)
      have hbl := hL69.lt f69.mem
      have hlo := hL69.lo
      have S69 := S.lent (k := 0) f69 ⟨hlo.1, hbl.1⟩ ⟨hlo.2, hbl.2⟩
      have hb69 := rd_lent hb S.ow.mem f69 hlo.1 hlo.2
      have hnb : ∀ c, w49.size ≤ c → c ∉ u7 p r p' r' b6 b9 [b47] := fun c hc hx => by
        have := S.ow.ids_lt (c := c) hx
        omega
      refine idxP_of (jlt j) (onM_s (S69.ow.ld 4 rfl (h6 _ _ _)) ⟨_, S69.ow.ld 6 rfl rfl, _, S69.ow.ld 6 rfl rfl, ?_⟩)
      have hx : (rL rU).rd (fz (fun _ => True) (u7 p r p' r' b6 b9 [b47])) w69 [v68] o.body := hL69.rd ⟨trivial, hnb _ hlo.1⟩ ⟨trivial, hnb _ hlo.2⟩
      refine Cl_mono (K := fun v w76 => ∃ N2 last2 es2 a er, v = .tup [.int .i64 a, .int .i64 er] ∧ Nt (fun c => c ≠ bb ∧ c ≠ ff) [] w w76 p r N2 last2 es2 ((p', .row [.map r', .int .i64 last']) :: (r', .map e') :: (b6, .row (row6 j (.ptr p 0) (.ptr p' 0))) :: (b9, .row (row9 j l last l' last')) :: [(b47, .row [.int .i64 o.kind, .int .i64 o.on, .int .i64 o.src, .int .i64 o.dst, v45, .int .i64 o.num])])
        ∧ Xt (u7 p r p' r' b6 b9 [b47]) w69 (u7 p r p' r' b6 b9 [b47]) w76 ∧ ((65545 < o.body.length ∧ N2 = N ∧ last2 = last ∧ a = 0 ∧ er = 3) ∨ (o.body.length ≤ 65545 ∧ 256 ≤ N.length ∧ N2 = N ∧ last2 = last ∧ a = 0 ∧ er = 5) ∨ (o.body.length ≤ 65545 ∧ N.length < 256 ∧ N2 = N ++ [⟨last + 1, o.src, o.dst, o.body⟩] ∧ last2 = last + 1 ∧ a = last + 1 ∧ er = 0))) ?_
        (s10 hh S69.nt (by omega) hx (fun h => ⟨_, _, _, _, _, rfl, S69.nt, Xt.refl, .inl ⟨h, rfl, rfl, rfl, rfl⟩⟩) (fun h hf w76 n76 e76 => ⟨_, _, _, _, _, rfl, n76, e76, .inr (.inl ⟨h, hf, rfl, rfl, rfl, rfl⟩)⟩) fun h hf w76 es n76 e76 => ⟨_, _, _, _, _, rfl, n76, e76, .inr (.inr ⟨h, hf, rfl, rfl, rfl, rfl⟩)⟩)
      rintro _ w76 ⟨N2, last2, es2, a, er, rfl, n76, e76, hcase⟩
      obtain ⟨ow76, en76, ni76, en'76, rl76, rl'76⟩ := S69.net n76 e76
      have hb76 := hb69.x e76
      refine ⟨_, _, rfl, idxP_of (jlt j) ⟨_, _, ow76.ldN 5 rfl (h9l _ _ _ _ _) (h9n _ _ _ _ _), _, ow76.ld 6 rfl rfl, _, ow76.ld 6 rfl rfl, onM_s (ow76.ld 6 rfl rfl) (ow76.new' fun b86 w87 st87 e87 => ⟨st87.ld 7 rfl rfl, st87.ld 7 rfl rfl, st87.ld 7 rfl rfl, st87.ldN 6 rfl (h9l _ _ _ _ _) (h9n _ _ _ _ _), ?_⟩)⟩⟩
      have hle2 : last2 ≤ 301 + (i : Int) := by omega
      refine Cl_mono (K := fun v w89 => ∃ lv2, v = .tup [.agg [lv2, .int .i64 last2], .int .i64 a, .int .i64 er] ∧ Fr w87.size w87 w89 ∧ (rL rPk).rd (fz (fun c => c ≠ bb ∧ c ≠ ff) (b86 :: u7 p r p' r' b6 b9 [b47])) w89 [lv2] N2) ?_
        (s23 (N := N) (s := o.body) hh st87.P (rl76.x e87) (hb76.x e87) (by omega) (by omega) h0 (fun h w89 f89 => ?_) (fun h hf w89 f89 => ?_) fun h hf lv2 w89 f89 hv => ?_)
      rotate_left
      · rcases hcase with ⟨_, rfl, rfl, rfl, rfl⟩ | ⟨h2, _⟩ | ⟨h2, _⟩
        · exact ⟨_, rfl, f89, (rl76.x e87).x (st87.call f89).2⟩
        · omega
        · omega
      · rcases hcase with ⟨h2, _⟩ | ⟨_, _, rfl, rfl, rfl, rfl⟩ | ⟨_, h2, _⟩
        · omega
        · exact ⟨_, rfl, f89, (rl76.x e87).x (st87.call f89).2⟩
        · omega
      · rcases hcase with ⟨h2, _⟩ | ⟨_, h2, _⟩ | ⟨_, _, rfl, rfl, rfl, rfl⟩
        · omega
        · omega
        · exact ⟨_, rfl, f89, hv⟩
      rintro _ w89 ⟨lv2, rfl, f89, rl89⟩
      obtain ⟨st89, e89⟩ := st87.call f89
      refine ⟨_, _, _, _, rfl, gd_t (by simp only [List.all_cons, List.all_nil, rl89.ok1]; rfl) (st89.put 0 rfl (by simp) fun w94 st94 e94 => ⟨_, _, st94.ldN 0 rfl rfl rfl, idxP_of (jlt j) (gd_t (by simp only [List.all_cons, List.all_nil, rl89.ok1]; rfl) (st94.put 6 rfl (h9b _ _ _ _ _ _ rfl) fun w99 st99 e99 => ?_))⟩)⟩
      rw [h9p] at st99
      obtain ⟨st100, e100, _⟩ := st99.drop
      have x100 : Xt (u7 p r p' r' b6 b9 [b47]) w69 (u7 p r p' r' b6 b9 [b47]) w99 := ((((e76.trans e87).trans e89).trans e94).trans e99).trans e100
      have y100 : Xt (b86 :: u7 p r p' r' b6 b9 [b47]) w89 (u7 p r p' r' b6 b9 [b47]) w99 := (e94.trans e99).trans e100
      have z100 : Xt (u7 p r p' r' b6 b9 [b47]) w76 (u7 p r p' r' b6 b9 [b47]) w99 := (((e87.trans e89).trans e94).trans e99).trans e100
      have S100 : S7 (fun c => c ≠ bb ∧ c ≠ ff) (301 + i) w w99 b6 b9 j p r es2 N2 last2 lv2 p' r' e' N' last' l' [(b47, .row [.int .i64 o.kind, .int .i64 o.on, .int .i64 o.src, .int .i64 o.dst, v45, .int .i64 o.num])] :=
        ⟨st100, en76.x z100, en'76.x z100, rl89.x y100, rl'76.x z100, ni76, S.ni', hle2, by have := S.le'; omega⟩
      have hL99 := hL69.get (x100.g bb hbl.1 (hnb _ hlo.1)).2 (x100.g ff hbl.2 (hnb _ hlo.2)).2
      have hb99 := hb69.x x100
      refine join_of (fun lv w' => lv = [.bool true] ∧ w' = w99) ?_ ?_
      · rintro _ _ ⟨rfl, rfl⟩
        refine ⟨_, rfl, fun _ => s26 hh hL99 S100.ow.mem hlen fun w105 hz hm hg => ⟨rfl, hJ _ _ ⟨rfl, _, _, _, _, _, _, _, _, _, _, _, _, S100.over hz hm ?_ hg⟩⟩⟩
        have := S.ow.size
        omega
      · intro J2 hJ2
        exact ifT_d (fun _ => ifT_d (fun _ => onM_s (S100.ow.ld 6 rfl rfl) (s25 hh hL99 hb99 hlen ⟨_, rfl, hJ2 _ _ ⟨rfl, rfl⟩⟩)) fun h => absurd rfl h) fun h => absurd rfl h
    · -- Deliver
      refine idxP_of (jlt j) (onM_s (S.ow.ld 4 rfl (h6 _ _ _)) ⟨_, S.ow.ld 6 rfl rfl, S.ow.new' fun b114 w115 st115 e115 => ⟨st115.ld 7 rfl rfl, st115.ld 5 rfl (h6 _ _ _), ?_⟩⟩)
      obtain ⟨st116, e116⟩ := st115.front 2 rfl
      obtain ⟨st117, e117⟩ := st116.front 2 rfl
      have x117 : Xt (u7 p r p' r' b6 b9 [b47]) w49 (p :: r :: b114 :: p' :: r' :: b6 :: b9 :: [b47]) w115 := (e115.trans e116).trans e117
      refine Cl_mono (K := fun v w117 => ∃ (x : Pk) (u : AV) (er : Int) (N2 : List Pk) (es2 : List (AV × AV)), v = .tup [.agg [.int .i64 x.num, .int .i64 x.src, .int .i64 x.dst, u], .int .i64 er] ∧ Nt (fun _ => True) [] w w117 p r N2 last es2 ((b114, .row [.int .i64 0, .int .i64 0, .int .i64 0, .nilslice]) :: (p', .row [.map r', .int .i64 last']) :: (r', .map e') :: (b6, .row (row6 j (.ptr p 0) (.ptr p' 0))) :: (b9, .row (row9 j l last l' last')) :: [(b47, .row [.int .i64 o.kind, .int .i64 o.on, .int .i64 o.src, .int .i64 o.dst, v45, .int .i64 o.num])])
        ∧ Xt (p :: r :: b114 :: p' :: r' :: b6 :: b9 :: [b47]) w115 (p :: r :: b114 :: p' :: r' :: b6 :: b9 :: [b47]) w117 ∧ (rL rU).rd (fz (fun _ => True) (p :: r :: b114 :: p' :: r' :: b6 :: b9 :: [b47])) w117 [u] x.body ∧ ((look N o.num = none ∧ x = ⟨0, 0, 0, []⟩ ∧ er = 100 ∧ N2 = N) ∨ (look N o.num = some x ∧ er = 0 ∧ N2 = del N o.num))) ?_
        (s13 hh ⟨st117, S.en.x x117, S.ni⟩ (fun h w117 n117 e117 => ⟨⟨0, 0, 0, []⟩, _, _, _, _, rfl, n117, e117, Rp.rd.nil, .inl ⟨h, rfl, rfl, rfl⟩⟩) fun x hx u w117 es n117 e117 hu => ⟨x, _, _, _, _, rfl, n117, e117, hu, .inr ⟨hx, rfl, rfl⟩⟩)
      rintro _ w118 ⟨x, u, er, N2, es2, rfl, n118, e118, hu118, hcase⟩
      refine ⟨_, _, _, _, _, rfl, gd_t (by simp only [List.all_cons, List.all_nil, hu118.ok1]; rfl) (n118.ow.put 2 rfl (by simp) fun w123 st123 e123 => idxP_of (jlt j) ⟨_, _, st123.ldN 6 rfl (h9l _ _ _ _ _) (h9n _ _ _ _ _), _, st123.ld 7 rfl rfl, st123.new' fun b129 w130 st130 e130 => st130.new' fun b131 w132 st132 e132 => ⟨st132.ld 9 rfl rfl, st132.ldN 8 rfl (h9l _ _ _ _ _) (h9n _ _ _ _ _), ?_⟩⟩)⟩
      have x132 : Xt (p :: r :: b114 :: p' :: r' :: b6 :: b9 :: [b47]) w118 (b131 :: b129 :: p :: r :: b114 :: p' :: r' :: b6 :: b9 :: [b47]) w132 := (e123.trans e130).trans e132
      have x132' : Xt (u7 p r p' r' b6 b9 [b47]) w49 (b131 :: b129 :: p :: r :: b114 :: p' :: r' :: b6 :: b9 :: [b47]) w132 := (x117.trans e118).trans x132
      refine Cl_mono (K := fun v w134 => ∃ lv2 u2, v = .tup [.agg [lv2, .int .i64 last], .agg [.int .i64 x.num, .int .i64 x.src, .int .i64 x.dst, u2], .int .i64 er] ∧ Fr w132.size w132 w134 ∧ (rL rPk).rd (fz (fun _ => True) (b131 :: b129 :: p :: r :: b114 :: p' :: r' :: b6 :: b9 :: [b47])) w134 [lv2] N2 ∧ (rL rU).rd (fz (fun _ => True) (b131 :: b129 :: p :: r :: b114 :: p' :: r' :: b6 :: b9 :: [b47])) w134 [u2] x.body) ?_
        (s27 (N := N) hh st132.P (S.rl.x x132') S.ni.rise (by omega) (fun h w134 f134 => ?_) fun y hy v2 u2 w134 f134 hv2 hu2 => ?_)
      rotate_left
      · rcases hcase with ⟨_, rfl, rfl, rfl⟩ | ⟨h2, _⟩
        · exact ⟨_, _, rfl, f134, (S.rl.x x132').x (st132.call f134).2, Rp.rd.nil⟩
        · rw [h] at h2; cases h2
      · rcases hcase with ⟨h2, _⟩ | ⟨h2, rfl, rfl⟩
        · rw [hy] at h2; cases h2
        · rw [hy] at h2; cases h2
          exact ⟨_, _, rfl, f134, hv2, hu2⟩
      rintro _ w134 ⟨lv2, u2, rfl, f134, rl134, hu134⟩
      obtain ⟨st134, e134⟩ := st132.call f134
      refine ⟨_, _, _, _, _, _, _, rfl, gd_t (by simp only [List.all_cons, List.all_nil, rl134.ok1]; rfl) (st134.put 1 rfl (by simp) fun w142 st142 e142 => gd_t (by simp only [List.all_cons, List.all_nil, hu134.ok1]; rfl) (st142.put 0 rfl (by simp) fun w143 st143 e143 => ⟨_, _, st143.ldN 1 rfl rfl rfl, idxP_of (jlt j) (gd_t (by simp only [List.all_cons, List.all_nil, rl134.ok1]; rfl) (st143.put 8 rfl (h9b _ _ _ _ _ _ rfl) fun w148 st148 e148 => ifT_d (fun _ => ?_) fun h => absurd rfl h))⟩))⟩
      rw [h9p] at st148
      refine ⟨_, _, _, _, st148.ldN 4 rfl rfl rfl, gd_t (by simp only [List.all_cons, List.all_nil, hu118.ok1]; rfl) (st148.new' fun b153 w154 st154 e154 => ⟨_, _, _, _, st154.ldN 1 rfl rfl rfl, gd_t (by simp only [List.all_cons, List.all_nil, hu134.ok1]; rfl) (st154.new' fun b159 w160 st160 e160 => ?_)⟩)⟩
      obtain ⟨st161, e161, hA161, hb161⟩ := st160.drop
      obtain ⟨st162, e162, hA162, hb162⟩ := st161.drop
      have x160 : Xt (b131 :: b129 :: p :: r :: b114 :: p' :: r' :: b6 :: b9 :: [b47]) w134 (b131 :: b129 :: p :: r :: b114 :: p' :: r' :: b6 :: b9 :: [b47]) w160 := ((((((e142.trans e143).trans e148).trans e154).trans e160).trans e161).trans e162)
      have hu160 : (rL rU).rd (fz (fun _ => True) (b131 :: b129 :: p :: r :: b114 :: p' :: r' :: b6 :: b9 :: [b47])) w160 [u] x.body := (hu118.x (x132.trans e134)).x x160
      have ha : (rL rPk).rd (fz (fun _ => True) (b131 :: b129 :: p :: r :: b114 :: p' :: r' :: b6 :: b9 :: [b47])) w160 [.slice b153 0 1 1 none] [x] := Box.rd1 hb162 hA162 ⟨u, rfl, hu160⟩
      have hb' : (rL rPk).rd (fz (fun _ => True) (b131 :: b129 :: p :: r :: b114 :: p' :: r' :: b6 :: b9 :: [b47])) w160 [.slice b159 0 1 1 none] [x] := (Box.rd1 (r := rPk) (y := x) hb161 hA161 ⟨u2, rfl, (hu134.x (((((e142.trans e143).trans e148).trans e154).trans e160).trans e161))⟩).x e162
      refine s28 hh ha hb' (by simp) ⟨_, rfl, ?_⟩
      obtain ⟨st163, e163, _⟩ := st162.drop
      obtain ⟨st164, e164, _⟩ := st163.drop
      obtain ⟨st165, e165⟩ := st164.front 2 rfl
      obtain ⟨st166, e166, _⟩ := st165.drop
      have y160 := (((x160.trans e163).trans e164).trans e165).trans e166
      have z160 := (x132.trans e134).trans y160
      exact hJ _ _ ⟨rfl, _, _, _, _, _, _, _, _, _, _, _, _, st166, n118.en.x z160, S.en'.x ((x117.trans e118).trans z160), rl134.x y160, S.rl'.x ((x117.trans e118).trans z160), n118.ni, S.ni', by omega, by have := S.le'; omega⟩
    · -- Drop
      refine idxP_of (jlt j) (onM_s (S.ow.ld 4 rfl (h6 _ _ _)) ⟨_, S.ow.ld 6 rfl rfl, ?_⟩)
      refine Cl_mono (K := fun v w169 => ∃ (er : Int) (N2 : List Pk) (es2 : List (AV × AV)), v = .int .i64 er ∧ Nt (fun _ => True) [] w w169 p r N2 last es2 ((p', .row [.map r', .int .i64 last']) :: (r', .map e') :: (b6, .row (row6 j (.ptr p 0) (.ptr p' 0))) :: (b9, .row (row9 j l last l' last')) :: [(b47, .row [.int .i64 o.kind, .int .i64 o.on, .int .i64 o.src, .int .i64 o.dst, v45, .int .i64 o.num])])
        ∧ Xt (u7 p r p' r' b6 b9 [b47]) w49 (u7 p r p' r' b6 b9 [b47]) w169 ∧ ((look N o.num = none ∧ er = 100 ∧ N2 = N) ∨ ((∃ x, look N o.num = some x) ∧ er = 0 ∧ N2 = del N o.num))) ?_
        (s12 hh S.nt (fun h w169 n169 e169 => ⟨_, _, _, rfl, n169, e169, .inl ⟨h, rfl, rfl⟩⟩) fun x hx w169 es n169 e169 => ⟨_, _, _, rfl, n169, e169, .inr ⟨⟨x, hx⟩, rfl, rfl⟩⟩)
      rintro _ w169 ⟨er, N2, es2, rfl, n169, e169, hcase⟩
      refine ⟨_, rfl, idxP_of (jlt j) ⟨_, _, n169.ow.ldN 5 rfl (h9l _ _ _ _ _) (h9n _ _ _ _ _), _, n169.ow.ld 6 rfl rfl, n169.ow.new' fun b176 w177 st177 e177 => st177.new' fun b178 w179 st179 e179 => ⟨st179.ld 8 rfl rfl, st179.ldN 7 rfl (h9l _ _ _ _ _) (h9n _ _ _ _ _), ?_⟩⟩⟩
      have x179 := (e169.trans e177).trans e179
      refine Cl_mono (K := fun v w181 => ∃ lv2 x1 x2 x3 u2, v = .tup [.agg [lv2, .int .i64 last], .agg [.int .i64 x1, .int .i64 x2, .int .i64 x3, u2], .int .i64 er] ∧ okCell u2 = true ∧ Fr w179.size w179 w181 ∧ (rL rPk).rd (fz (fun _ => True) (b178 :: b176 :: u7 p r p' r' b6 b9 [b47])) w181 [lv2] N2) ?_
        (s27 (N := N) hh st179.P (S.rl.x x179) S.ni.rise (by omega) (fun h w181 f181 => ?_) fun y hy v2 u2 w181 f181 hv2 hu2 => ?_)
      rotate_left
      · rcases hcase with ⟨_, rfl, rfl⟩ | ⟨⟨x, h2⟩, _⟩
        · exact ⟨_, _, _, _, _, rfl, rfl, f181, (S.rl.x x179).x (st179.call f181).2⟩
        · rw [h] at h2; cases h2
      · rcases hcase with ⟨h2, _⟩ | ⟨_, rfl, rfl⟩
        · rw [hy] at h2; cases h2
        · exact ⟨_, _, _, _, _, rfl, hu2.ok1, f181, hv2⟩
      rintro _ w181 ⟨lv2, x1, x2, x3, u2, rfl, hok, f181, rl181⟩
      obtain ⟨st181, e181⟩ := st179.call f181
      refine ⟨_, _, _, _, _, _, _, rfl, gd_t (by simp only [List.all_cons, List.all_nil, rl181.ok1]; rfl) (st181.put 1 rfl (by simp) fun w189 st189 e189 => gd_t (by simp only [List.all_cons, List.all_nil, hok]; rfl) (st189.put 0 rfl (by simp) fun w190 st190 e190 => ⟨_, _, st190.ldN 1 rfl rfl rfl, idxP_of (jlt j) (gd_t (by simp only [List.all_cons, List.all_nil, rl181.ok1]; rfl) (st190.put 7 rfl (h9b _ _ _ _ _ _ rfl) fun w195 st195 e195 => ?_))⟩))⟩
      rw [h9p] at st195
      rw [show decide (er = er) = true from decide_eq_true rfl]
      obtain ⟨st196, e196, _⟩ := st195.drop
      obtain ⟨st197, e197, _⟩ := st196.drop
      have y195 := (((e189.trans e190).trans e195).trans e196).trans e197
      have z195 := ((e177.trans e179).trans e181).trans y195
      exact hJ _ _ ⟨rfl, _, _, _, _, _, _, _, _, _, _, _, _, st197, n169.en.x z195, S.en'.x (e169.trans z195), rl181.x y195, S.rl'.x (e169.trans z195), n169.ni, S.ni', by omega, by have := S.le'; omega⟩
    · -- Double
      refine idxP_of (jlt j) (onM_s (S.ow.ld 4 rfl (h6 _ _ _)) ⟨_, S.ow.ld 6 rfl rfl, ?_⟩)
      refine Cl_mono (K := fun v w201 => ∃ (a er : Int) (N2 : List Pk) (last2 : Int) (es2 : List (AV × AV)), v = .tup [.int .i64 a, .int .i64 er] ∧ Nt (fun _ => True) [] w w201 p r N2 last2 es2 ((p', .row [.map r', .int .i64 last']) :: (r', .map e') :: (b6, .row (row6 j (.ptr p 0) (.ptr p' 0))) :: (b9, .row (row9 j l last l' last')) :: [(b47, .row [.int .i64 o.kind, .int .i64 o.on, .int .i64 o.src, .int .i64 o.dst, v45, .int .i64 o.num])])
        ∧ Xt (u7 p r p' r' b6 b9 [b47]) w49 (u7 p r p' r' b6 b9 [b47]) w201 ∧ ((look N o.num = none ∧ a = 0 ∧ er = 100 ∧ N2 = N ∧ last2 = last) ∨ (∃ x, look N o.num = some x ∧ 256 ≤ N.length ∧ a = 0 ∧ er = 5 ∧ N2 = N ∧ last2 = last) ∨ (∃ x, look N o.num = some x ∧ N.length < 256 ∧ a = last + 1 ∧ er = 0 ∧ N2 = N ++ [⟨last + 1, x.src, x.dst, x.body⟩] ∧ last2 = last + 1))) ?_
        (s11 hh S.nt (by omega) (fun h w201 n e => ⟨_, _, _, _, _, rfl, n, e, .inl ⟨h, rfl, rfl, rfl, rfl⟩⟩) (fun x hx hf w201 n e => ⟨_, _, _, _, _, rfl, n, e, .inr (.inl ⟨x, hx, hf, rfl, rfl, rfl, rfl⟩)⟩) fun x hx hf w201 es n e => ⟨_, _, _, _, _, rfl, n, e, .inr (.inr ⟨x, hx, hf, rfl, rfl, rfl, rfl⟩)⟩)
      rintro _ w201 ⟨a, er, N2, last2, es2, rfl, n201, e201, hcase⟩
      refine ⟨_, _, rfl, idxP_of (jlt j) ⟨_, _, n201.ow.ldN 5 rfl (h9l _ _ _ _ _) (h9n _ _ _ _ _), _, n201.ow.ld 6 rfl rfl, n201.ow.new' fun b209 w210 st210 e210 => ⟨st210.ld 7 rfl rfl, st210.ldN 6 rfl (h9l _ _ _ _ _) (h9n _ _ _ _ _), ?_⟩⟩⟩
      have x210 := e201.trans e210
      have hle2 : last2 ≤ 301 + (i : Int) := by
        rcases hcase with ⟨_, _, _, _, h⟩ | ⟨_, _, _, _, _, _, h⟩ | ⟨_, _, _, _, _, _, h⟩ <;> omega
      refine Cl_mono (K := fun v w212 => ∃ lv2, v = .tup [.agg [lv2, .int .i64 last2], .int .i64 a, .int .i64 er] ∧ Fr w210.size w210 w212 ∧ (rL rPk).rd (fz (fun _ => True) (b209 :: u7 p r p' r' b6 b9 [b47])) w212 [lv2] N2) ?_
        (s29 (N := N) hh st210.P (S.rl.x x210) (by omega) S.ni.body (by omega) h0 (fun h w212 f212 => ?_) (fun y hy hf w212 f212 => ?_) fun y hy hf v2 w212 f212 hv2 => ?_)
      rotate_left
      · rcases hcase with ⟨_, rfl, rfl, rfl, rfl⟩ | ⟨x, h2, _⟩ | ⟨x, h2, _⟩
        · exact ⟨_, rfl, f212, (S.rl.x x210).x (st210.call f212).2⟩
        · rw [h] at h2; cases h2
        · rw [h] at h2; cases h2
      · rcases hcase with ⟨h2, _⟩ | ⟨x, h2, _, rfl, rfl, rfl, rfl⟩ | ⟨x, h2, h3, _⟩
        · rw [hy] at h2; cases h2
        · exact ⟨_, rfl, f212, (S.rl.x x210).x (st210.call f212).2⟩
        · omega
      · rcases hcase with ⟨h2, _⟩ | ⟨x, h2, h3, _⟩ | ⟨x, h2, _, rfl, rfl, rfl, rfl⟩
        · rw [hy] at h2; cases h2
        · omega
        · rw [hy] at h2; cases h2
          exact ⟨_, rfl, f212, hv2⟩
      rintro _ w212 ⟨lv2, rfl, f212, rl212⟩
      obtain ⟨st212, e212⟩ := st210.call f212
      refine ⟨_, _, _, _, rfl, gd_t (by simp only [List.all_cons, List.all_nil, rl212.ok1]; rfl) (st212.put 0 rfl (by simp) fun w217 st217 e217 => ⟨_, _, st217.ldN 0 rfl rfl rfl, idxP_of (jlt j) (gd_t (by simp only [List.all_cons, List.all_nil, rl212.ok1]; rfl) (st217.put 6 rfl (h9b _ _ _ _ _ _ rfl) fun w222 st222 e222 => ?_))⟩)⟩
      rw [h9p] at st222
      refine ifT_d (fun _ => ?_) fun h => absurd rfl h
      rw [show decide (er = er) = true from decide_eq_true rfl]
      obtain ⟨st223, e223, _⟩ := st222.drop
      have y222 := (e217.trans e222).trans e223
      have z222 := (e210.trans e212).trans y222
      exact hJ _ _ ⟨rfl, _, _, _, _, _, _, _, _, _, _, _, _, st223, n201.en.x z222, S.en'.x (e201.trans z222), rl212.x y222, S.rl'.x (e201.trans z222), n201.ni, S.ni', hle2, by have := S.le'; omega⟩
    · -- Copy
      refine idxP_of (jlt j) (onM_s (S.ow.ld 4 rfl (h6 _ _ _)) (idxP_of (jlt j) ⟨_, _, S.ow.ldN 5 rfl (h9l _ _ _ _ _) (h9n _ _ _ _ _), ?_⟩))
      refine s30 hh S.nt fun pc rc w231 st231 e231 => ⟨st231.ldN 7 rfl (h9l _ _ _ _ _) (h9n _ _ _ _ _), ?_⟩
      rw [jnot]
      refine idxP_of (jlt _) (gd_t rfl (st231.put 6 rfl (h6c _ _ _ _ rfl) fun w234 st234 e234 => ?_))
      rw [h6q] at st234
      refine ⟨st234.ldN 7 rfl (h9l _ _ _ _ _) (h9n _ _ _ _ _), idxP_of (jlt _) (gd_t (by simp only [List.all_cons, List.all_nil, S.rl.ok1]; rfl) (st234.put 7 rfl (h9c _ _ _ _ _ _ rfl) fun w237 st237 e237 => ?_))⟩
      rw [h9q] at st237
      obtain ⟨st238, e238⟩ := st237.front 5 rfl
      obtain ⟨st239, e239, _⟩ := st238.drop
      obtain ⟨st240, e240⟩ := st239.front 4 rfl
      obtain ⟨st241, e241, _⟩ := st240.drop
      have x241 := ((((((e231.trans e234).trans e237).trans e238).trans e239).trans e240).trans e241)
      have e6 : row6 j (.ptr p 0) (.ptr pc 0) = row6 (!j) (.ptr pc 0) (.ptr p 0) := by cases j <;> rfl
      have e9 : row9 j l last l last = row9 (!j) l last l last := by cases j <;> rfl
      rw [e6, e9] at st241
      have Sc : S7 (fun _ => True) (301 + i) w w237 b6 b9 (!j) pc rc e N last l p r e N last l [(b47, .row [.int .i64 o.kind, .int .i64 o.on, .int .i64 o.src, .int .i64 o.dst, v45, .int .i64 o.num])] :=
        ⟨st241, S.en.x x241, S.en.x x241, S.rl.x x241, S.rl.x x241, S.ni, S.ni, by omega, by omega⟩
      obtain ⟨p, r, e, N, last, l, p', r', e', N', last', l', Sd⟩ := Sc.to j
      exact hJ _ _ ⟨rfl, _, _, _, _, _, _, _, _, _, _, _, _, Sd⟩
  · intro J hJ
    refine loopP_ind (fun mm lv w' => ∃ i : Nat, i ≤ 250 ∧ mm = 250 - i ∧ lv = [.int .i64 i] ∧ ∃ p r e N last l p' r' e' N' last' l', S7 (fun _ => True) i w w' b6 b9 false p r e N last l p' r' e' N' last' l' []) ?_
      ⟨0, by omega, rfl, rfl, _, _, _, _, _, _, _, _, _, _, _, _, S0⟩
    clear S0
    rintro mm lv w240 ⟨i, hi, rfl, rfl, p, r, e, N, last, l, p', r', e', N', last', l', S⟩ R ih
    refine ⟨_, rfl, fun _ => ?_⟩
    cases many with
    | false => exact ifT_f (hJ _ _ ⟨rfl, _, _, _, _, _, _, _, _, _, _, _, _, S.up (by omega)⟩)
    | true =>
      refine ifT_t (ifT_d (fun hc => onM_s (S.ow.ld 4 rfl rfl) ?_) fun hc => hJ _ _ ⟨rfl, _, _, _, _, _, _, _, _, _, _, _, _, S.up (by omega)⟩)
      have hle := S.le
      have hcapN := S.ni.cap
      have h0 := S.ni.last0
      refine Cl_mono (K := fun v w76 => ∃ N2 last2 es2 a er, v = .tup [.int .i64 a, .int .i64 er] ∧ Nt (fun _ => True) [] w w76 p r N2 last2 es2 ((p', .row [.map r', .int .i64 last']) :: (r', .map e') :: (b6, .row (row6 false (.ptr p 0) (.ptr p' 0))) :: (b9, .row (row9 false l last l' last')) :: [])
        ∧ Xt (u7 p r p' r' b6 b9 []) w240 (u7 p r p' r' b6 b9 []) w76 ∧ ((256 ≤ N.length ∧ N2 = N ∧ last2 = last) ∨ (N.length < 256 ∧ N2 = N ++ [⟨last + 1, i, i, []⟩] ∧ last2 = last + 1))) ?_
        (s10 (s := []) (B := fun _ => True) hh S.nt (by omega) Rp.rd.nil (fun h => by simp at h) (fun h hf w76 n76 e76 => ⟨_, _, _, _, _, rfl, n76, e76, .inl ⟨hf, rfl, rfl⟩⟩) fun h hf w76 es n76 e76 => ⟨_, _, _, _, _, rfl, n76, e76, .inr ⟨hf, rfl, rfl⟩⟩)
      rintro _ w244 ⟨N2, last2, es2, a, er, rfl, n244, e244, hcase⟩
      obtain ⟨ow76, en76, ni76, en'76, rl76, rl'76⟩ := S.net n244 e244
      refine ⟨_, _, rfl, _, _, ow76.ldN 5 rfl rfl rfl, ?_⟩
      refine Cl_mono (K := fun v w89 => ∃ lv2 a er, v = .tup [.agg [lv2, .int .i64 last2], .int .i64 a, .int .i64 er] ∧ Fr w244.size w244 w89 ∧ (rL rPk).rd (fz (fun _ => True) (u7 p r p' r' b6 b9 [])) w89 [lv2] N2) ?_
        (s23 (N := N) (s := []) hh ow76.P rl76 Rp.rd.nil (by omega) (by omega) h0 (fun h => by simp at h) (fun h hf w89 f89 => ?_) fun h hf lv2 w89 f89 hv => ?_)
      rotate_left
      · rcases hcase with ⟨_, rfl, rfl⟩ | ⟨h2, _⟩
        · exact ⟨_, _, _, rfl, f89, rl76.x (ow76.call f89).2⟩
        · omega
      · rcases hcase with ⟨h2, _⟩ | ⟨_, rfl, rfl⟩
        · omega
        · exact ⟨_, _, _, rfl, f89, hv⟩
      rintro _ w250 ⟨lv2, a', er', rfl, f250, rl250⟩
      obtain ⟨st250, e250⟩ := ow76.call f250
      refine ⟨_, _, _, _, rfl, gd_t (by simp only [List.all_cons, List.all_nil, rl250.ok1]; rfl) (st250.put 5 rfl (by simp [row9]) fun w255 st255 e255 => ?_)⟩
      have hp := h9p false l l' lv2 last last' last2
      have st255 : Ow (fun _ => True) [] w w255 ((p, .row [.map r, .int .i64 last2]) :: (r, .map es2) :: (p', .row [.map r', .int .i64 last']) :: (r', .map e') :: (b6, .row (row6 false (.ptr p 0) (.ptr p' 0))) :: (b9, .row (row9 false lv2 last2 l' last')) :: []) := st255
      refine ih (250 - (i + 1)) (by omega) _ _ ⟨i + 1, by omega, rfl, by rw [wi_eq (by omega) (by omega)]; rfl, _, _, _, _, _, _, _, _, _, _, _, _, st255, en76.x (e250.trans e255), en'76.x (e250.trans e255), rl250.x e255, rl'76.x (e250.trans e255), ni76, S.ni', by rcases hcase with ⟨_, _, h⟩ | ⟨_, _, h⟩ <;> omega, by have := S.le'; omega⟩
end
end Go.Proofs.Ytingojpcdpelaaa
