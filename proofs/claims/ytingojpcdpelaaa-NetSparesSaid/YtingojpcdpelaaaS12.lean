/-
  NetSpares, over memory.
  No condition beyond those that each theorem names.
-/
import Derived.Test.YtingojpcdpelaaaP12
import Derived.Test.YtingojpcdpelaaaSxq
set_option linter.unusedSimpArgs false
open Go.Sx
set_option linter.unusedVariables false
namespace Go.Proofs.Ytingojpcdpelaaa

theorem Net.keep {n0 : Nat} {w w' : AW} {b r : Nat} {N : List Pk} {last : Int} (h : Net n0 w b r N last) (hm : Mem w) (hf : ∀ c, n0 ≤ c → c < w.size → w'.get c = w.get c) : Net n0 w' b r N last := by
  obtain ⟨es, cl, h1, h2⟩ := h.map
  refine ⟨h.b0, h.nb, h.nr, (hf _ h.nb (h.lt hm).1).trans h.box, ⟨es, cl, (hf _ h.nr (h.lt hm).2).trans h1, h2.mono fun x v ⟨bv, e, hb⟩ => ⟨bv, e, ?_⟩⟩, h.rise, h.low, h.last0, h.cap⟩
  rcases hb with hb | ⟨c, ex, e1, e2, e3, e4⟩
  · exact .inl hb
  · exact .inr ⟨c, ex, e1, e2, e3, (hf _ e3 (e4.lt hm)).trans e4⟩
theorem PkS.fr {n0 : Nat} {w w' : AW} {v : AV} {l : List Pk} (h : PkS n0 w v l) (hm : Mem w) (hf : Fr w.size w w') : PkS n0 w' v l := by
  obtain ⟨cs, h1, h2, h3⟩ := h
  exact ⟨cs, h1.fr hm hf (Nat.le_refl _), h2.mono fun v s hb => hb.fr hm hf (Nat.le_refl _), h3⟩
/-- Two packets read. -/
theorem PkS.two {n0 : Nat} {w : AW} {v : AV} {x y : Pk} (h : PkS n0 w v [x, y]) (hm : Mem w) : lenS v = some (.int .i64 2) ∧ ∃ u0 u1, BS n0 w u0 x.body ∧ BS n0 w u1 y.body ∧ (∀ c c', blk u0 = some c → blk u1 = some c' → c < c') ∧
    (∀ K : Nat → Nat → Prop, (∀ b o, ld w b (o + 3) = some u0 → b < w.size → K b o) → atP (idxS 4 v (.int .i64 0)) K) ∧ ∀ K : Nat → Nat → Prop, (∀ b o, ld w b (o + 3) = some u1 → b < w.size → K b o) → atP (idxS 4 v (.int .i64 1)) K := by
  obtain ⟨cs, h1, h2, h3⟩ := h
  have hl := h2.length
  simp at hl
  have hrs := h1.rs (by decide)
  rw [hl] at hrs
  obtain ⟨u0, _, _, _, g0, b0⟩ := h2.get 0 (by simp)
  obtain ⟨u1, _, _, _, g1, b1⟩ := h2.get 1 (by simp)
  refine ⟨hrs.len, u0, u1, b0, b1, fun c c' e0 e1 => h3 0 1 c c' (by decide) (by rw [g0]; exact e0) (by rw [g1]; exact e1), fun K hK => hrs.at (i := 0) (by decide) (by decide) fun b o hf _ => ?_, fun K hK => hrs.at (i := 1) (by decide) (by decide) fun b o hf _ => ?_⟩
  · have := hf 3 (by decide)
    have h4 := this.trans g0
    refine hK b o h4 ?_
    unfold ld at h4
    cases hc : w.cells? b with
    | none => rw [hc] at h4; cases h4
    | some c => obtain ⟨_, _, h, _⟩ := hm.cells_fam hc; exact h
  · have := hf 3 (by decide)
    have h4 := this.trans g1
    refine hK b o h4 ?_
    unfold ld at h4
    cases hc : w.cells? b with
    | none => rw [hc] at h4; cases h4
    | some c => obtain ⟨_, _, h, _⟩ := hm.cells_fam hc; exact h

/-- NetSpares. -/
theorem s6 {hk : Hook} {w : AW} {v : AV} {s : List UInt8} (hh : HK hk) (hm : Mem w) (hw : 0 < w.size) (h : RsB w v s) (hcap : ∀ b o n cap ex, v = .slice b o n cap ex → n ≤ cap ∧ ex = none) :
    Cl Try.prog hk 6 [v] w fun r _ => r = .bool true := by
  apply in6 (hh.no _ _ _ (by decide) (by decide))
  unfold F6
  refine ⟨_, h.len, ?_⟩
  rw [show imin ((s.length : Nat) : Int) 3000 = ((min s.length 3000 : Nat) : Int) from imin_nat s.length 3000]
  obtain ⟨b2, hsl, hb2⟩ := cutB (k := min s.length 3000) h hcap (by omega)
  refine onM_s hsl ?_
  generalize hs' : s.take (min s.length 3000) = s' at hb2
  have hlen : s'.length ≤ 3000 := by rw [← hs']; simp; omega
  refine s21 hh hm hb2 (by omega) fun r3 w4 f4 hr3 hblk3 => ?_
  have hs4 := f4.size
  refine s9 (n0 := w4.size) hh f4.mem (by omega) (Nat.le_refl _) fun b r w6 hb hr f6 hN6 => ?_
  have hs6 := f6.size
  refine s10 hh f6.mem (by omega) hN6 (by omega) (by omega) (Src.old f4.mem hr3.rs f6 hb) (fun h => by omega) (fun _ h => by simp at h) fun _ _ w8 c8 hN8 => ?_
  have hs8 := c8.size
  refine ⟨_, _, rfl, ?_⟩
  have hbody : ∀ (N : List Pk), (∀ x ∈ N, x.body = s') → ∀ x ∈ N, x.body.length < 2 ^ 40 := fun N h x hx => by rw [h x hx]; omega
  rw [List.nil_append] at hN8
  have hlook : look [⟨0 + 1, 1, 2, s'⟩] 1 = some ⟨1, 1, 2, s'⟩ := by simp [look]
  refine s11 hh c8.mem (by omega) hN8 (by omega) (by omega) (hbody _ (by simp)) (fun h => by rw [hlook] at h; cases h) (fun _ _ h => by simp at h) fun x hx _ w12 c12 hN12 => ?_
  rw [hlook] at hx
  cases hx
  have hs12 := c12.size
  refine ⟨_, _, rfl, ?_⟩
  have hN12 : Net w4.size w12 b r [⟨1, 1, 2, s'⟩, ⟨2, 1, 2, s'⟩] 2 := hN12
  refine s14 hh c12.mem (by omega) hN12 (by omega) (by omega) (hbody _ (by simp)) fun r15 w16 f16 hl16 => ?_
  have hs16 := f16.size
  have hN16 := hN12.fr c12.mem f16
  refine s14 hh f16.mem (by omega) hN16 (by omega) (by omega) (hbody _ (by simp)) fun r17 w18 f18 hm18 => ?_
  have hs18 := f18.size
  have hl18 := hl16.fr f16.mem f18
  refine ifT_nd (fun h => absurd (by decide) h) fun _ => ?_
  obtain ⟨e1, _⟩ := hl18.two f18.mem
  obtain ⟨_, v0, v1, hv0, hv1, hv01, hi0, hi1⟩ := hl16.two f16.mem
  obtain ⟨e2, u0, u1, hu0, hu1, hu01, hj0, hj1⟩ := hm18.two f18.mem
  refine ⟨_, e1, ifT_nd (fun h => absurd rfl h) fun _ => ⟨_, e2, ifT_nd (fun h => absurd rfl h) fun _ => ?_⟩⟩
  refine hi0 _ fun p0 q0 hl0 hp0 => onM_s (ld_fr hl0 f16.mem f18) ?_
  refine hi1 _ fun p1 q1 hl1 hp1 => onM_s (ld_fr hl1 f16.mem f18) ?_
  refine hj0 _ fun p2 q2 hl2 hp2 => onM_s hl2 ?_
  refine hj1 _ fun p3 q3 hl3 hp3 => onM_s hl3 ?_
  refine gd_t hv0.ok (gd_t hv1.ok (gd_t hu0.ok (gd_t hu1.ok (gd_t hr3.ok (new_of f18.mem fun w34 f34 b34 z34 => ?_)))))
  refine ⟨ld_fr hl3 f18.mem f34, ld_fr hl2 f18.mem f34, ld_fr (ld_fr hl1 f16.mem f18) f18.mem f34, ld_fr (ld_fr hl0 f16.mem f18) f18.mem f34, ?_⟩
  -- all lie apart
  have hs34 := f34.size
  have f1234 : Fr w12.size w12 w34 := (f16.trans f18 (by omega)).trans f34 (by omega)
  have f412 : Fr w4.size w4 w12 := f6.trans ((c8.trans c12).fr (n := w4.size) (by omega) (by simp; omega)) (Nat.le_refl _)
  have f434 : Fr w4.size w4 w34 := f412.trans f1234 (by omega)
  have t0 := (hv0.fr f16.mem f18 (Nat.le_refl _)).fr f18.mem f34 (Nat.le_refl _)
  have t1 := (hv1.fr f16.mem f18 (Nat.le_refl _)).fr f18.mem f34 (Nat.le_refl _)
  have t2 := hu0.fr f18.mem f34 (Nat.le_refl _)
  have t3 := hu1.fr f18.mem f34 (Nat.le_refl _)
  have t4 := hr3.fr f4.mem f434 (Nat.le_refl _)
  have l0 := fun c (hc : blk v0 = some c) => hv0.blk_lt f16.mem hc
  have l1 := fun c (hc : blk v1 = some c) => hv1.blk_lt f16.mem hc
  have l2 := fun c (hc : blk u0 = some c) => hu0.blk_lt f18.mem hc
  have l3 := fun c (hc : blk u1 = some c) => hu1.blk_lt f18.mem hc
  have l4 := fun c (hc : blk r3 = some c) => hr3.blk_lt f4.mem hc
  refine s22 (vs := [v0, v1, u0, u1, r3]) (ss := fun _ => s') hh f34.mem (by omega) (by simp) b34 (fun j hj => ?_) (fun _ _ => by omega) (pair_ix ?_) (fun j hj => ?_) fun w36 z36 m36 k36 => ?_
  · match j, hj with
    | 0, _ => exact t0.le (by omega)
    | 1, _ => exact t1.le (by omega)
    | 2, _ => exact t2.le (by omega)
    | 3, _ => exact t3.le (by omega)
    | 4, _ => exact t4.le (by omega)
  · simp only [List.pairwise_cons, List.mem_cons, List.not_mem_nil, or_false, List.Pairwise.nil, and_true, forall_eq_or_imp, forall_eq]
    refine ⟨⟨fun c h h' => ?_, fun c h h' => ?_, fun c h h' => ?_, fun c h h' => ?_⟩, ⟨fun c h h' => ?_, fun c h h' => ?_, fun c h h' => ?_⟩, ⟨fun c h h' => ?_, fun c h h' => ?_⟩, ⟨fun c h h' => ?_, fun _ h => h.elim⟩⟩
    · have := hv01 _ _ h h'; omega
    · have := l0 _ h; have := l2 _ h'; omega
    · have := l0 _ h; have := l3 _ h'; omega
    · have := l0 _ h; have := l4 _ h'; omega
    · have := l1 _ h; have := l2 _ h'; omega
    · have := l1 _ h; have := l3 _ h'; omega
    · have := l1 _ h; have := l4 _ h'; omega
    · have := hu01 _ _ h h'; omega
    · have := l2 _ h; have := l4 _ h'; omega
    · have := l3 _ h; have := l4 _ h'; omega
  · intro e
    match j, hj with
    | 0, _ => have := l0 _ e; omega
    | 1, _ => have := l1 _ e; omega
    | 2, _ => have := l2 _ e; omega
    | 3, _ => have := l3 _ e; omega
    | 4, _ => have := l4 _ e; omega
  have k36' : ∀ c, c < w34.size → blk v0 ≠ some c → blk v1 ≠ some c → blk u0 ≠ some c → blk u1 ≠ some c → blk r3 ≠ some c → w36.get c = w34.get c := fun c hc a0 a1 a2 a3 a4 => k36 c hc fun j hj => by
    match j, hj with
    | 0, _ => exact a0
    | 1, _ => exact a1
    | 2, _ => exact a2
    | 3, _ => exact a3
    | 4, _ => exact a4
  have hN36 : Net w4.size w36 b r [⟨1, 1, 2, s'⟩, ⟨2, 1, 2, s'⟩] 2 := hN12.keep c12.mem fun c h1 h2 => by
    rw [k36' c (by omega) (fun e => by have := l0 _ e; omega) (fun e => by have := l1 _ e; omega) (fun e => by have := l2 _ e; omega) (fun e => by have := l3 _ e; omega) (fun e => by have := l4 _ e; omega)]
    exact f1234.old c h2
  have f36 : Fr w.size w w36 := ⟨by omega, fun c hc => by
    rw [k36' c (by omega) (fun e => by have := l0 _ e; omega) (fun e => by have := l1 _ e; omega) (fun e => by have := l2 _ e; omega) (fun e => by have := l3 _ e; omega) (fun e => by have := l4 _ e; omega)]
    exact (f4.trans f434 (by omega)).old c hc, m36⟩
  refine ⟨_, rfl, ?_⟩
  -- what is delivered
  have hk1 : look [⟨1, 1, 2, s'⟩, ⟨2, 1, 2, s'⟩] 1 = some ⟨1, 1, 2, s'⟩ := by simp [look]
  have hd1 : del [⟨1, 1, 2, s'⟩, ⟨2, 1, 2, s'⟩] 1 = [⟨2, 1, 2, s'⟩] := by simp [del]
  have hk2 : look [⟨2, 1, 2, s'⟩] 2 = some ⟨2, 1, 2, s'⟩ := by simp [look]
  refine s13 hh m36 (by omega) hN36 (by omega) (hbody _ (by simp)) (fun h => by rw [hk1] at h; cases h) fun x hx p w39 c39 hN39 hp39 => ?_
  rw [hk1] at hx; cases hx
  rw [hd1] at hN39
  have hs39 := c39.size
  refine ⟨_, _, _, _, _, rfl, new_of c39.mem fun w46 f46 b46 z46 => gd_t (by simp only [List.all_cons, List.all_nil, hp39.ok]; rfl) ?_⟩
  refine b46.put' f46.mem (by omega) (by simp) fun w47 c47 b47 z47 => ?_
  have b47 : Box w47 w39.size [.int .i64 1, .int .i64 1, .int .i64 2, p] := b47
  have hN47 := (hN39.fr c39.mem f46).ch f46.mem c47 (by have := hN39.lt c39.mem; omega) (by have := hN39.lt c39.mem; omega) (not_bytes b46 (by simp))
  have hp47 := (hp39.fr c39.mem f46 (Nat.le_refl _)).ch f46.mem c47 fun z hz => by simp at hz; subst hz; exact not_bytes b46 (by simp)
  have hr47 := hN47.lt c47.mem
  refine s13 hh c47.mem (by omega) hN47 (by omega) (hbody _ (by simp)) (fun h => by rw [hk2] at h; cases h) fun x hx q w49 c49 hN49 hq49 => ?_
  rw [hk2] at hx; cases hx
  have hs49 := c49.size
  have hrn : r ≠ w39.size := by have := hN39.lt c39.mem; omega
  obtain ⟨es, cl, hmap47, _⟩ := hN47.map
  have hp49 := hp47.ch c47.mem c49 fun z hz => by simp at hz; subst hz; exact not_bytes_map hmap47
  have b49 : Box w49 w39.size [.int .i64 1, .int .i64 1, .int .i64 2, p] := c49.box c47.mem b47 (by simp; exact Ne.symm hrn)
  refine ⟨_, _, _, _, _, rfl, new_of c49.mem fun w56 f56 b56 z56 => gd_t (by simp only [List.all_cons, List.all_nil, hq49.ok]; rfl) ?_⟩
  refine b56.put' f56.mem (by omega) (by simp) fun w57 c57 b57 z57 => ?_
  have b57 : Box w57 w49.size [.int .i64 2, .int .i64 1, .int .i64 2, q] := b57
  have bb57 : Box w57 w39.size [.int .i64 1, .int .i64 1, .int .i64 2, p] := c57.box f56.mem (b49.fr f56 (by omega)) (by simp; omega)
  have hp57 := (hp49.fr c49.mem f56 (Nat.le_refl _)).ch f56.mem c57 fun z hz => by simp at hz; subst hz; exact not_bytes b56 (by simp)
  have hq57 := (hq49.fr c49.mem f56 (Nat.le_refl _)).ch f56.mem c57 fun z hz => by simp at hz; subst hz; exact not_bytes b56 (by simp)
  have f57 : Fr w.size w w57 := by
    have a1 : Fr w.size w36 w39 := c39.fr (n := w.size) (by omega) (by simp; have := hN36.nr; omega)
    have a2 : Fr w.size w46 w47 := c47.fr (n := w.size) (by omega) (by simp; omega)
    have a3 : Fr w.size w47 w49 := c49.fr (n := w.size) (by omega) (by simp; have := hN36.nr; omega)
    have a4 : Fr w.size w56 w57 := c57.fr (n := w.size) (by omega) (by simp; omega)
    exact (((((f36.trans a1 (Nat.le_refl _)).trans f46 (by omega)).trans a2 (Nat.le_refl _)).trans a3 (Nat.le_refl _)).trans f56 (by omega)).trans a4 (Nat.le_refl _)
  have hb57 := hb2.fr hm f57 (Nat.le_refl _)
  refine ifT_t (ifT_d (fun _ => ?_) fun h => absurd (by decide) h)
  refine onM_s (v := p) (by rw [bb57.ld]; rfl) ?_
  refine s17 hh hp57.rs hb57 ⟨_, rfl, ?_⟩
  rw [show (s' == s') = true by simp]
  refine ifT_t (onM_s (v := q) (by rw [b57.ld]; rfl) ?_)
  refine s17 hh hq57.rs hb57 ⟨_, rfl, ?_⟩
  rw [show (s' == s') = true by simp]
  refine ifT_t (onM_s (v := p) (by rw [bb57.ld]; rfl) (onM_s (v := q) (by rw [b57.ld]; rfl) (gd_t hp57.ok (gd_t hq57.ok (new_of c57.mem fun w69 f69 b69 z69 => ?_)))))
  have lp := fun c (hc : blk p = some c) => hp47.blk_lt c47.mem hc
  have lq := fun c (hc : blk q = some c) => hq49.blk_lt c49.mem hc
  refine s22 (vs := [p, q]) (ss := fun _ => s') hh f69.mem (by omega) (by simp) b69 (fun j hj => ?_) (fun _ _ => by omega) (pair_ix ?_) (fun j hj => ?_) fun w71 z71 m71 k71 => ?_
  · match j, hj with
    | 0, _ => exact (hp57.fr c57.mem f69 (Nat.le_refl _)).le (by omega)
    | 1, _ => exact (hq57.fr c57.mem f69 (Nat.le_refl _)).le (by omega)
  · simp only [List.pairwise_cons, List.mem_cons, List.not_mem_nil, or_false, List.Pairwise.nil, and_true, forall_eq]
    exact ⟨fun c h h' => by have := lp _ h; have := lq _ h'; omega, fun _ h => h.elim⟩
  · intro e
    match j, hj with
    | 0, _ => have := lp _ e; omega
    | 1, _ => have := lq _ e; omega
  · exact ⟨_, rfl, ifT_t (Cl_hook (hh.awake _) ⟨_, rfl, rfl⟩)⟩
end Go.Proofs.Ytingojpcdpelaaa
