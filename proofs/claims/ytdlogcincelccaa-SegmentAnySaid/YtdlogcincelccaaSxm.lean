/-
  Calls whose order plays no part, as hooks.
  No condition beyond those that each theorem names.
-/
import Derived.Test.YtdlogcincelccaaSxl
set_option linter.unusedVariables false
set_option linter.unusedSimpArgs false
/-! A call whose order plays no part, as a hook: every order is tried, and all come to one memory but for what nobody looks at. -/
namespace Go.Sx
open Go.ChangeShapes Go.WideShapes
def Sim (x y : Option AO) : Prop := x = y ∨ (∃ o, x = some o ∧ y = some .gone ∧ (match o with | .cells .. => False | .map .. => False | _ => True)) ∨
  ∃ es es' c, x = some (.map es c) ∧ y = some (.map es' c) ∧ es.Perm es' ∧ (es'.map (·.1)).Pairwise fun a b => a.beq b = false
theorem EsR.perm {m : Emb} {es es' : List (AV × AV)} (hp : es.Perm es') : ∀ {l : List MapEntry}, EsR m es l → ∃ l', l.Perm l' ∧ EsR m es' l' := by
  induction hp with
  | nil => exact fun {l} h => ⟨l, .refl _, h⟩
  | cons x _ ih =>
    intro l h
    obtain ⟨e, l1, rfl, h1, h2, h3⟩ := h
    obtain ⟨l2, hp2, h4⟩ := ih h3
    exact ⟨e :: l2, hp2.cons e, ⟨e, l2, rfl, h1, h2, h4⟩⟩
  | swap x y l0 =>
    intro l h
    obtain ⟨e, l1, rfl, h1, h2, e', l2, rfl, h3, h4, h5⟩ := h
    exact ⟨e' :: e :: l2, List.Perm.swap _ _ _, ⟨e', _, rfl, h3, h4, e, l2, rfl, h1, h2, h5⟩⟩
  | trans _ _ ih1 ih2 =>
    intro l h
    obtain ⟨l1, hp1, h1⟩ := ih1 h
    obtain ⟨l2, hp2, h2⟩ := ih2 h1
    exact ⟨l2, hp1.trans hp2, h2⟩
theorem MapR.perm {m : Emb} {es es' : List (AV × AV)} {l : List MapEntry} (hp : es.Perm es') (hd : (es'.map (·.1)).Pairwise fun a b => a.beq b = false) (h : MapR m es l) : MapR m es' l := by
  obtain ⟨⟨l1, h1, h2⟩, _⟩ := h
  obtain ⟨l2, h3, h4⟩ := EsR.perm hp h2
  exact ⟨⟨l2, h3.symm.trans h1, h4⟩, hd⟩
section
variable {P : Program} {W0 : World} {N0 : Nat} {m : Emb} {w w' : AW} {W : World}
theorem Sim.cells {x y : Option AO} (h : Sim x y) {cs : List AV} {f own : Nat} {d : Bool} : x = some (.cells cs f own d) ↔ y = some (.cells cs f own d) := by
  rcases h with rfl | ⟨o, rfl, rfl, ho⟩ | ⟨es, es', c, rfl, rfl, _⟩
  · exact Iff.rfl
  · constructor
    · intro e; cases e; exact ho.elim
    · intro e; cases e
  · constructor <;> intro e <;> cases e
theorem sim_root (hg : ∀ b, Sim (w.get b) (w'.get b)) (f : Nat) : w'.root? f = w.root? f := by
  unfold AW.root?
  rcases hg f with h | ⟨o, h1, h2, ho⟩ | ⟨es, es', c, h1, h2, _⟩
  · rw [h]
  · rw [h1, h2]
    cases o <;> first | exact ho.elim | rfl
  · rw [h1, h2]
theorem sim_fam (hg : ∀ b, Sim (w.get b) (w'.get b)) (b : Nat) : w'.fam? b = w.fam? b := by
  unfold AW.fam?
  rcases hg b with h | ⟨o, h1, h2, ho⟩ | ⟨es, es', c, h1, h2, _⟩
  · rw [h]
    cases hb : w'.get b with
    | none => rfl
    | some o => cases o <;> first | rfl | exact sim_root hg _
  · rw [h1, h2]
    cases o <;> first | exact ho.elim | rfl
  · rw [h1, h2]
theorem sim_cells (hg : ∀ b, Sim (w.get b) (w'.get b)) (b : Nat) : w'.cells? b = w.cells? b := by
  unfold AW.cells?
  rw [sim_fam hg b]
  rcases hg b with h | ⟨o, h1, h2, ho⟩ | ⟨es, es', c, h1, h2, _⟩
  · rw [h]
  · rw [h1, h2]
    cases o <;> first | exact ho.elim | rfl
  · rw [h1, h2]
    rfl
theorem Rel.sim (h : Rel W0 N0 m w W) (hs : w'.size = w.size) (hg : ∀ b, Sim (w.get b) (w'.get b)) : Rel W0 N0 m w' W where
  env := h.env
  pos := by rw [hs]; exact h.pos
  dom := fun b p hb => by rw [hs]; exact h.dom b p hb
  old := h.old
  obj := fun b p hb => by
    obtain ⟨o, ho, hr⟩ := h.obj b p hb
    have same : ∀ {o' : AO}, OR N0 m w b p W o' → OR N0 m w' b p W o' := by
      intro o' hr
      cases o' with
      | cells cs f own d =>
        obtain ⟨c, e, fr, x, h1, h2, h3, h4, h5, h6⟩ := hr
        exact ⟨c, e, fr, x, h1, h2, by rw [sim_fam hg]; exact h3, h4, h5, fun cs hc => h6 cs (by rw [sim_cells hg] at hc; exact hc)⟩
      | mapIter r es ver rest last =>
        cases r with
        | none => exact hr
        | some r =>
          obtain ⟨hN, h0, q, since, seen, st, esn, vn, h1, h2, h3, h4⟩ := hr
          have : ∃ esn', w'.get r = some (.map esn' vn) := by
            rcases hg r with h | ⟨o, e1, e2, ho⟩ | ⟨es, es', c, e1, e2, _⟩
            · exact ⟨esn, by rw [← h]; exact h3⟩
            · rw [h3] at e1; cases e1; exact ho.elim
            · rw [h3] at e1; cases e1; exact ⟨es', e2⟩
          obtain ⟨esn', h3'⟩ := this
          exact ⟨hN, h0, q, since, seen, st, esn', vn, h1, h2, h3', h4⟩
      | map es c => exact hr
      | loop st pending fn tmps params assign body d => exact hr
      | deferred => exact hr
      | strIter s pos => exact hr
      | gone => exact hr
    rcases hg b with e | ⟨o1, e1, e2, hn⟩ | ⟨es, es', c, e1, e2, hp, hd⟩
    · exact ⟨o, by rw [← e]; exact ho, same hr⟩
    · rw [ho] at e1
      cases e1
      have hlt := hr.lt
      refine ⟨.gone, e2, ?_, hlt⟩
      cases o with
      | cells => exact hn.elim
      | map => exact hn.elim
      | loop => exact hr.1
      | deferred => exact hr.1
      | mapIter r es ver rest last => cases r <;> exact hr.1
      | strIter => exact hr.1
      | gone => exact hr.1
    · rw [ho] at e1
      cases e1
      obtain ⟨hN, ces, cl, h1, h2, h3⟩ := hr
      exact ⟨.map es' c, e2, hN, ces, cl, h1, h2.perm hp hd, h3⟩
  sep := fun b b' p p' h1 h2 h3 h4 => by
    rw [sim_fam hg, sim_fam hg]; exact h.sep b b' p p' h1 h2 h3 h4
  tip := fun b b' p p' x cs cs' h1 h2 h3 h4 h5 h6 h7 h8 => by
    rw [sim_fam hg] at h4 h5
    rw [sim_cells hg] at h7 h8
    exact h.tip b b' p p' x cs cs' h1 h2 h3 h4 h5 h6 h7 h8
  single := fun b x h1 h2 h3 h4 => h.single b x (by rw [sim_fam hg] at h1; exact h1) h2 h3 h4
  wf := fun b hb => by
    rw [hs] at hb
    have := h.wf b hb
    rcases hg b with e | ⟨o1, e1, _⟩ | ⟨_, _, _, e1, _⟩
    · rw [← e]; exact this
    · rw [this] at e1; cases e1
    · rw [this] at e1; cases e1
  wfF := fun b cs f own d hb => by rw [hs]; exact h.wfF b cs f own d ((hg b).cells.2 hb)
  root0 := fun b p cs own d h1 h2 h3 => h.root0 b p cs own d h1 h2 ((hg b).cells.2 h3)
end
-- the test
def permF : List (AV × AV) → List (AV × AV) → Bool
  | [], ys => ys.isEmpty
  | x :: xs, ys => match takeF x ys with
    | some r => permF xs r
    | none => false
where takeF (x : AV × AV) : List (AV × AV) → Option (List (AV × AV))
  | [] => none
  | y :: ys => if AV.beq x.1 y.1 && AV.beq x.2 y.2 then some ys else (takeF x ys).map fun r => y :: r
theorem takeF_ok {x : AV × AV} : ∀ {ys r : List (AV × AV)}, permF.takeF x ys = some r → (x :: r).Perm ys
  | [], r, h => by cases h
  | y :: ys, r, h => by
    simp only [permF.takeF] at h
    split at h
    · rename_i hb
      cases h
      rw [Bool.and_eq_true] at hb
      have : x = y := Prod.ext (AV.beq_eq _ _ hb.1) (AV.beq_eq _ _ hb.2)
      subst this
      exact .refl _
    · cases ht : permF.takeF x ys with
      | none => rw [ht] at h; cases h
      | some r' =>
        rw [ht] at h
        cases h
        exact (List.Perm.swap y x r').trans ((takeF_ok ht).cons y)
theorem permF_ok : ∀ {xs ys : List (AV × AV)}, permF xs ys = true → xs.Perm ys
  | [], ys, h => by
    have : ys = [] := by simpa [permF] using h
    subst this; exact .refl _
  | x :: xs, ys, h => by
    simp only [permF] at h
    split at h
    · rename_i r hr
      exact ((permF_ok h).cons x).trans (takeF_ok hr)
    · cases h
def apartF : List (AV × AV) → Bool
  | [] => true
  | x :: xs => (xs.all fun y => !(AV.beq x.1 y.1)) && apartF xs
theorem apartF_ok : ∀ {xs : List (AV × AV)}, apartF xs = true → (xs.map (·.1)).Pairwise fun a b => a.beq b = false
  | [], _ => .nil
  | x :: xs, h => by
    simp only [apartF, Bool.and_eq_true] at h
    refine List.Pairwise.cons ?_ (apartF_ok h.2)
    intro b hb
    obtain ⟨y, hy, rfl⟩ := List.mem_map.1 hb
    simpa using List.all_eq_true.1 h.1 y hy
def sameEs : List (AV × AV) → List (AV × AV) → Bool
  | [], [] => true
  | x :: xs, y :: ys => AV.beq x.1 y.1 && AV.beq x.2 y.2 && sameEs xs ys
  | _, _ => false
theorem sameEs_ok : ∀ {xs ys : List (AV × AV)}, sameEs xs ys = true → xs = ys
  | [], [], _ => rfl
  | [], _ :: _, h => by cases h
  | _ :: _, [], h => by cases h
  | x :: xs, y :: ys, h => by
    simp only [sameEs, Bool.and_eq_true] at h
    rw [sameEs_ok h.2, Prod.ext (AV.beq_eq _ _ h.1.1) (AV.beq_eq _ _ h.1.2)]
def bEq (a b : Bool) : Bool := cond a b (!b)
theorem bEq_ok {a b : Bool} (h : bEq a b = true) : a = b := by cases a <;> cases b <;> first | rfl | cases h
def simO (old : Bool) : AO → AO → Bool
  | .cells cs f o d, .cells cs' f' o' d' => AV.beqL cs cs' && (Nat.beq f f' && (Nat.beq o o' && bEq d d'))
  | .map es c, .map es' c' => Nat.beq c c' && cond old (sameEs es es') (permF es es' && apartF es')
  | .deferred, .deferred => true
  | .gone, .gone => true
  | .strIter .., .gone => !old
  | .mapIter .., .gone => !old
  | .deferred, .gone => !old
  | _, _ => false
def NewOk (old : Bool) (x y : Option AO) : Prop := Sim x y ∧ (old = true → x = y)
theorem simO_ok {old : Bool} {x y : AO} (h : simO old x y = true) : NewOk old (some x) (some y) := by
  unfold simO at h
  split at h
  · simp only [Bool.and_eq_true] at h
    obtain ⟨h1, h2, h3, h4⟩ := h
    have := AV.beqL_eq _ _ h1
    have e2 := beq_iff.1 h2
    have e3 := beq_iff.1 h3
    have e4 := bEq_ok h4
    subst this e2 e3 e4
    exact ⟨.inl rfl, fun _ => rfl⟩
  · simp only [Bool.and_eq_true] at h
    obtain ⟨h1, h2⟩ := h
    have e1 := beq_iff.1 h1
    subst e1
    cases old with
    | true =>
      have := sameEs_ok (show sameEs _ _ = true from h2)
      subst this
      exact ⟨.inl rfl, fun _ => rfl⟩
    | false =>
      have h2 : (permF _ _ && apartF _) = true := h2
      simp only [Bool.and_eq_true] at h2
      exact ⟨.inr (.inr ⟨_, _, _, rfl, rfl, permF_ok h2.1, apartF_ok h2.2⟩), fun e => by cases e⟩
  · exact ⟨.inl rfl, fun _ => rfl⟩
  · exact ⟨.inl rfl, fun _ => rfl⟩
  all_goals first
    | (cases h; done)
    | exact ⟨.inr (.inl ⟨_, rfl, rfl, trivial⟩), fun e => by subst e; cases h⟩
def simOo (old : Bool) : Option AO → Option AO → Bool
  | none, none => true
  | some x, some y => simO old x y
  | _, _ => false
theorem simOo_ok {old : Bool} {x y : Option AO} (h : simOo old x y = true) : NewOk old x y := by
  cases x <;> cases y <;> first | (cases h; done) | exact ⟨.inl rfl, fun _ => rfl⟩ | exact simO_ok h
def eqTr (n0 : Nat) : Tr AO → Tr AO → Nat → Nat → Bool
  | .nil, .nil, _, _ => true
  | .nd l v r, .nd l' v' r', a, s => simOo (Nat.blt s n0) v v' && (eqTr n0 l l' (2 * a) (a + s) && eqTr n0 r r' (2 * a) (2 * a + s))
  | _, _, _, _ => false
theorem eqTr_ok {n0 : Nat} : ∀ {t t' : Tr AO} {a s : Nat}, eqTr n0 t t' a s = true → ∀ j, NewOk (Nat.blt (a * j + s) n0) (t.get j) (t'.get j)
  | .nil, .nil, a, s, _, j => by rw [Tr.get_nil]; exact ⟨.inl rfl, fun _ => rfl⟩
  | .nil, .nd .., a, s, h, j => by cases h
  | .nd .., .nil, a, s, h, j => by cases h
  | .nd l v r, .nd l' v' r', a, s, h, j => by
    simp only [eqTr, Bool.and_eq_true] at h
    obtain ⟨h1, h2, h3⟩ := h
    rw [Tr.get_nd, Tr.get_nd]
    by_cases h0 : j = 0
    · subst h0
      simp only [if_true, Nat.mul_zero, Nat.zero_add]
      exact simOo_ok h1
    · rw [if_neg h0, if_neg h0]
      by_cases hj : j % 2 = 1
      · rw [if_pos hj, if_pos hj]
        have := eqTr_ok h2 (j / 2)
        have e : 2 * a * (j / 2) + (a + s) = a * j + s := by
          have : j = 2 * (j / 2) + 1 := by omega
          generalize j / 2 = k at this ⊢
          subst this
          rw [Nat.mul_add, Nat.mul_one, ← Nat.mul_assoc, Nat.mul_comm a 2]; omega
        rwa [e] at this
      · rw [if_neg hj, if_neg hj]
        have := eqTr_ok h3 (j / 2 - 1)
        have e : 2 * a * (j / 2 - 1) + (2 * a + s) = a * j + s := by
          have : j = 2 * (j / 2 - 1) + 2 := by omega
          generalize j / 2 - 1 = k at this ⊢
          subst this
          rw [Nat.mul_add, ← Nat.mul_assoc, Nat.mul_comm a 2]; omega
        rwa [e] at this
def tidyO (old : Bool) : AO → AO
  | .strIter s p => cond old (.strIter s p) .gone
  | .mapIter a b c d e => cond old (.mapIter a b c d e) .gone
  | o => o
def tidyTr (n0 : Nat) : Tr AO → Nat → Nat → Tr AO
  | .nil, _, _ => .nil
  | .nd l v r, a, s => .nd (tidyTr n0 l (2 * a) (a + s)) (v.map (tidyO (Nat.blt s n0))) (tidyTr n0 r (2 * a) (2 * a + s))
noncomputable def sameAs (n0 : Nat) (v : AV) (S : AW) (r : FRes) : Bool := asVal r fun v' w' => AV.beq v' v && (Nat.beq S.size w'.size && eqTr n0 w'.tr S.tr 1 0)
noncomputable def hookAny (P : Program) (f : FuncId) (w : AW) (args : List AV) : Option (AV × AW) :=
  match d_evN P noHook 300 (.call f args w) with
  | some (.val v w1) => match tidyTr w.size w1.tr 1 0 with
    | t => cond (kN P noHook 300 (.call f args w) (sameAs w.size v ⟨w1.size, t⟩)) (some (v, ⟨w1.size, t⟩)) none
  | _ => none
theorem hookAny_ok {P : Program} {f : FuncId} (hm : P.follows .mixedOrders = true) (hn : noNumGo P = true) (hx : plainExterns P = true) {fn : Func} {c : Code} (hf : P.funcs[f]? = some fn) (hb : fn.body = some c) : HRok P ⟨f, hookAny P f⟩ := by
  refine ⟨⟨fn, c, hf, hb⟩, fun W0 N0 args w x h m W cargs hr ha => ?_⟩
  have h : hookAny P f w args = some x := h
  unfold hookAny at h
  split at h
  · rename_i v w1 _
    have h : cond (kN P noHook 300 (.call f args w) (sameAs w.size v ⟨w1.size, tidyTr w.size w1.tr 1 0⟩)) (some (v, (⟨w1.size, tidyTr w.size w1.tr 1 0⟩ : AW))) none = some x := h
    cases hk : kN P noHook 300 (.call f args w) (sameAs w.size v ⟨w1.size, tidyTr w.size w1.tr 1 0⟩) with
    | false => rw [hk] at h; cases h
    | true =>
      rw [hk] at h
      cases h
      have hwp := kN_ok 300 _ _ hk (valK fun v' w' => v' = v ∧ w1.size = w'.size ∧ ∀ b, NewOk (Nat.blt b w.size) (w'.get b) ((⟨w1.size, tidyTr w.size w1.tr 1 0⟩ : AW).get b)) fun r hr => by
        obtain ⟨v', w', rfl, hr⟩ := asVal_true hr
        have hr : (AV.beq v' v && (Nat.beq w1.size w'.size && eqTr w.size w'.tr (tidyTr w.size w1.tr 1 0) 1 0)) = true := hr
        simp only [Bool.and_eq_true] at hr
        refine ⟨AV.beq_eq _ _ hr.1, beq_iff.1 hr.2.1, fun b => ?_⟩
        have := eqTr_ok hr.2.2 b
        rw [Nat.one_mul, Nat.add_zero] at this
        exact this
      refine (calls_soundL' (host_plain hm hn hx) rfl hwp hf hb hr ha).mono ?_
      rintro e W' ⟨v', w', m', cv, rfl, ⟨rfl, hs, hg⟩, hv, hrel, hext⟩
      refine ⟨cv, m', rfl, hv, hrel.sim hs fun b => (hg b).1, hext.le, hext.new, fun b hb hmb => ?_, by show w.size ≤ w1.size; rw [hs]; exact hext.size⟩
      rw [← (hg b).2 (by rw [Nat.blt_eq]; exact hb)]
      exact hext.keep b hb hmb
  · cases h
end Go.Sx
/-! A call that is handed no memory and hands none back, xs a hook: it is run in a memory of its own. -/
namespace Go.Sx
open Go.ChangeShapes Go.WideShapes
def plainA : AV → Bool
  | .int .. => true
  | .bool _ => true
  | .str _ => true
  | _ => false
theorem plainA_any {a : AV} (h : plainA a = true) {m m' : Emb} {v : Value} (hv : VR m a v) : VR m' a v := by
  cases a <;> first | (cases h; done) | (simp only [VR] at *; exact hv)
theorem plainA_all {m m' : Emb} : ∀ {xs : List AV} {vs : List Value}, xs.all plainA = true → VRs m xs vs → VRs m' xs vs
  | [], vs, _, h => by simp only [VRs] at *; exact h
  | a :: xs, vs, ha, h => by
    simp only [VRs] at h
    obtain ⟨v, vs', rfl, h1, h2⟩ := h
    simp only [List.all_cons, Bool.and_eq_true] at ha
    exact VRs.cons (plainA_any ha.1 h1) (plainA_all ha.2 h2)
noncomputable def says (v : AV) (r : FRes) : Bool := asVal r fun v' _ => AV.beq v' v
noncomputable def hookApart (xs : List AV) (v : AV) (w : AW) (args : List AV) : Option (AV × AW) := cond (AV.beqL args xs) (some (v, w)) none
theorem hookApart_ok {P : Program} {hk : Hook} (hh : ∀ W0 N0, Host P hk W0 N0) {f : FuncId} {xs : List AV} {v : AV} (hpa : xs.all plainA = true) (hpv : plainA v = true) (hnk : hk f xs ⟨1, .nil⟩ = none) {n : Nat}
    (hev : kN P hk n (.call f xs ⟨1, .nil⟩) (says v) = true) {fn : Func} {c : Code} (hf : P.funcs[f]? = some fn) (hb : fn.body = some c) : HRok P ⟨f, hookApart xs v⟩ := by
  refine ⟨⟨fn, c, hf, hb⟩, fun W0 N0 args w x h m W cargs hr ha => ?_⟩
  have h : cond (AV.beqL args xs) (some (v, w)) none = some x := h
  cases hq : AV.beqL args xs with
  | false => rw [hq] at h; cases h
  | true =>
    rw [hq] at h
    cases h
    have e := AV.beqL_eq _ _ hq
    subst e
    have hwp := kN_ok n _ _ hev (valK fun v' _ => v' = v) fun r hr => by
      obtain ⟨v', w', rfl, hr⟩ := asVal_true hr
      exact AV.beq_eq _ _ hr
    refine (calls_soundL' (hh W W.heap.size) hnk hwp hf hb (Rel.start W) (plainA_all hpa ha)).mono ?_
    rintro e W' ⟨v', w', m', cv, rfl, rfl, hv, hrel, _⟩
    exact ⟨cv, m, rfl, plainA_any hpv hv, hr.more hrel.old.2 hrel.old.1 hrel.env, Ext.refl _ _⟩
theorem hookApart_wp {P : Program} {hk : Hook} (hh : ∀ W0 N0, Host P hk W0 N0) {f : FuncId} {xs : List AV} {v : AV} (hpa : xs.all plainA = true) (hpv : plainA v = true) (hnk : hk f xs ⟨1, .nil⟩ = none)
    (hwp : wpL P hk (.call f xs ⟨1, .nil⟩) (valK fun v' _ => v' = v)) {fn : Func} {c : Code} (hf : P.funcs[f]? = some fn) (hb : fn.body = some c) : HRok P ⟨f, hookApart xs v⟩ := by
  refine ⟨⟨fn, c, hf, hb⟩, fun W0 N0 args w x h m W cargs hr ha => ?_⟩
  have h : cond (AV.beqL args xs) (some (v, w)) none = some x := h
  cases hq : AV.beqL args xs with
  | false => rw [hq] at h; cases h
  | true =>
    rw [hq] at h
    cases h
    have e := AV.beqL_eq _ _ hq
    subst e
    refine (calls_soundL' (hh W W.heap.size) hnk hwp hf hb (Rel.start W) (plainA_all hpa ha)).mono ?_
    rintro e W' ⟨v', w', m', cv, rfl, rfl, hv, hrel, _⟩
    exact ⟨cv, m, rfl, plainA_any hpv hv, hr.more hrel.old.2 hrel.old.1 hrel.env, Ext.refl _ _⟩
end Go.Sx
