/-
  The meaning of code on the abstract machine, as a program, and that it is right.
  No condition beyond those that each theorem names.
-/
import Derived.Test.YtcmkgjaclhpafaaSxa
set_option linter.unusedVariables false
set_option linter.unusedSimpArgs false
/-! The meaning, run: a program that answers what the meaning says. -/
namespace Go.Sx

mutual
theorem AV.beq_eq : ∀ (a b : AV), a.beq b = true → a = b
  | .int .., b, h => by cases b <;> simp [AV.beq] at h; simp [h]
  | .bool .., b, h => by cases b <;> simp [AV.beq] at h; simp [h]
  | .str .., b, h => by cases b <;> simp [AV.beq] at h; simp [h]
  | .nilptr, b, h => by cases b <;> simp [AV.beq] at h; rfl
  | .ptr .., b, h => by cases b <;> simp [AV.beq] at h; simp [h]
  | .nilslice, b, h => by cases b <;> simp [AV.beq] at h; rfl
  | .slice .., b, h => by cases b <;> simp [AV.beq] at h; simp [h]
  | .nilmap, b, h => by cases b <;> simp [AV.beq] at h; rfl
  | .map .., b, h => by cases b <;> simp [AV.beq] at h; simp [h]
  | .nilfunc, b, h => by cases b <;> simp [AV.beq] at h; rfl
  | .func f x y, b, h => by
    cases b <;> simp [AV.beq] at h
    rename_i f' x' y'
    rw [h.1.1, AV.beqL_eq x x' h.1.2, AV.beqL_eq y y' h.2]
  | .yield .., b, h => by cases b <;> simp [AV.beq] at h; simp [h]
  | .niliface, b, h => by cases b <;> simp [AV.beq] at h; rfl
  | .iface t v, b, h => by
    cases b <;> simp [AV.beq] at h
    rename_i t' v'
    rw [h.1, AV.beq_eq v v' h.2]
  | .agg cs, b, h => by
    cases b <;> simp [AV.beq] at h
    rw [AV.beqL_eq cs _ h]
  | .tup cs, b, h => by
    cases b <;> simp [AV.beq] at h
    rw [AV.beqL_eq cs _ h]
theorem AV.beqL_eq : ∀ (a b : List AV), AV.beqL a b = true → a = b
  | [], b, h => by cases b <;> simp [AV.beqL] at h; rfl
  | x :: a, b, h => by
    cases b <;> simp [AV.beqL] at h
    rw [AV.beq_eq x _ h.1, AV.beqL_eq a _ h.2]
end

section ev
variable (P : Program) (ev : Task → Option Res)

def resVal : Res → Option (AV × AW)
  | .val v w => some (v, w)
  | _ => none

def eCallVal (w : AW) (args : List AV) : AV → Option (AV × AW)
  | .func f first captured => (ev (.call f (first ++ (args ++ captured)) w)).bind resVal
  | .yield l => (ev (.yield l args w)).bind resVal
  | _ => none

def eCallOp (w : AW) (tmps : Tm) (c : Call) : Option (AV × AW) :=
  match c.callee with
  | .value f => (evalO tmps f).bind fun fv => (evalOs tmps c.args.toList).bind fun as => eCallVal ev w as fv
  | .builtin _ => simpleOp P w tmps (.call c)
  | .invoke .. => none

def eNextOp (w : AW) (tmps : Tm) (i : Operand) (isStr : Bool) : Option (AV × AW) :=
  (evalO tmps i).bind fun x => match x with
  | .ptr b 0 => match w.get b, isStr with
    | some (.strIter s p), true => some (nextStr w b s p)
    | some (.mapIter none _ _ _ _), false => some (.tup [.bool false], w)
    | _, _ => none
  | _ => none

def eOp (w : AW) (tmps : Tm) (o : Op) : Option (AV × AW) :=
  match o with
  | .call c => eCallOp P ev w tmps c
  | .next i t => eNextOp w tmps i t
  | o => simpleOp P w tmps o

def eOps (all : List Oper) : List Oper → Tm → AW → Option (Tm × AW)
  | [], tmps, w => some (tmps, w)
  | o :: rest, tmps, w =>
    if wantedA all tmps o.guard = true then (eOp P ev w tmps o.op).bind fun x => eOps all rest (putT tmps o.dst x.1) x.2
    else eOps all rest (putT tmps o.dst undef) w

def eSame (ops : List Oper) (w : AW) (r : Rd) : Bool :=
  match ops[r.i]? with
  | some o => match pureOp P w r.tm o.op with
    | some v => v.beq r.v
    | none => false
  | none => false

def ePhases (ops : List Oper) (bf : List Nat) : Nat → List Bool → List Rd → Tm → AW → Option (Tm × AW)
  | 0, _, _, _, _ => none
  | n + 1, don, rds, tmps, w =>
    (doQuiet P ops bf ops.zipIdx don rds tmps w).bind fun x =>
      if x.2.1.all (eSame P ops x.2.2.2) = true then
        match (ops.zipIdx.zip x.1).find? (fun x => !x.2) with
        | none => some (x.2.2.1, x.2.2.2)
        | some ((o, i), _) =>
          if allDone i (bf.getD i 0) x.1 = true then
            if wantedA ops x.2.2.1 o.guard = true then
              (eOp P ev x.2.2.2 x.2.2.1 o.op).bind fun y => ePhases ops bf n (x.1.set i true) (x.2.1.filter fun r => !((bf.getD i 0).testBit r.i)) (putT x.2.2.1 o.dst y.1) y.2
            else ePhases ops bf n (x.1.set i true) (x.2.1.filter fun r => !((bf.getD i 0).testBit r.i)) (putT x.2.2.1 o.dst undef) x.2.2.2
          else none
      else none

def eDraw (ops : List Oper) (tmps : Tm) (w : AW) : Option (Tm × AW) :=
  if regionOk P ops = true then ePhases P ev ops (before ops) (ops.length + 1) (List.replicate ops.length false) [] tmps w else none

def eLeave (fn : Func) (r : Res) : Option Res :=
  match r with
  | .ex e s => match e with
    | .normal => (takeAll s.w s.defers).bind fun w => (resultsL P w s.tmps fn.results.toList).map fun vs => .val (one vs) w
    | .ret => (takeAll s.w s.defers).bind fun w => (resultsL P w s.tmps fn.results.toList).map fun vs => .val (one vs) w
    | _ => none
  | _ => none

def eEnter (fn : Func) (args : List AV) (w : AW) : Option Res :=
  match fn.body with
  | some c => (ev (.code none c ⟨args ++ List.replicate (fn.ntmps - args.length) undef, [], w⟩)).bind (eLeave P fn)
  | none => (externA w fn.name args).map fun x => .val x.1 x.2

def eCall (f : FuncId) (args : List AV) (w : AW) : Option Res := (P.funcs[f]?).bind fun fn => eEnter P ev fn args w

def eEndRound (l : Nat) (r : Res) : Option Res :=
  match r with
  | .ex e s => (loopAt s.w l).map fun r => .val (.bool (jumpOf e).isNone) (s.w.set l (LoopA.ob { r with st := if (jumpOf e).isNone then .ready else .done, pending := jumpOf e }))
  | _ => none

def eBody (l : Nat) (body : Code) (r : Res) : Option Res :=
  match r with
  | .ex .normal s => (loopAt s.w l).bind fun r => match r.st with
    | .ready => (ev (.code (some l) body { s with w := s.w.set l (LoopA.ob { r with st := .busy }) })).bind (eEndRound l)
    | _ => none
  | _ => none

def eYield (l : Nat) (args : List AV) (w : AW) : Option Res :=
  (loopAt w l).bind fun r => if args.length = r.params.length then (ev (.code (some l) r.assign ⟨setParams (r.params.zip args) r.tmps, [], w⟩)).bind (eBody ev l r.body) else none

def eEndLoop (ro : Option Nat) (l : Nat) (tmps : Tm) (defers : List Nat) (w : AW) : Option Res :=
  (loopAt w l).bind fun r => if r.st = .busy then none else
    match r.pending with
    | none => some (.ex .normal ⟨tmps, defers, w.set l (LoopA.ob { r with st := .exhausted })⟩)
    | some c => ev (.code ro c ⟨tmps, defers, w.set l (LoopA.ob { r with st := .exhausted })⟩)

def eRange (ro : Option Nat) (f : Operand) (params : Array Tmp) (assign body : Code) (s : St) : Option Res :=
  (startLoop ro s).bind fun x => (evalO s.tmps f).bind fun fv =>
    (eCallVal ev (x.2.2.push (LoopA.ob ⟨.ready, none, 0, s.tmps, params.toList, assign, body, x.1⟩)) [.yield x.2.2.size] fv).bind fun y => eEndLoop ev ro x.2.2.size s.tmps x.2.1 y.2

def eSeq (ro : Option Nat) (b : Code) (r : Res) : Option Res :=
  match r with
  | .ex .normal s => ev (.code ro b s)
  | .ex e s => some (.ex e s)
  | _ => none

def eBlock (id : Nat) (r : Res) : Option Res :=
  match r with
  | .ex (.exit i) s => if i = id then some (.ex .normal s) else some (.ex (.exit i) s)
  | .ex e s => some (.ex e s)
  | _ => none

def eScope (ro : Option Nat) (b : Code) (r : Res) : Option Res :=
  match r with
  | .ex (.goto l) s => match findLabelA b l with
    | some rest => ev (.scope ro b rest s)
    | none => some (.ex (.goto l) s)
  | .ex e s => some (.ex e s)
  | _ => none

def eCode (ro : Option Nat) (c : Code) (s : St) : Option Res :=
  match c with
  | .skip => some (.ex .normal s)
  | .label _ => some (.ex .normal s)
  | .ret => some (.ex .ret s)
  | .exit id => some (.ex (.exit id) s)
  | .goto l => some (.ex (.goto l) s)
  | .seq a b => (ev (.code ro a s)).bind (eSeq ev ro b)
  | .cond c a b => (evalO s.tmps c).bind fun v => match v with
    | .bool t => ev (.code ro (if t then a else b) s)
    | _ => none
  | .block id b => (ev (.code ro b s)).bind (eBlock id)
  | .loop b => (ev (.code ro b s)).bind (eSeq ev ro (.loop b))
  | .region _ ops draw => match draw with
    | true => (eDraw P ev ops.toList s.tmps s.w).map fun x => .ex .normal ⟨x.1, s.defers, x.2⟩
    | false => (eOps P ev ops.toList ops.toList s.tmps s.w).map fun x => .ex .normal ⟨x.1, s.defers, x.2⟩
  | .scope b => ev (.scope ro b b s)
  | .rangeFunc f params assign body => eRange ev ro f params assign body s
  | .refuse _ => none

def eTask (t : Task) : Option Res :=
  match t with
  | .code ro c s => eCode P ev ro c s
  | .scope ro b c s => (ev (.code ro c s)).bind (eScope ev ro b)
  | .call f args w => eCall P ev f args w
  | .yield l args w => eYield ev l args w
end ev

def evN (P : Program) : Nat → Task → Option Res
  | 0, _ => none
  | n + 1, t => eTask P (evN P n) t

section sound
variable {P : Program} {ev : Task → Option Res} {rec : Task → (Res → Prop) → Prop}

/-- What is run is meant. -/
def Runs (ev : Task → Option Res) (rec : Task → (Res → Prop) → Prop) : Prop := ∀ t r, ev t = some r → ∀ Q : Res → Prop, Q r → rec t Q

theorem eCallVal_ok (h : Runs ev rec) {w : AW} {args : List AV} {fv : AV} {x : AV × AW} {K : AV → AW → Prop} (he : eCallVal ev w args fv = some x) (hK : K x.1 x.2) : wCallVal rec w args K fv := by
  have fin : ∀ {t : Task}, (ev t).bind resVal = some x → rec t (valK K) := fun {t} ht => by
    rw [Option.bind_eq_some_iff] at ht
    obtain ⟨r, hr, hv⟩ := ht
    cases r <;> simp [resVal] at hv
    subst hv
    exact h _ _ hr _ hK
  cases fv <;> simp only [eCallVal] at he <;> first | exact fin he | simp at he

theorem eOp_ok (h : Runs ev rec) {w : AW} {tmps : Tm} {o : Op} {x : AV × AW} {K : AV → AW → Prop} (he : eOp P ev w tmps o = some x) (hK : K x.1 x.2) : wOp P rec w tmps o K := by
  unfold eOp at he
  unfold wOp
  split
  · simp only [] at he
    unfold eCallOp at he
    unfold wCallOp
    split
    · rename_i f hf
      simp only [hf, Option.bind_eq_some_iff] at he
      obtain ⟨fv, hfv, as, has, hc⟩ := he
      exact ⟨fv, as, hfv, has, eCallVal_ok h hc hK⟩
    · rename_i b hb
      simp only [hb] at he
      exact ⟨x.1, x.2, he, hK⟩
    · rename_i hb
      simp only [hb] at he
      simp at he
  · simp only [] at he
    unfold eNextOp at he
    unfold wNextOp
    rw [Option.bind_eq_some_iff] at he
    obtain ⟨y, hy, he⟩ := he
    split at he
    · rename_i b
      refine ⟨b, hy, ?_⟩
      split at he
      · cases he; rename_i hg; simp only [hg]; exact hK
      · cases he; rename_i hg; simp only [hg]; exact hK
      · simp at he
    · simp at he
  · rename_i h1 h2
    split at he
    · exact absurd rfl (h1 _)
    · exact absurd rfl (h2 _ _)
    · exact ⟨x.1, x.2, he, hK⟩

theorem eOps_ok (h : Runs ev rec) {all : List Oper} {K : Tm → AW → Prop} : ∀ {l : List Oper} {tmps : Tm} {w : AW} {x : Tm × AW}, eOps P ev all l tmps w = some x → K x.1 x.2 → wOps P rec all l tmps w K
  | [], tmps, w, x, he, hK => by
    simp only [eOps, Option.some.injEq] at he; subst he; exact hK
  | o :: l, tmps, w, x, he, hK => by
    simp only [eOps] at he
    simp only [wOps]
    split at he
    · rename_i hg
      rw [if_pos hg]
      rw [Option.bind_eq_some_iff] at he
      obtain ⟨y, hy, he⟩ := he
      exact eOp_ok h hy (eOps_ok h he hK)
    · rename_i hg
      rw [if_neg hg]
      exact eOps_ok h he hK

theorem eSame_ok {ops : List Oper} {w : AW} {r : Rd} (h : eSame P ops w r = true) : sameRd P ops w r := by
  unfold eSame at h
  split at h
  · rename_i o ho
    split at h
    · rename_i v hv
      exact ⟨o, ho, by rw [hv, AV.beq_eq _ _ h]⟩
    · simp at h
  · simp at h

theorem ePhases_ok (h : Runs ev rec) {ops : List Oper} {bf : List Nat} {K : Tm → AW → Prop} : ∀ {n : Nat} {don : List Bool} {rds : List Rd} {tmps : Tm} {w : AW} {x : Tm × AW}, ePhases P ev ops bf n don rds tmps w = some x → K x.1 x.2 →
    wPhases P rec ops bf n don rds tmps w K
  | 0, _, _, _, _, _, he, _ => by simp [ePhases] at he
  | n + 1, don, rds, tmps, w, x, he, hK => by
    simp only [ePhases, Option.bind_eq_some_iff] at he
    obtain ⟨⟨don', rds', tmps', w'⟩, hq, he⟩ := he
    simp only [] at he
    split at he
    · rename_i hall
      refine ⟨don', rds', tmps', w', hq, fun r hr => eSame_ok (List.all_eq_true.1 hall r hr), ?_⟩
      split at he
      · rename_i hf
        simp only [hf]
        cases he; exact hK
      · rename_i o i bb hf
        simp only [hf]
        split at he
        · rename_i had
          refine ⟨had, ?_⟩
          split at he
          · rename_i hw
            rw [if_pos hw]
            rw [Option.bind_eq_some_iff] at he
            obtain ⟨y, hy, he⟩ := he
            exact eOp_ok h hy (ePhases_ok h he hK)
          · rename_i hw
            rw [if_neg hw]
            exact ePhases_ok h he hK
        · simp at he
    · simp at he

theorem eDraw_ok (h : Runs ev rec) {ops : List Oper} {tmps : Tm} {w : AW} {x : Tm × AW} {K : Tm → AW → Prop} (he : eDraw P ev ops tmps w = some x) (hK : K x.1 x.2) : wDraw P rec ops tmps w K := by
  unfold eDraw at he
  split at he
  · rename_i hr; exact ⟨hr, ePhases_ok h he hK⟩
  · simp at he

theorem evTask_ok (h : Runs ev rec) : Runs (eTask P ev) (wTask P rec) := by
  -- code, and what comes behind it
  have bind : ∀ {t : Task} {g : Res → Option Res} {r : Res} {Q : Res → Prop} {K : AExit → St → Prop}, (ev t).bind g = some r → (∀ e s, g (.ex e s) = some r → K e s) → (∀ v w, g (.val v w) = none) → rec t (exK K) := by
    intro t g r Q K hb hk hn
    rw [Option.bind_eq_some_iff] at hb
    obtain ⟨r1, h1, h2⟩ := hb
    cases r1 with
    | ex e s => exact h _ _ h1 _ (hk e s h2)
    | val v w => rw [hn] at h2; simp at h2
  intro t r he Q hQ
  cases t with
  | code ro c s =>
    simp only [eTask] at he
    simp only [wTask]
    cases c with
    | skip => cases he; exact hQ
    | label l => cases he; exact hQ
    | ret => cases he; exact hQ
    | exit id => cases he; exact hQ
    | goto l => cases he; exact hQ
    | refuse w => simp [eCode] at he
    | seq a b =>
      simp only [eCode] at he
      refine bind (Q := Q) he (fun e s hs => ?_) (fun _ _ => rfl)
      cases e <;> simp only [eSeq] at hs
      case normal => exact h _ _ hs _ hQ
      all_goals (cases hs; exact hQ)
    | cond c a b =>
      simp only [eCode, Option.bind_eq_some_iff] at he
      obtain ⟨v, hv, he⟩ := he
      split at he
      · rename_i t; exact ⟨t, hv, h _ _ he _ hQ⟩
      · simp at he
    | block id b =>
      simp only [eCode] at he
      refine bind (Q := Q) he (fun e s hs => ?_) (fun _ _ => rfl)
      cases e <;> simp only [eBlock] at hs
      case exit i =>
        simp only [wBlock]
        split at hs
        · rename_i hi; rw [if_pos hi]; cases hs; exact hQ
        · rename_i hi; rw [if_neg hi]; cases hs; exact hQ
      all_goals (cases hs; exact hQ)
    | loop b =>
      simp only [eCode] at he
      refine bind (Q := Q) he (fun e s hs => ?_) (fun _ _ => rfl)
      cases e <;> simp only [eSeq] at hs
      case normal => exact h _ _ hs _ hQ
      all_goals (cases hs; exact hQ)
    | region id ops draw =>
      simp only [eCode] at he
      cases draw with
      | true =>
        simp only [Option.map_eq_some_iff] at he
        obtain ⟨x, hx, rfl⟩ := he
        exact eDraw_ok h hx hQ
      | false =>
        simp only [Option.map_eq_some_iff] at he
        obtain ⟨x, hx, rfl⟩ := he
        exact eOps_ok h hx hQ
    | scope b => exact h _ _ he _ hQ
    | rangeFunc f params assign body =>
      simp only [eCode, eRange, Option.bind_eq_some_iff] at he
      obtain ⟨⟨d, defers, w1⟩, hs, fv, hfv, y, hy, he⟩ := he
      refine ⟨d, defers, w1, fv, hs, hfv, eCallVal_ok h hy ?_⟩
      unfold eEndLoop at he
      rw [Option.bind_eq_some_iff] at he
      obtain ⟨r1, hr1, he⟩ := he
      split at he
      · simp at he
      · rename_i hb
        refine ⟨r1, hr1, hb, ?_⟩
        cases hp : r1.pending with
        | none => simp only [hp] at he ⊢; cases he; exact hQ
        | some c => simp only [hp] at he ⊢; exact h _ _ he _ hQ
  | scope ro b c s =>
    simp only [eTask] at he
    simp only [wTask]
    refine bind (Q := Q) he (fun e s hs => ?_) (fun _ _ => rfl)
    cases e <;> simp only [eScope] at hs
    case goto l =>
      simp only [wScope]
      split at hs
      · rename_i rest hf; simp only [hf]; exact h _ _ hs _ hQ
      · rename_i hf; simp only [hf]; cases hs; exact hQ
    all_goals (cases hs; exact hQ)
  | call f args w =>
    simp only [eTask, eCall, Option.bind_eq_some_iff] at he
    obtain ⟨fn, hf, he⟩ := he
    refine ⟨fn, hf, ?_⟩
    unfold eEnter at he
    unfold wEnter
    split
    · rename_i c hc
      simp only [hc] at he
      refine bind (Q := Q) he (fun e s hs => ?_) (fun _ _ => rfl)
      have fin : ∀ {r : Res}, ((takeAll s.w s.defers).bind fun w => (resultsL P w s.tmps fn.results.toList).map fun vs => Res.val (one vs) w) = some r → Q r →
          ∃ w vs, takeAll s.w s.defers = some w ∧ resultsL P w s.tmps fn.results.toList = some vs ∧ Q (.val (one vs) w) := by
        intro r hr hq
        rw [Option.bind_eq_some_iff] at hr
        obtain ⟨w, hw, hr⟩ := hr
        rw [Option.map_eq_some_iff] at hr
        obtain ⟨vs, hvs, rfl⟩ := hr
        exact ⟨w, vs, hw, hvs, hq⟩
      cases e <;> simp only [eLeave] at hs
      case normal => exact ⟨.inl rfl, fin hs hQ⟩
      case ret => exact ⟨.inr rfl, fin hs hQ⟩
      all_goals simp at hs
    · rename_i hc
      simp only [hc, Option.map_eq_some_iff] at he
      obtain ⟨x, hx, rfl⟩ := he
      exact ⟨x.1, x.2, hx, hQ⟩
  | yield l args w =>
    simp only [eTask, eYield, Option.bind_eq_some_iff] at he
    obtain ⟨r1, hr1, he⟩ := he
    split at he
    · rename_i hlen
      refine ⟨r1, hr1, hlen, ?_⟩
      refine bind (Q := Q) he (fun e s hs => ?_) (fun _ _ => rfl)
      cases e <;> simp only [eBody] at hs
      case normal =>
        rw [Option.bind_eq_some_iff] at hs
        obtain ⟨r2, hr2, hs⟩ := hs
        refine ⟨rfl, r2, hr2, ?_⟩
        split at hs
        · rename_i hst
          refine ⟨hst, bind (Q := Q) hs (fun e s hs => ?_) (fun _ _ => rfl)⟩
          simp only [eEndRound, Option.map_eq_some_iff] at hs
          obtain ⟨r3, hr3, rfl⟩ := hs
          exact ⟨r3, hr3, hQ⟩
        · simp at hs
      all_goals simp at hs
    · simp at he

theorem evN_ok : ∀ n, Runs (evN P n) (wpN P n)
  | 0 => fun _ _ h => by simp [evN] at h
  | n + 1 => evTask_ok (evN_ok n)
end sound
end Go.Sx
