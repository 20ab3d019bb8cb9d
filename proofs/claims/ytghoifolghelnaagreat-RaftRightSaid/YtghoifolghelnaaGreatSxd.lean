/-
 The meaning of code on the abstract machine,as a program in continuations,and that it is right.
 No condition beyond those that each theorem names.
-/
import Derived.Test.YtghoifolghelnaaGreatSxc
set_option linter.unusedVariables false
set_option linter.unusedSimpArgs false
/-! The evaluator in continuations: effects, regions, code. -/
namespace Go.Sx
noncomputable section
abbrev FE := FTask → (FRes → Bool) → Bool
def asVal (r : FRes) (k : AV → AW → Bool) : Bool := FRes.rec (motive := fun _ => (AV → AW → Bool) → Bool) (fun _ _ _ _ _ => false) (fun v w k => k v w) r k
def asEx (r : FRes) (k : AExit → TT → List Nat → AW → Bool) : Bool := FRes.rec (motive := fun _ => (AExit → TT → List Nat → AW → Bool) → Bool) (fun e t ds w k => k e t ds w) (fun _ _ _ => false) r k
def isNorm (e : AExit) (x y : Bool) : Bool := AExit.rec (motive := fun _ => Bool → Bool → Bool) (fun x _ => x) (fun _ _ y => y) (fun _ _ y => y) (fun _ y => y) e x y
def isEnd (e : AExit) (x : Bool) : Bool := AExit.rec (motive := fun _ => Bool → Bool) (fun x => x) (fun _ _ => false) (fun _ _ => false) (fun x => x) e x
def isExit (e : AExit) (f : Nat → Bool) (y : Bool) : Bool := AExit.rec (motive := fun _ => (Nat → Bool) → Bool → Bool) (fun _ y => y) (fun i f _ => f i) (fun _ _ y => y) (fun _ y => y) e f y
def isGoto (e : AExit) (f : Nat → Bool) (y : Bool) : Bool := AExit.rec (motive := fun _ => (Nat → Bool) → Bool → Bool) (fun _ y => y) (fun _ _ y => y) (fun i f _ => f i) (fun _ y => y) e f y
section
variable (P : Program)
structure KM where
 run : AW → TT → (AV → AO → Bool) → Bool
def genM (n : Nat) (o : Op) : KM := ⟨fun w t k => optB (allocE P w (evF t n) o) fun x => k x.1 x.2⟩
def allocZ (z : Option (List AV)) : KM :=
 match z with
 | none => ⟨fun _ _ _ => false⟩
 | some z => ⟨fun w _ k => k (.ptr w.size 0) (.cells z w.size w.size false)⟩
def allocC (n : Nat) (o : Op) : KM :=
 match o with
 | .alloc ty => allocZ (zeroOk P ty)
 | .makeMap _ none => ⟨fun w _ k => k (.map w.size) (.map [] 0)⟩
 | o => genM P n o
theorem allocC_eq (o : Op) (w : AW) (t : TT) (n : Nat) (k : AV → AO → Bool) : (allocC P n o).run w t k = optB (allocE P w (evF t n) o) fun x => k x.1 x.2 := by
 unfold allocC
 split
 ·rename_i ty
  show (allocZ (zeroOk P ty)).run w t k = optB (bnd (zeroOk P ty) _) _
  cases zeroOk P ty <;> rfl
 ·rfl
 ·rfl
structure KE where
 run : AW → TT → (AV → AW → Bool) → Bool
def storeC (n : Nat) (a x : Operand) (z : Option Nat) : KE :=
 match z with
 | none => ⟨fun _ _ _ => false⟩
 | some z => match opdC n a,opdC n x with | ⟨ra⟩,⟨rx⟩ => ⟨fun w t k => ra t fun p => rx t fun v => asPtrK p fun b o =>
   asCells v (fun cs => ifB (lenIs z cs) (ifB (allOk cs) (kPutC w b o cs fun w' => k undef w') false) false) (ifB (Nat.beq 1 z) (kPutC w b o [v] fun w' => k undef w') false)⟩
def effC (n : Nat) (o : Op) : KE :=
 match o with
 | .store ty a x => storeC n a x (szOf P ty)
 | o => ⟨fun w t k => optB (effE P w (evF t n) o) fun x => k x.1 x.2⟩
theorem effC_eq (o : Op) (w : AW) (t : TT) (n : Nat) (k : AV → AW → Bool) : (effC P n o).run w t k = optB (effE P w (evF t n) o) fun x => k x.1 x.2 := by
  unfold effC
  split
  · rename_i ty a x
    show (storeC n a x (szOf P ty)).run w t k = optB (bnd (evF t n a) fun p => bnd (evF t n x) _) _
    simp only [optB_bnd]
    cases hz : szOf P ty with
    | none =>
      show false = _
      cases evF t n a with
      | none => rfl
      | some p =>
        simp only [optB_some]
        cases evF t n x with
        | none => rfl
        | some v =>
          simp only [optB_some]
          cases p <;> try rfl
          show false = optB (bnd (storeF P w ty _ _ v) _) _
          unfold storeF
          rw [hz]
          rfl
    | some z =>
      refine (opdC_eq a t n _).trans ?_
      congr 1; funext p
      refine (opdC_eq x t n _).trans ?_
      congr 1; funext v
      cases p <;> try rfl
      rename_i b o
      show asCells v _ _ = optB (bnd (storeF P w ty b o v) _) _
      rw [optB_bnd]
      unfold storeF
      rw [hz, optB_bnd, optB_some]
      have one : (ifB (Nat.beq 1 z) (kPutC w b o [v] fun w' => k undef w') false) = optB (cond (Nat.beq 1 z) (putF w b o [v]) none) fun w' => optB (some (undef, w')) fun x => k x.1 x.2 := by
        rw [optB_cond, kPutC_eq]; rfl
      cases v
      case agg cs =>
        show ifB (lenIs z cs) (ifB (allOk cs) (kPutC w b o cs fun w' => k undef w') false) false = optB (cond (lenIs z cs && allOk cs) (putF w b o cs) none) _
        rw [optB_cond, kPutC_eq]
        cases lenIs z cs <;> cases allOk cs <;> rfl
      case tup cs => rfl
      all_goals exact one
  · rfl
def kNext (w : AW) (ev : Ev) (i : Operand) (s : Bool) (k : AV → AW → Bool) : Bool :=
  optB (ev i) fun x => match x with
    | .ptr b 0 => match w.get b, s with
      | some (.mapIter (some m) es c (kv1 :: kv2 :: r) _), false => optB (mapAt w m) fun y => ifB (Nat.beq y.2 c)
          ((picks (kv1 :: kv2 :: r)).all fun p => k (.tup [.bool true, p.1.1, p.1.2]) (w.set b (.mapIter (some m) es c p.2 (some (.tup [p.1.1, p.1.2]))))) false
      | _, _ => optB (fNextOp w ev i s) fun x => k x.1 x.2
    | _ => false
structure KOp where
 run : FE → AW → TT → (AV → AW → Bool) → Bool
def callC (n : Nat) (f : Operand) (args : List Operand) : KOp :=
 match opdC n f,opdsC n args with | ⟨rf⟩,⟨ra⟩ => ⟨fun fe w t k => rf t fun fv => ra t fun as =>
  asFun fv (fun g a b => fe (.call g (a ++ (as ++ b)) w) fun r => asVal r k) (fun l => fe (.yield l as w) fun r => asVal r k)⟩
def opC (n : Nat) (o : Op) : KOp :=
  match ikOf P o with
  | .pu => match pureC P n o with | ⟨r⟩ => ⟨fun _ w t k => r w t fun v => k v w⟩
  | .mk => match allocC P n o with | ⟨r⟩ => ⟨fun _ w t k => r w t fun v ob => k v (kPushW w ob)⟩
  | .ef => match effC P n o with | ⟨r⟩ => ⟨fun _ w t k => r w t k⟩
  | .call => match o with
    | .call c => match c.callee with
      | .value f => callC n f c.args.toList
      | _ => ⟨fun _ _ _ _ => false⟩
    | _ => ⟨fun _ _ _ _ => false⟩
  | .next => match o with
    | .next i s => ⟨fun _ w t k => kNext w (evF t n) i s k⟩
    | _ => ⟨fun _ _ _ _ => false⟩
  | .bad => ⟨fun _ _ _ _ => false⟩
structure KG where
 run : TT → Bool → Bool → Bool
def gdC (n : Nat) (g : GD) : KG :=
  match g with
  | .always => ⟨fun _ x _ => x⟩
  | .never => ⟨fun _ _ y => y⟩
  | .tmp d want => match Nat.blt d n, want with
    | true, true => match getC d with | ⟨g⟩ => ⟨fun t x y => asBoolOr (g t) (fun b => ifB b x y) y⟩
    | true, false => match getC d with | ⟨g⟩ => ⟨fun t x y => asBoolOr (g t) (fun b => ifB b y x) y⟩
    | false, _ => ⟨fun _ _ y => y⟩
theorem gdC_eq (g : GD) (t : TT) (n : Nat) (x y : Bool) : (gdC n g).run t x y = cond (gdF t n g) x y := by
  cases g with
  | always => rfl
  | never => rfl
  | tmp d want =>
    simp only [gdC, gdF]
    cases Nat.blt d n with
    | false => cases want <;> rfl
    | true =>
      have hg := getC_eq d t
      cases want
      · show asBoolOr ((getC d).get t) (fun b => ifB b y x) y = _
        rw [hg]
        simp only [cond_true]
        cases getR t d <;> try rfl
        rename_i b; cases b <;> rfl
      · show asBoolOr ((getC d).get t) (fun b => ifB b x y) y = _
        rw [hg]
        simp only [cond_true]
        cases getR t d <;> try rfl
        rename_i b; cases b <;> rfl
structure KS where
 run : FE → AW → TT → (TT → AW → Bool) → Bool
def seqC (n : Nat) (all : List Oper) : List Oper → KS
  | [] => ⟨fun _ w t k => k t w⟩
  | o :: r => match opC P n o.op, seqC n all r, putC o.dst with
    | ⟨ro⟩, ⟨rs⟩, ⟨pt⟩ => match gdOf all o.guard with
      | .always => ⟨fun fe w t k => ro fe w t fun v w' => rs fe w' (pt t v) k⟩
      | g => match gdC n g with
        | ⟨rg⟩ => ⟨fun fe w t k => rg t (ro fe w t fun v w' => rs fe w' (pt t v) k) (rs fe w (pt t undef) k)⟩
structure KQ where
 run : List FRd → AW → TT → (List FRd → TT → AW → Bool) → Bool
def qC (n : Nat) : List QI → KQ
  | [] => ⟨fun rds w t k => k rds t w⟩
  | .pu g o :: r => match gdC n g, pureC P n o.op, qC n r, putC o.dst with
    | ⟨rg⟩, ⟨rp⟩, ⟨rs⟩, ⟨pt⟩ => ⟨fun rds w t k => rg t (rp w t fun v => rs rds w (pt t v) k) (rs rds w (pt t undef) k)⟩
  | .rd g o i keep :: r => match gdC n g, pureC P n o.op, qC n r, putC o.dst with
    | ⟨rg⟩, ⟨rp⟩, ⟨rs⟩, ⟨pt⟩ => ⟨fun rds w t k => rg t (rp w t fun v => rs (cond keep (⟨i, v, t⟩ :: rds) rds) w (pt t v) k) (rs rds w (pt t undef) k)⟩
  | .mk g o :: r => match gdC n g, allocC P n o.op, qC n r, putC o.dst with
    | ⟨rg⟩, ⟨rp⟩, ⟨rs⟩, ⟨pt⟩ => ⟨fun rds w t k => rg t (rp w t fun v ob => rs rds (kPushW w ob) (pt t v) k) (rs rds w (pt t undef) k)⟩
theorem optB_gd {α : Type} (c : Bool) (x y : Option α) (k : α → Bool) : optB (cond c x y) k = cond c (optB x k) (optB y k) := by cases c <;> rfl
theorem qC_eq : ∀ (q : List QI) (rds : List FRd) (w : AW) (t : TT) (n : Nat) (k : List FRd → TT → AW → Bool), (qC P n q).run rds w t k = optB (fQ P n q rds t w) fun x => k x.1 x.2.1 x.2.2
  | [], _, _, _, _, _ => rfl
  | .pu g o :: r, rds, w, t, n, k => by
    show (gdC n g).run t ((pureC P n o.op).run w t fun v => (qC P n r).run rds w ((putC o.dst).set t v) k) ((qC P n r).run rds w ((putC o.dst).set t undef) k) = optB (cond (gdF t n g) (bnd _ _) _) _
    rw [gdC_eq, optB_gd, optB_bnd, pureC_eq]
    simp only [putC_eq, qC_eq r]
  | .rd g o i keep :: r, rds, w, t, n, k => by
    show (gdC n g).run t ((pureC P n o.op).run w t fun v => (qC P n r).run (cond keep (⟨i, v, t⟩ :: rds) rds) w ((putC o.dst).set t v) k) ((qC P n r).run rds w ((putC o.dst).set t undef) k) = optB (cond (gdF t n g) (bnd _ _) _) _
    rw [gdC_eq, optB_gd, optB_bnd, pureC_eq]
    simp only [putC_eq, qC_eq r]
  | .mk g o :: r, rds, w, t, n, k => by
    show (gdC n g).run t ((allocC P n o.op).run w t fun v ob => (qC P n r).run rds (kPushW w ob) ((putC o.dst).set t v) k) ((qC P n r).run rds w ((putC o.dst).set t undef) k) = optB (cond (gdF t n g) (bnd _ _) _) _
    rw [gdC_eq, optB_gd, optB_bnd, allocC_eq]
    simp only [putC_eq, kPushW_eq, qC_eq r]
def kSames (ops : List Oper) (n : Nat) (w : AW) (rds : List FRd) : Bool := List.rec (motive := fun _ => Bool) true (fun r _ ih => ifB (fSame P ops n w r) ih false) rds
theorem kSames_eq (ops : List Oper) (n : Nat) (w : AW) : ∀ rds, kSames P ops n w rds = fSames P ops n w rds
  | [] => rfl
  | r :: rds => by
    show ifB (fSame P ops n w r) (kSames P ops n w rds) false = _
    rw [kSames_eq ops n w rds, ifB_eq]; rfl
def kFilter (bfi : Nat) (rds : List FRd) : List FRd := List.rec (motive := fun _ => List FRd) [] (fun r _ ih => Bool.rec (motive := fun _ => List FRd) (r :: ih) ih (tb bfi r.i)) rds
theorem kFilter_eq (bfi : Nat) : ∀ rds, kFilter bfi rds = rds.filter fun r => !(tb bfi r.i)
  | [] => rfl
  | r :: rds => by
    show Bool.rec (motive := fun _ => List FRd) (r :: kFilter bfi rds) (kFilter bfi rds) (tb bfi r.i) = _
    rw [kFilter_eq bfi rds, List.filter_cons]
    cases tb bfi r.i <;> rfl
structure KPl where
 run : FE → List FRd → AW → TT → (TT → AW → Bool) → Bool
def planC (n : Nat) (ops : List Oper) : Plan → KPl
  | .bad => ⟨fun _ _ _ _ _ => false⟩
  | .done q chk => match chk with
    | true => ⟨fun _ rds w t k => (qC P n q).run rds w t fun rds t w => ifB (kSames P ops n w rds) (k t w) false⟩
    | false => ⟨fun _ rds w t k => ifB (kSames P ops n w rds) ((qC P n q).run rds w t fun _ t w => k t w) false⟩
  | .eff q chk g o _ bfi next =>
    let go : KPl := match gdC n g, opC P n o.op, planC n ops next, putC o.dst with
      | ⟨rg⟩, ⟨ro⟩, ⟨rs⟩, ⟨pt⟩ => ⟨fun fe rds w t k => rg t (ro fe w t fun v w' => rs fe (kFilter bfi rds) w' (pt t v) k) (rs fe (kFilter bfi rds) w (pt t undef) k)⟩
    match chk with
    | true => ⟨fun fe rds w t k => (qC P n q).run rds w t fun rds t w => ifB (kSames P ops n w rds) (go.run fe rds w t k) false⟩
    | false => ⟨fun fe rds w t k => ifB (kSames P ops n w rds) ((qC P n q).run rds w t fun rds t w => go.run fe rds w t k) false⟩
structure KR where
 run : AW → TT → (List AV → Bool) → Bool
def resC (n : Nat) : List ResultVar → KR
 | [] => ⟨fun _ _ k => k []⟩
 | .tmp i :: rs => ⟨fun w t k => ifB (Nat.ble (Nat.succ i) n) ((resC n rs).run w t fun vs => k ((getC i).get t :: vs)) false⟩
 | .cell a ty :: rs => ⟨fun w t k => ifB (Nat.ble (Nat.succ a) n) ((loadC n (.tmp a) (aggSz P ty)).run w t fun v => (resC n rs).run w t fun vs => k (v :: vs)) false⟩
def kTake (w : AW) (ds : List Nat) (k : AW → Bool) : Bool := List.rec (motive := fun _ => Bool) (k w) (fun _ _ _ => optB (takeAll w ds) k) ds
theorem kTake_eq (w : AW) (ds : List Nat) (k : AW → Bool) : kTake w ds k = optB (takeAll w ds) k := by cases ds <;> rfl
structure KC where
 run : FE → Option Nat → TT → List Nat → AW → (AExit → TT → List Nat → AW → Bool) → Bool
def regC (n : Nat) (ops : List Oper) (draw : Bool) : KC :=
 match draw with
 | true => ⟨fun fe _ t ds w k => (planC P n ops (fPlan P ops)).run fe [] w t fun t w => k .normal t ds w⟩
 | false => ⟨fun fe _ t ds w k => (seqC P n ops ops).run fe w t fun t w => k .normal t ds w⟩
def codeC (n : Nat) : Code → KC
 | .skip => ⟨fun _ _ t ds w k => k .normal t ds w⟩
 | .label _ => ⟨fun _ _ t ds w k => k .normal t ds w⟩
 | .ret => ⟨fun _ _ t ds w k => k .ret t ds w⟩
 | .exit id => ⟨fun _ _ t ds w k => k (.exit id) t ds w⟩
 | .goto l => ⟨fun _ _ t ds w k => k (.goto l) t ds w⟩
 | .seq a b => ⟨fun fe ro t ds w k => (codeC n a).run fe ro t ds w fun e t ds w => isNorm e ((codeC n b).run fe ro t ds w k) (k e t ds w)⟩
 | .cond c a b => ⟨fun fe ro t ds w k => (opdC n c).run t fun v => asBoolK v fun x => Bool.rec (motive := fun _ => Bool) ((codeC n b).run fe ro t ds w k) ((codeC n a).run fe ro t ds w k) x⟩
 | .block id b => ⟨fun fe ro t ds w k => (codeC n b).run fe ro t ds w fun e t ds w => isExit e (fun i => ifB (Nat.beq i id) (k .normal t ds w) (k (.exit i) t ds w)) (k e t ds w)⟩
 | .loop b => ⟨fun fe ro t ds w k => (codeC n b).run fe ro t ds w fun e t ds w => isNorm e (fe (.code ro (.loop b) t n ds w) fun r => asEx r k) (k e t ds w)⟩
 | .region _ ops draw => regC P n ops.toList draw
 | .scope b => ⟨fun fe ro t ds w k => fe (.scope ro b b t n ds w) fun r => asEx r k⟩
 | .rangeFunc f params assign body => ⟨fun fe ro t ds w k => optB (fStart ro ds w) fun x => (opdC n f).run t fun fv =>
   asFun fv (fun g a b => fe (.call g (a ++ ([.yield x.2.2.size] ++ b)) (x.2.2.push (LoopA.ob ⟨.ready,none,0,absT n t,params.toList,assign,body,x.1⟩))) fun r => asVal r fun _ w' =>
    optB (loopAt w' x.2.2.size) fun r => if r.st = .busy then false else match r.pending with
     | none => k .normal t x.2.1 (w'.set x.2.2.size (LoopA.ob { r with st := .exhausted }))
     | some c => fe (.code ro c t n x.2.1 (w'.set x.2.2.size (LoopA.ob { r with st := .exhausted }))) fun r => asEx r k) (fun _ => false)⟩
 | .refuse _ => ⟨fun _ _ _ _ _ _ => false⟩
structure KF where
 run : FE → List AV → AW → (FRes → Bool) → Bool
def bodyC (fn : Func) (c : Code) : KF :=
 ⟨fun fe args w K => ifB (Nat.ble args.length fn.ntmps) ((codeC P fn.ntmps c).run fe none (ofL 0 args .nil) [] w fun e t ds w =>
  isEnd e (kTake w ds fun w => (resC P fn.ntmps fn.results.toList).run w t fun vs => K (.val (one vs) w))) false⟩
def funC (fn : Option Func) : KF :=
  match fn with
  | none => ⟨fun _ _ _ _ => false⟩
  | some fn => match fn.body with
    | some c => bodyC P fn c
    | none => ⟨fun _ args w K => optB (externA w fn.name args) fun x => K (.val x.1 x.2)⟩
def kCall (fe : FE) (hk : Hook) (f : FuncId) (args : List AV) (w : AW) (K : FRes → Bool) : Bool :=
 Option.rec (motive := fun _ => Bool) ((funC P (nthF f P.funcs.toList)).run fe args w K) (fun r => optB r fun x => K (.val x.1 x.2)) (hk f args w)
def kYield (fe : FE) (l : Nat) (args : List AV) (w : AW) (K : FRes → Bool) : Bool :=
  optB (loopAt w l) fun r => ifB (Nat.beq args.length r.params.length) ((codeC P r.tmps.length r.assign).run fe (some l) (fSetP (r.params.zip args) (ofL 0 r.tmps .nil)) [] w fun e t ds w =>
    isNorm e (optB (loopAt w l) fun r2 => match r2.st with
      | .ready => (codeC P r.tmps.length r.body).run fe (some l) t ds (w.set l (LoopA.ob { r2 with st := .busy })) fun e _ _ w =>
        optB (loopAt w l) fun r3 => K (.val (.bool (jumpOf e).isNone) (w.set l (LoopA.ob { r3 with st := if (jumpOf e).isNone then .ready else .done, pending := jumpOf e })))
      | _ => false) false) false
def kTask (fe : FE) (hk : Hook) (task : FTask) (K : FRes → Bool) : Bool :=
 FTask.rec (motive := fun _ => FE → Hook → (FRes → Bool) → Bool)
  (fun ro c t n ds w fe _ K => (codeC P n c).run fe ro t ds w fun e t ds w => K (.ex e t ds w))
  (fun ro b c t n ds w fe _ K => (codeC P n c).run fe ro t ds w fun e t ds w => isGoto e (fun l => match findLabelA b l with
   | some rest => fe (.scope ro b rest t n ds w) K
   | none => K (.ex e t ds w)) (K (.ex e t ds w)))
  (fun f args w fe hk K => kCall P fe hk f args w K)
  (fun l args w fe _ K => kYield P fe l args w K) task fe hk K
def kN (hk : Hook) (n : Nat) : FE := Nat.rec (motive := fun _ => FE) (fun _ _ => false) (fun _ ih task K => kTask P ih hk task K) n
end
section sound
variable {P : Program} {hk : Hook}
def KRuns (P : Program) (hk : Hook) (fe : FE) : Prop := ∀ task K,fe task K = true → ∀ Q : Res → Prop,(∀ r,K r = true → Q (r.abs task.num)) → wpL P hk task.abs Q
theorem ifB_true {c x : Bool} (h : ifB c x false = true) : c = true ∧ x = true := by cases c <;> simp_all [ifB]
theorem asVal_true {r : FRes} {k : AV → AW → Bool} (h : asVal r k = true) : ∃ v w,r = .val v w ∧ k v w = true := by
 cases r with
 | ex => cases h
 | val v w => exact ⟨v,w,rfl,h⟩
theorem asEx_true {r : FRes} {k : AExit → TT → List Nat → AW → Bool} (h : asEx r k = true) : ∃ e t ds w,r = .ex e t ds w ∧ k e t ds w = true := by
 cases r with
 | val => cases h
 | ex e t ds w => exact ⟨e,t,ds,w,rfl,h⟩
theorem callVal_ok {fe : FE} (hf : KRuns P hk fe) {fv : AV} {as : List AV} {w : AW} {k : AV → AW → Bool}
  (h : asFun fv (fun g a b => fe (.call g (a ++ (as ++ b)) w) fun r => asVal r k) (fun l => fe (.yield l as w) fun r => asVal r k) = true) {K : AV → AW → Prop} (hK : ∀ v w',k v w' = true → K v w') :
  wCallVal (wpL P hk) w as K fv := by
 cases fv <;> try (cases h; done)
 ·refine hf _ _ h _ fun r hr => ?_
  obtain ⟨v,w',rfl,hk'⟩ := asVal_true hr
  exact hK v w' hk'
 ·refine hf _ _ h _ fun r hr => ?_
  obtain ⟨v,w',rfl,hk'⟩ := asVal_true hr
  exact hK v w' hk'
theorem cond_true_or {c x y : Bool} (h : cond c x y = true) : (c = true ∧ x = true) ∨ (c = false ∧ y = true) := by cases c <;> simp_all
theorem kNext_ok {w : AW} {ev : Ev} {tmps : Tm} (hev : EvOk ev tmps) {i : Operand} {s : Bool} {k : AV → AW → Bool} (h : kNext w ev i s k = true) {K : AV → AW → Prop} (hK : ∀ v w',k v w' = true → K v w') : wNextOp w tmps i s K := by
 unfold kNext at h
 obtain ⟨x,hx,h⟩ := optB_true h
 split at h
 ·rename_i b
  split at h
  ·rename_i m es c kv1 kv2 r last hg _
   obtain ⟨y,hy,h⟩ := optB_true h
   obtain ⟨h1,h2⟩ := ifB_true h
   unfold wNextOp
   refine ⟨b,hev _ _ hx,?_⟩
   simp only [hg]
   have hc : y.2 = c := beq_iff.1 h1
   refine ⟨⟨y.1,by rw [hy,← hc]⟩,?_⟩
   intro kv rest' hp
   exact hK _ _ (List.all_eq_true.1 h2 _ hp)
  ·obtain ⟨x,hx,h⟩ := optB_true h
   exact fNextOp_ok hev hx (hK _ _ h)
 ·cases h
theorem opC_ok {fe : FE} (hf : KRuns P hk fe) {o : Op} {w : AW} {t : TT} {n : Nat} {k : AV → AW → Bool} (h : (opC P n o).run fe w t k = true) {K : AV → AW → Prop} (hK : ∀ v w', k v w' = true → K v w') :
    wOp P (wpL P hk) w (absT n t) o K := by
  have no : FRuns (fun _ => none) (wpL P hk) := fun _ _ h => by cases h
  have simp1 : ∀ {x : AV × AW}, fOp P (fun _ => none) w (evF t n) (ikOf P o) o = some x → k x.1 x.2 = true → wOp P (wpL P hk) w (absT n t) o K := fun {x} hx hk' =>
    fOp_ok (rec := wpL P hk) no (evF_ok t n) hx (hK _ _ hk')
  unfold opC at h
  cases hi : ikOf P o with
  | pu =>
    rw [hi] at h
    simp only [pureC_eq] at h
    obtain ⟨v, hv, hk'⟩ := optB_true h
    exact simp1 (x := (v, w)) (by rw [hi]; simp only [fOp, hv, bnd]) hk'
  | mk =>
    rw [hi] at h
    simp only [allocC_eq, kPushW_eq] at h
    obtain ⟨x, hx, hk'⟩ := optB_true h
    exact simp1 (x := (x.1, w.push x.2)) (by rw [hi]; simp only [fOp, hx, bnd]) hk'
  | ef =>
    rw [hi] at h
    simp only [effC_eq] at h
    obtain ⟨x, hx, hk'⟩ := optB_true h
    exact simp1 (x := x) (by rw [hi]; simp only [fOp, hx]) hk'
  | call =>
    rw [hi] at h
    cases o <;> try (cases h; done)
    rename_i c
    simp only [] at h
    cases hc : c.callee with
    | invoke r m => rw [hc] at h; cases h
    | builtin b => rw [hc] at h; cases h
    | value f =>
      rw [hc] at h
      simp only [callC, opdC_eq, opdsC_eq] at h
      obtain ⟨fv, hfv, h⟩ := optB_true h
      obtain ⟨as, has, h⟩ := optB_true h
      show wCallOp P (wpL P hk) w (absT n t) c K
      unfold wCallOp
      rw [hc]
      exact ⟨fv, as, evF_ok t n _ _ hfv, evs_ok (evF_ok t n) has, callVal_ok hf h hK⟩
  | next =>
    rw [hi] at h
    cases o <;> try (cases h; done)
    rename_i i s
    exact kNext_ok (evF_ok t n) h hK
  | bad => rw [hi] at h; cases h
theorem seqC_ok {fe : FE} (hf : KRuns P hk fe) {all : List Oper} {n : Nat} {k : TT → AW → Bool} {K : Tm → AW → Prop} (hK : ∀ t' w', k t' w' = true → K (absT n t') w') : ∀ {l : List Oper} {w : AW} {t : TT}, (seqC P n all l).run fe w t k = true →
    wOps P (wpL P hk) all l (absT n t) w K
  | [], w, t, h => hK t w h
  | o :: l, w, t, h => by
    have h : (gdC n (gdOf all o.guard)).run t ((opC P n o.op).run fe w t fun v w' => (seqC P n all l).run fe w' ((putC o.dst).set t v) k) ((seqC P n all l).run fe w ((putC o.dst).set t undef) k) = true := by
      unfold seqC at h
      cases hg : gdOf all o.guard <;> (rw [hg] at h; exact h)
    rw [gdC_eq, gdF_eq, gdOk_eq] at h
    simp only [wOps]
    rcases cond_true_or h with ⟨hg, h⟩ | ⟨hg, h⟩
    · rw [if_pos hg]
      refine opC_ok hf h fun v w1 h => ?_
      have := seqC_ok hf hK h
      rwa [putC_eq, absT_put] at this
    · rw [if_neg (by simp [hg])]
      have := seqC_ok hf hK h
      rwa [putC_eq, absT_put] at this
theorem planC_ok {fe : FE} (hf : KRuns P hk fe) {ops : List Oper} {n : Nat} {k : TT → AW → Bool} {K : Tm → AW → Prop} (hK : ∀ t' w', k t' w' = true → K (absT n t') w') : ∀ {p : Plan} {rds : List FRd} {w : AW} {t : TT}, (planC P n ops p).run fe rds w t k = true →
    wPlan P (wpL P hk) ops p (rds.map (FRd.abs n)) (absT n t) w K
  | .bad, _, _, _, h => by cases h
  | .done q chk, rds, w, t, h => by
    cases chk with
    | true =>
      have h : (qC P n q).run rds w t (fun rds t w => ifB (kSames P ops n w rds) (k t w) false) = true := h
      rw [qC_eq] at h
      obtain ⟨x, hx, h⟩ := optB_true h
      obtain ⟨h1, h2⟩ := ifB_true h
      rw [kSames_eq] at h1
      exact ⟨fun hc => (by cases hc), fQ_ok hx ⟨fun _ => fSames_ok h1, hK _ _ h2⟩⟩
    | false =>
      have h : ifB (kSames P ops n w rds) ((qC P n q).run rds w t fun _ t w => k t w) false = true := h
      obtain ⟨h1, h2⟩ := ifB_true h
      rw [kSames_eq] at h1
      rw [qC_eq] at h2
      obtain ⟨x, hx, h2⟩ := optB_true h2
      exact ⟨fun _ => fSames_ok h1, fQ_ok hx ⟨fun hc => (by cases hc), hK _ _ h2⟩⟩
  | .eff q chk g o i bfi next, rds, w, t, h => by
    have go : ∀ {rds : List FRd} {w : AW} {t : TT}, (gdC n g).run t ((opC P n o.op).run fe w t fun v w' => (planC P n ops next).run fe (kFilter bfi rds) w' ((putC o.dst).set t v) k) ((planC P n ops next).run fe (kFilter bfi rds) w ((putC o.dst).set t undef) k) = true →
          (bif gdOk (absT n t) g then wOp P (wpL P hk) w (absT n t) o.op fun v w'' => wPlan P (wpL P hk) ops next ((rds.map (FRd.abs n)).filter fun r => !(bfi.testBit r.i)) (putT (absT n t) o.dst v) w'' K
            else wPlan P (wpL P hk) ops next ((rds.map (FRd.abs n)).filter fun r => !(bfi.testBit r.i)) (putT (absT n t) o.dst undef) w K) := by
      intro rds w t h
      rw [gdC_eq, gdF_eq] at h
      rcases cond_true_or h with ⟨hg, h⟩ | ⟨hg, h⟩
      · rw [hg]
        refine opC_ok hf h fun v w1 h => ?_
        have := planC_ok hf hK h
        rwa [putC_eq, absT_put, kFilter_eq, filter_abs] at this
      · rw [hg]
        have := planC_ok hf hK h
        rwa [putC_eq, absT_put, kFilter_eq, filter_abs] at this
    cases chk with
    | true =>
      have h : (qC P n q).run rds w t (fun rds t w => ifB (kSames P ops n w rds) ((gdC n g).run t ((opC P n o.op).run fe w t fun v w' => (planC P n ops next).run fe (kFilter bfi rds) w' ((putC o.dst).set t v) k) ((planC P n ops next).run fe (kFilter bfi rds) w ((putC o.dst).set t undef) k)) false) = true := h
      rw [qC_eq] at h
      obtain ⟨x, hx, h⟩ := optB_true h
      obtain ⟨h1, h2⟩ := ifB_true h
      rw [kSames_eq] at h1
      exact ⟨fun hc => (by cases hc), fQ_ok hx ⟨fun _ => fSames_ok h1, go h2⟩⟩
    | false =>
      have h : ifB (kSames P ops n w rds) ((qC P n q).run rds w t fun rds t w => (gdC n g).run t ((opC P n o.op).run fe w t fun v w' => (planC P n ops next).run fe (kFilter bfi rds) w' ((putC o.dst).set t v) k) ((planC P n ops next).run fe (kFilter bfi rds) w ((putC o.dst).set t undef) k)) false = true := h
      obtain ⟨h1, h2⟩ := ifB_true h
      rw [kSames_eq] at h1
      rw [qC_eq] at h2
      obtain ⟨x, hx, h2⟩ := optB_true h2
      exact ⟨fun _ => fSames_ok h1, fQ_ok hx ⟨fun hc => (by cases hc), go h2⟩⟩
theorem resC_ok {t : TT} {n : Nat} : ∀ {l : List ResultVar} {w : AW} {k : List AV → Bool}, (resC P n l).run w t k = true → ∃ vs, k vs = true ∧ resultsL P w (absT n t) l = some vs
  | [], w, k, h => ⟨[], h, rfl⟩
  | .tmp i :: rs, w, k, h => by
    have h : ifB (Nat.ble (Nat.succ i) n) ((resC P n rs).run w t fun vs => k ((getC i).get t :: vs)) false = true := h
    obtain ⟨hb, h⟩ := ifB_true h
    obtain ⟨vs, hk', hr⟩ := resC_ok h
    refine ⟨_, hk', ?_⟩
    have hb : i < n := Nat.le_of_ble_eq_true hb
    simp only [resultsL, resultA, absT_getT t hb, Option.bind_some, hr, Option.map_some, getC_eq]
  | .cell a ty :: rs, w, k, h => by
    have h : ifB (Nat.ble (Nat.succ a) n) ((loadC n (.tmp a) (aggSz P ty)).run w t fun v => (resC P n rs).run w t fun vs => k (v :: vs)) false = true := h
    obtain ⟨hb, h⟩ := ifB_true h
    have hp := pureC_eq P (.load ty (.tmp a)) w t n fun v => (resC P n rs).run w t fun vs => k (v :: vs)
    have h : (pureC P n (.load ty (.tmp a))).run w t (fun v => (resC P n rs).run w t fun vs => k (v :: vs)) = true := h
    rw [hp] at h
    obtain ⟨v, hv, h⟩ := optB_true h
    obtain ⟨vs, hk', hr⟩ := resC_ok h
    refine ⟨_, hk', ?_⟩
    have hb : a < n := Nat.le_of_ble_eq_true hb
    have hp := pureE_ok P (evF_ok t n) hv
    simp only [pureOp, evalO, Option.bind_some] at hp
    simp only [resultsL, resultA, hp, Option.bind_some, hr, Option.map_some]
theorem codeC_ok {fe : FE} (hf : KRuns P hk fe) : ∀ {c : Code} {ro : Option Nat} {t : TT} {n : Nat} {ds : List Nat} {w : AW} {k : AExit → TT → List Nat → AW → Bool}, (codeC P n c).run fe ro t ds w k = true →
    ∀ {Q : Res → Prop}, (∀ e t' ds' w', k e t' ds' w' = true → Q (.ex e ⟨absT n t', ds', w'⟩)) → wpL P hk (.code ro c ⟨absT n t, ds, w⟩) Q := by
  intro c
  induction c with
  | skip => exact fun h Q hQ => wpL_in (hQ _ _ _ _ h)
  | label l => exact fun h Q hQ => wpL_in (hQ _ _ _ _ h)
  | ret => exact fun h Q hQ => wpL_in (hQ _ _ _ _ h)
  | exit id => exact fun h Q hQ => wpL_in (hQ _ _ _ _ h)
  | goto l => exact fun h Q hQ => wpL_in (hQ _ _ _ _ h)
  | refuse w => intro ro t n ds w k h; cases h
  | seq a b iha ihb =>
    intro ro t n ds w k h Q hQ
    refine wpL_in (iha (show (codeC P n a).run fe ro t ds w (fun e t ds w => isNorm e ((codeC P n b).run fe ro t ds w k) (k e t ds w)) = true from h) fun e t1 ds1 w1 h => ?_)
    cases e
    case normal => exact ihb (show (codeC P n b).run fe ro t1 ds1 w1 k = true from h) hQ
    all_goals exact hQ _ _ _ _ h
  | cond c a b iha ihb =>
    intro ro t n ds w k h Q hQ
    have h : (opdC n c).run t (fun v => asBoolK v fun x => Bool.rec (motive := fun _ => Bool) ((codeC P n b).run fe ro t ds w k) ((codeC P n a).run fe ro t ds w k) x) = true := h
    rw [opdC_eq] at h
    obtain ⟨v, hv, h⟩ := optB_true h
    cases v <;> try (cases h; done)
    rename_i x
    cases x with
    | true => exact wpL_in ⟨true, evF_ok t n _ _ hv, iha (show (codeC P n a).run fe ro t ds w k = true from h) hQ⟩
    | false => exact wpL_in ⟨false, evF_ok t n _ _ hv, ihb (show (codeC P n b).run fe ro t ds w k = true from h) hQ⟩
  | block id b ih =>
    intro ro t n ds w k h Q hQ
    refine wpL_in (ih (show (codeC P n b).run fe ro t ds w (fun e t ds w => isExit e (fun i => ifB (Nat.beq i id) (k .normal t ds w) (k (.exit i) t ds w)) (k e t ds w)) = true from h) fun e t1 ds1 w1 h => ?_)
    cases e
    case exit i =>
      have h : ifB (Nat.beq i id) (k .normal t1 ds1 w1) (k (.exit i) t1 ds1 w1) = true := h
      rw [ifB_eq] at h
      rcases cond_true_or h with ⟨hb, h⟩ | ⟨hb, h⟩
      · simp only [exK, wBlock]; rw [if_pos (beq_iff.1 hb)]; exact hQ _ _ _ _ h
      · simp only [exK, wBlock]; rw [if_neg (fun h => by rw [beq_iff.2 h] at hb; cases hb)]; exact hQ _ _ _ _ h
    all_goals exact hQ _ _ _ _ h
  | loop b ih =>
    intro ro t n ds w k h Q hQ
    refine wpL_in (ih (show (codeC P n b).run fe ro t ds w (fun e t ds w => isNorm e (fe (.code ro (.loop b) t n ds w) fun r => asEx r k) (k e t ds w)) = true from h) fun e t1 ds1 w1 h => ?_)
    cases e
    case normal =>
      refine hf _ _ (show fe (.code ro (.loop b) t1 n ds1 w1) (fun r => asEx r k) = true from h) Q fun r hr => ?_
      obtain ⟨e, t2, ds2, w2, rfl, h⟩ := asEx_true hr
      exact hQ _ _ _ _ h
    all_goals exact hQ _ _ _ _ h
  | region id ops draw =>
    intro ro t n ds w k h Q hQ
    cases draw with
    | true => exact wpL_in (fPlan_draw wpL_mono (planC_ok hf (K := stK ⟨absT n t, ds, w⟩ Q) (fun t' w' h => hQ _ _ _ _ h) (show (planC P n ops.toList (fPlan P ops.toList)).run fe [] w t (fun t w => k .normal t ds w) = true from h)))
    | false => exact wpL_in (seqC_ok hf (K := stK ⟨absT n t, ds, w⟩ Q) (fun t' w' h => hQ _ _ _ _ h) (show (seqC P n ops.toList ops.toList).run fe w t (fun t w => k .normal t ds w) = true from h))
  | scope b ih =>
    intro ro t n ds w k h Q hQ
    refine wpL_in (hf _ _ (show fe (.scope ro b b t n ds w) (fun r => asEx r k) = true from h) Q fun r hr => ?_)
    obtain ⟨e, t2, ds2, w2, rfl, h⟩ := asEx_true hr
    exact hQ _ _ _ _ h
  | rangeFunc f params assign body ih1 ih2 =>
    intro ro t n ds w k h Q hQ
    obtain ⟨⟨d, defers, w1⟩, hs, h⟩ := optB_true h
    rw [opdC_eq] at h
    obtain ⟨fv, hfv, h⟩ := optB_true h
    have hst : startLoop ro ⟨absT n t, ds, w⟩ = some (d, defers, w1) := by
      unfold fStart at hs
      unfold startLoop
      cases ro with
      | none => exact hs
      | some l =>
        simp only [bnd_eq] at hs ⊢
        cases hl : loopAt w l with
        | none => rw [hl] at hs; cases hs
        | some r => rw [hl] at hs; exact hs
    cases fv <;> try (cases h; done)
    rename_i g a b
    refine wpL_in ⟨d, defers, w1, _, hst, evF_ok t n _ _ hfv, hf _ _ h _ fun r hr => ?_⟩
    obtain ⟨v, w2, rfl, h⟩ := asVal_true hr
    obtain ⟨r1, hr1, h⟩ := optB_true h
    split at h
    · cases h
    · rename_i hb
      refine ⟨r1, hr1, hb, ?_⟩
      cases hp : r1.pending with
      | none =>
        rw [hp] at h
        exact hQ _ _ _ _ h
      | some c =>
        rw [hp] at h
        refine hf _ _ h Q fun r2 hr2 => ?_
        obtain ⟨e, t3, ds3, w3, rfl, h⟩ := asEx_true hr2
        exact hQ _ _ _ _ h
theorem kTask_ok {fe : FE} (hf : KRuns P hk fe) : KRuns P hk (kTask P fe hk) := by
  intro task K h Q hQ
  cases task with
  | code ro c t n ds w => exact codeC_ok hf (show (codeC P n c).run fe ro t ds w (fun e t ds w => K (.ex e t ds w)) = true from h) fun e t' ds' w' h => hQ (.ex e t' ds' w') h
  | scope ro b c t n ds w =>
    refine wpL_in (codeC_ok hf (show (codeC P n c).run fe ro t ds w (fun e t ds w => isGoto e (fun l => match findLabelA b l with
      | some rest => fe (.scope ro b rest t n ds w) K
      | none => K (.ex e t ds w)) (K (.ex e t ds w))) = true from h) fun e t1 ds1 w1 h => ?_)
    cases e
    case goto l =>
      have h : (match findLabelA b l with
        | some rest => fe (.scope ro b rest t1 n ds1 w1) K
        | none => K (.ex (.goto l) t1 ds1 w1)) = true := h
      split at h
      · rename_i rest hl
        simp only [exK, wScope, hl]
        exact hf _ _ h Q hQ
      · rename_i hl
        simp only [exK, wScope, hl]
        exact hQ _ h
    all_goals exact hQ _ h
  | call f args w =>
    have h : kCall P fe hk f args w K = true := h
    unfold kCall at h
    refine wpL_in ?_
    simp only [FTask.abs, wTask, wCall]
    cases hh : hk f args w with
    | some r =>
      rw [hh] at h
      obtain ⟨x, hx, h⟩ := optB_true (show optB r (fun x => K (.val x.1 x.2)) = true from h)
      exact ⟨x.1, x.2, hx, hQ _ h⟩
    | none =>
      rw [hh] at h
      have h : (funC P (nthF f P.funcs.toList)).run fe args w K = true := h
      rw [nthF_eq, Array.getElem?_toList] at h
      cases hfn : P.funcs[f]? with
      | none => rw [hfn] at h; cases h
      | some fn =>
        rw [hfn] at h
        unfold funC at h
        simp only [] at h
        refine ⟨fn, rfl, ?_⟩
        cases hb : fn.body with
        | none =>
          rw [hb] at h
          obtain ⟨x, hx, h⟩ := optB_true (show optB (externA w fn.name args) (fun x => K (.val x.1 x.2)) = true from h)
          unfold wEnter; simp only [hb]; exact ⟨x.1, x.2, hx, hQ _ h⟩
        | some c =>
          rw [hb] at h
          obtain ⟨hlen, h⟩ := ifB_true (show ifB (Nat.ble args.length fn.ntmps) _ false = true from h)
          have hmax : fn.ntmps = Nat.max args.length fn.ntmps := (Nat.max_eq_right (Nat.le_of_ble_eq_true hlen)).symm
          unfold wEnter; simp only [hb]
          rw [show args ++ List.replicate (fn.ntmps - args.length) undef = absT fn.ntmps (ofL 0 args .nil) from by rw [← abs_args]; rw [← hmax]]
          refine codeC_ok hf (show (codeC P fn.ntmps c).run fe none (ofL 0 args .nil) [] w (fun e t ds w =>
            isEnd e (kTake w ds fun w => (resC P fn.ntmps fn.results.toList).run w t fun vs => K (.val (one vs) w))) = true from h) fun e t1 ds1 w1 h => ?_
          have fin : (e = .normal ∨ e = .ret) ∧ (kTake w1 ds1 fun w => (resC P fn.ntmps fn.results.toList).run w t1 fun vs => K (.val (one vs) w)) = true := by
            cases e
            · exact ⟨.inl rfl, h⟩
            · cases h
            · cases h
            · exact ⟨.inr rfl, h⟩
          obtain ⟨he, h⟩ := fin
          rw [kTake_eq] at h
          obtain ⟨w2, hw2, h⟩ := optB_true h
          obtain ⟨vs, h, hvs⟩ := resC_ok h
          exact ⟨he, w2, vs, hw2, hvs, hQ _ h⟩
  | yield l args w =>
    obtain ⟨r1, hr1, h⟩ := optB_true (show kYield P fe l args w K = true from h)
    obtain ⟨hlen, h⟩ := ifB_true h
    have e1 : setParams (r1.params.zip args) r1.tmps = absT r1.tmps.length (fSetP (r1.params.zip args) (ofL 0 r1.tmps .nil)) := by
      rw [fSetP_abs, abs_list]
    refine wpL_in ⟨r1, hr1, beq_iff.1 hlen, ?_⟩
    rw [e1]
    refine codeC_ok hf h fun e t1 ds1 w1 h => ?_
    cases e <;> try (cases h; done)
    obtain ⟨r2, hr2, h⟩ := optB_true (show optB (loopAt w1 l) _ = true from h)
    cases hst : r2.st <;> (rw [hst] at h; try (cases h; done))
    refine ⟨rfl, r2, hr2, hst, codeC_ok hf h fun e t2 ds2 w2 h => ?_⟩
    obtain ⟨r3, hr3, h⟩ := optB_true h
    exact ⟨r3, hr3, hQ _ h⟩
theorem kN_ok : ∀ n,KRuns P hk (kN P hk n)
 | 0 => fun _ _ h => by cases h
 | n + 1 => kTask_ok (kN_ok n)
end sound
end
end Go.Sx
