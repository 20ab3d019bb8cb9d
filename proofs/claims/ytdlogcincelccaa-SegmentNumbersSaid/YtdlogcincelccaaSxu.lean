/-
 Ranges over functions of two values, as formulas.
 No condition beyond those that each theorem names.
-/
import Derived.Test.YtdlogcincelccaaSxn
set_option linter.unusedVariables false
set_option linter.unusedSimpArgs false
/-! Ranges over functions of two values, at a function's own level, as formulas. -/
namespace Go.Sx
inductive AdvR where
 | of (a : Adv)
 | sq (a b : AdvR)
 | cd (a b : AdvR)
 | bl (a : AdvR)
 | rg (a b : Adv)
def busyOb (r : LoopA) : AO := LoopA.ob { r with st := .busy }
def endK (c : Option Code) (w : AW) (Cn Cr : AW → Prop) : Prop :=
  match c with
  | none => Cn w
  | some c => match c with
    | .ret => Cr w
    | _ => False
def range2 (P : Program) (hk : Hook) (fv : AV) (w : AW) (F : LoopA → AV → AV → AW → (AExit → AW → Prop) → Prop) (Cn Cr : AW → Prop) : Prop :=
  ∀ R0 : LoopA, R0.st = .ready → R0.pending = none →
    (∀ (x y : AV) (wy : AW) (Kv : AV → AW → Prop), loopAt wy (w.size + 1) = some R0 → F R0 x y wy (fun e w2 => ∃ r', loopAt w2 (w.size + 1) = some r' ∧ Kv (.bool (jumpOf e).isNone) (w2.set (w.size + 1) (LoopA.ob { r' with st := if (jumpOf e).isNone then .ready else .done, pending := jumpOf e }))) → Cv P hk (.yield (w.size + 1)) [x, y] wy Kv) →
    Cv P hk fv [.yield (w.size + 1)] ((w.push .deferred).push (LoopA.ob R0)) fun _ w' => ∃ r, loopAt w' (w.size + 1) = some r ∧ r.st ≠ .busy ∧ endK r.pending (w'.set (w.size + 1) (LoopA.ob { r with st := .exhausted })) Cn Cr
section
variable (P : Program) (hk : Hook) (n : Nat)
def exitR (id : Nat) (e : AExit) (t : Tm) (ds : List Nat) (w : AW) (K : AExit → Tm → List Nat → AW → Prop) : Prop :=
 match e with
 | .exit i => bif Nat.beq i id then K .normal t ds w else K (.exit i) t ds w
 | e => K e t ds w
def normR (e : AExit) (t : Tm) (ds : List Nat) (w : AW) (A : Tm → List Nat → AW → Prop) (K : AExit → Tm → List Nat → AW → Prop) : Prop :=
 match e with
 | .normal => A t ds w
 | e => K e t ds w
def codeR : AdvR → Code → Tm → List Nat → AW → (AExit → Tm → List Nat → AW → Prop) → Prop
  | .of a, c, t, ds, w, K => codeS P hk n a c t w fun e t w => K e t ds w
  | .sq x y, c, t, ds, w, K => match c with
    | .seq a b => codeR x a t ds w fun e t ds w => normR e t ds w (fun t ds w => codeR y b t ds w K) K
    | _ => False
  | .cd x y, c, t, ds, w, K => match c with
    | .cond c a b => evK t c fun v => onB v fun z => ifT z (codeR x a t ds w K) (codeR y b t ds w K)
    | _ => False
  | .bl x, c, t, ds, w, K => match c with
    | .block id b => codeR x b t ds w fun e t ds w => exitR id e t ds w K
    | _ => False
  | .rg a b, c, t, ds, w, K => match c with
    | .rangeFunc f params assign body => match params.toList with
      | [p, q] => evK t f fun fv => range2 P hk fv w (fun R x y wy Kb => codeS P hk n a assign (setParams [(p, x), (q, y)] t) wy fun e t' w' => match e with
          | .normal => loopAt w' (w.size + 1) = some R ∧ ∀ wb : AW, wb = w'.set (w.size + 1) (busyOb R) → codeS P hk n b body t' wb fun e2 _ w2 => Kb e2 w2
          | _ => False) (fun w' => K .normal t (w.size :: ds) w') (fun w' => K .ret t (w.size :: ds) w')
      | _ => False
    | _ => False
def leaveR (fn : Func) (e : AExit) (t : Tm) (ds : List Nat) (w : AW) (K : AV → AW → Prop) : Prop :=
 match e with
 | .normal => onM (takeAll w ds) fun w => resS P t w fn.results.toList fun vs => K (one vs) w
 | .ret => onM (takeAll w ds) fun w => resS P t w fn.results.toList fun vs => K (one vs) w
 | _ => False
def fnR (fn : Func) (adv : AdvR) (args : List AV) (w : AW) (K : AV → AW → Prop) : Prop :=
 match fn.body with
 | some c => codeR P hk fn.ntmps adv c (args ++ List.replicate (fn.ntmps - args.length) undef) [] w fun e t ds w => leaveR P fn e t ds w K
 | none => False
end
section
variable {P : Program} {hk : Hook} {n : Nat}
theorem Cv_mono {fv : AV} {xs : List AV} {w : AW} {K K' : AV → AW → Prop} (h : ∀ v w, K v w → K' v w) (hc : Cv P hk fv xs w K) : Cv P hk fv xs w K' := by
 cases fv <;> first | exact wpL_mono _ _ _ (valK_mono h) hc | exact hc
theorem codeR_ok : ∀ {a : AdvR} {c : Code} {t : Tm} {ds : List Nat} {w : AW} {K : AExit → Tm → List Nat → AW → Prop}, codeR P hk n a c t ds w K → wpL P hk (.code none c ⟨t, ds, w⟩) (exK fun e s => K e s.tmps s.defers s.w)
  | .of a, c, t, ds, w, K, h => by
    simp only [codeR] at h
    refine wpL_mono _ _ _ (exK_mono fun e s hs => ?_) (codeS_ok (ro := none) (ds := ds) h)
    obtain ⟨h1, _, h2⟩ := hs
    rw [h1]; exact h2
  | .sq x y, c, t, ds, w, K, h => by
    simp only [codeR] at h
    split at h
    · rename_i a b
      refine wpL_in (t := .code none _ _) (wpL_mono _ _ _ (exK_mono fun e s hs => ?_) (codeR_ok (a := x) h))
      obtain ⟨t', ds', w'⟩ := s
      cases e
      case normal => exact codeR_ok (a := y) hs
      all_goals exact hs
    · exact h.elim
  | .cd x y, c, t, ds, w, K, h => by
    simp only [codeR] at h
    split at h
    · rename_i c a b
      simp only [evK, onM_iff, onB_iff, ifT_iff] at h
      obtain ⟨v, h1, z, rfl, h2, h3⟩ := h
      refine wpL_in (t := .code none _ _) ⟨z, h1, ?_⟩
      cases z
      · exact codeR_ok (a := y) (h3 rfl)
      · exact codeR_ok (a := x) (h2 rfl)
    · exact h.elim
  | .bl x, c, t, ds, w, K, h => by
    simp only [codeR] at h
    split at h
    · rename_i id b
      refine wpL_in (t := .code none _ _) (wpL_mono _ _ _ (exK_mono fun e s hs => ?_) (codeR_ok (a := x) h))
      obtain ⟨t', ds', w'⟩ := s
      cases e
      case exit i =>
        simp only [exitR] at hs
        simp only [wBlock]
        cases hb : Nat.beq i id with
        | true => rw [hb] at hs; rw [if_pos (Nat.eq_of_beq_eq_true hb)]; exact hs
        | false => rw [hb] at hs; rw [if_neg (fun e => by subst e; simp at hb)]; exact hs
      all_goals exact hs
    · exact h.elim
  | .rg a b, c, t, ds, w, K, h => by
    simp only [codeR] at h
    split at h
    · rename_i f params assign body
      split at h
      · rename_i p q hpq
        simp only [evK, onM_iff] at h
        obtain ⟨fv, h1, h2⟩ := h
        refine wpL_in (t := .code none (.rangeFunc f params assign body) ⟨t, ds, w⟩) ⟨w.size, w.size :: ds, w.push .deferred, fv, rfl, h1, ?_⟩
        let R0 : LoopA := ⟨.ready, none, 0, t, params.toList, assign, body, w.size⟩
        have hR := h2 R0 rfl rfl fun x y wy Kv hy hF => ?_
        · have hR : Cv P hk fv [.yield (w.size + 1)] ((w.push .deferred).push (LoopA.ob R0)) _ := hR
          have := Cv_mono (K' := fun _ w' => wEndLoop (wpL P hk) none (w.size + 1) t (w.size :: ds) w' (exK fun e s => K e s.tmps s.defers s.w)) (fun _ w' hw => ?_) hR
          · cases fv <;> exact this
          · obtain ⟨r, g1, g2, g3⟩ := hw
            refine ⟨r, g1, g2, ?_⟩
            cases hp : r.pending with
            | none => rw [hp] at g3; exact g3
            | some c =>
              rw [hp] at g3
              simp only [endK] at g3
              split at g3
              · exact wpL_in (t := .code none .ret _) g3
              · exact g3.elim
        · show wpL P hk (.yield (w.size + 1) [x, y] wy) (valK Kv)
          refine wpL_in (t := .yield _ _ _) ⟨R0, hy, by rw [show R0.params = [p, q] from hpq]; rfl, ?_⟩
          show wpL P hk (.code (some (w.size + 1)) assign ⟨setParams (params.toList.zip [x, y]) t, [], wy⟩) _
          rw [hpq]
          refine wpL_mono _ _ _ (exK_mono fun e s hs => ?_) (codeS_ok (ro := some (w.size + 1)) (ds := []) hF)
          obtain ⟨_, _, hs⟩ := hs
          obtain ⟨t', ds', w'⟩ := s
          cases e
          case normal =>
            obtain ⟨k1, k2⟩ := hs
            refine ⟨rfl, R0, k1, rfl, ?_⟩
            refine wpL_mono _ _ _ (exK_mono fun e s hs => ?_) (codeS_ok (ro := some (w.size + 1)) (ds := ds') (k2 _ rfl))
            exact hs.2.2
          all_goals exact hs.elim
      · exact h.elim
    · exact h.elim
theorem fnR_ok {f : FuncId} {fn : Func} {adv : AdvR} {args : List AV} {w : AW} {K : AV → AW → Prop} (hf : P.funcs[f]? = some fn) (hnk : hk f args w = none) (h : fnR P hk fn adv args w K) : Cl P hk f args w K := by
 unfold fnR at h
 split at h
 ·rename_i c hb
  refine wpL_in (t := .call f args w) ?_
  show wCall P (wpL P hk) hk f args w _
  unfold wCall
  rw [hnk]
  refine ⟨fn, hf, ?_⟩
  unfold wEnter
  rw [hb]
  refine wpL_mono _ _ _ (exK_mono fun e s hs => ?_) (codeR_ok h)
  obtain ⟨t', ds', w'⟩ := s
  cases e
  case normal =>
   obtain ⟨w2, h5, h4⟩ := onM_iff.1 hs
   obtain ⟨vs, h3, h6⟩ := resS_ok h4
   exact ⟨.inl rfl, w2, vs, h5, h3, h6⟩
  case ret =>
   obtain ⟨w2, h5, h4⟩ := onM_iff.1 hs
   obtain ⟨vs, h3, h6⟩ := resS_ok h4
   exact ⟨.inr rfl, w2, vs, h5, h3, h6⟩
  all_goals exact hs.elim
 ·exact h.elim
end
end Go.Sx
