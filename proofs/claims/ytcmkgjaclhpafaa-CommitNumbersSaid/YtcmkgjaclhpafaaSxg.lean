/-
  From a call of the abstract machine to the model's call, in the statement's own words.
  No condition beyond those that each theorem names.
-/
import Derived.Test.YtcmkgjaclhpafaaSxf
import Derived.ProofKit
import Derived.OpenShut
set_option linter.unusedVariables false
set_option linter.unusedSimpArgs false
/-! From the meaning to the statement's own words. -/
namespace Go.Sx
open Go.ChangeShapes Go.WideShapes

section
variable {P : Program} {W0 : World} {N0 : Nat} {m : Emb} {w : AW} {W : World}

/-- A call that is meant so goes so. -/
theorem calls_sound (hh : Host P W0 N0) {n : Nat} {f : FuncId} {args : List AV} {K : AV → AW → Prop} (hwp : wpN P n (.call f args w) (valK K)) {fn : Func} {c : Code} (hf : P.funcs[f]? = some fn) (hb : fn.body = some c)
    (h : Rel W0 N0 m w W) {cargs : Array Value} (ha : VRs m args cargs.toList) :
    Calls P f cargs W fun e W' => ∃ v w' m' cv, e = .returned cv ∧ K v w' ∧ VR m' v cv ∧ Rel W0 N0 m' w' W' ∧ m.le m' := by
  intro cs
  cases n with
  | zero => exact hwp.elim
  | succ n =>
    have hok := sound hh n
    obtain ⟨fn', hf', hw⟩ := hwp
    rw [hf] at hf'
    cases hf'
    unfold wEnter at hw
    simp only [hb] at hw
    let b : Frame := { fn := f, tmps := #[], todo := [], defers := [], mode := .run, kind := .normal }
    have he : Frame.enter P f cargs .normal = b.atR ⟨cargs ++ Array.replicate (fn.ntmps - cargs.size) Go.undef, []⟩ [.code c] := by
      simp [Frame.enter, hf, hb, Frame.atR, b]
    obtain ⟨e, s1, m1, ts1, ds1, W1, hq, h1, ht1, hd1, hext, harr⟩ := hok.code _ _ _ _ hw m W _ [] b [] cs (.code c) h (enter_tmps ha fn.ntmps) rfl rfl rfl (.inl rfl)
    obtain ⟨hne, w', vs, htk, hres, hq⟩ := hq
    have fin : ∀ todo, Steps P (lone (b.atR ⟨cargs ++ Array.replicate (fn.ntmps - cargs.size) Go.undef, []⟩ [.code c]) cs W) (lone { b.atR ⟨ts1, ds1⟩ todo with mode := .returning } cs W1) →
        ∃ e W' fr, (∃ v w' m' cv, e = .returned cv ∧ K v w' ∧ VR m' v cv ∧ Rel W0 N0 m' w' W' ∧ m.le m') ∧ Comes P (lone (Frame.enter P f cargs .normal) cs W) (lone fr cs W') e ∧ fr.fn = f ∧ fr.leaving P W' e := by
      intro todo hst
      obtain ⟨W2, h2, hext2, hst2⟩ := take_sound (P := P) b todo cs ts1 s1.defers m1 s1.w w' W1 ds1 h1 hd1 htk
      obtain ⟨cv, hrun, hv⟩ := results_sound (P := P) h2 ht1 hres
      refine ⟨.returned cv, W2, { b.atR ⟨ts1, []⟩ todo with mode := .returning }, ⟨_, w', m1, cv, rfl, hq, hv, h2, hext.le⟩, ?_, rfl, ⟨rfl, rfl, rfl, fn, hf, hrun⟩⟩
      show Steps _ _ _
      rw [he]
      exact hst.trans hst2
    rcases hne with rfl | rfl
    · exact fin [] (Steps.trans harr (.one (stepR_end rfl)))
    · obtain ⟨k0, hs⟩ := harr
      exact fin _ (hs.trans (.one (stepR_ret rfl)))

/-- The old memory and all else is as it was. -/
theorem Rel.kept (h : Rel W0 W0.heap.size m w W) (may : MemPlace → Prop) : W0.keptBut W may := by
  refine ⟨h.env.1, h.env.2, fun i hi => ?_⟩
  rw [h.old.2 i hi]
  cases W0.heap[i]? with
  | none => rfl
  | some o => cases o <;> first | rfl | exact ⟨rfl, rfl, rfl, fun _ _ => rfl⟩ | exact .inr ⟨rfl, rfl⟩

theorem Rel.frozen (h : Rel W0 W0.heap.size m w W) (a : Addr) (ha : a.block < W0.heap.size) : W.frozen? a = W0.frozen? a := by
  unfold World.frozen?
  rw [h.old.2 _ ha]

/-- Nothing yet stands for anything. -/
theorem Rel.start (W : World) : Rel W W.heap.size (fun _ => none) ⟨1, fun _ => none⟩ W := by
  refine ⟨⟨rfl, rfl⟩, by simp, by simp, ⟨Nat.le_refl _, fun _ _ => rfl⟩, by simp, by simp, by simp, fun b x hx => ?_, by simp, by simp⟩
  simp [AW.fam?] at hx

theorem host_of (hm : P.follows .mixedOrders = true) (hn : (P.funcs.toList.all fun fn => !(fn.name == "runtime.NumGoroutine")) = true)
    (hx : (P.funcs.toList.all fun fn => fn.body.isSome || !(fn.name == "sync/atomic.LoadInt64" || fn.name == "sync/atomic.StoreInt64" || fn.name == "sync/atomic.AddInt64" || fn.name == "maps.clone")) = true) : Host P W0 N0 := by
  have mem : ∀ (f : FuncId) (fn : Func), P.funcs[f]? = some fn → fn ∈ P.funcs.toList := fun f fn h => by
    rw [← Array.getElem?_toList] at h
    exact List.mem_of_getElem? h
  refine ⟨hm, fun f fn hf _ => ?_, fun f fn args w v w' hf hb he => ?_⟩
  · simpa using List.all_eq_true.1 hn fn (mem f fn hf)
  · have := List.all_eq_true.1 hx fn (mem f fn hf)
    simp only [hb, Option.isSome_none, Bool.false_or, Bool.not_eq_true', Bool.or_eq_false_iff, beq_eq_false_iff_ne, ne_eq] at this
    obtain ⟨⟨⟨a1, a2⟩, a3⟩, a4⟩ := this
    simp [externA, a1, a2, a3, a4] at he

def isTrue : Option Res → Bool
  | some (.val (.bool true) _) => true
  | _ => false

theorem isTrue_some {r : Option Res} (h : isTrue r = true) : ∃ w, r = some (.val (.bool true) w) := by
  unfold isTrue at h
  split at h
  · exact ⟨_, rfl⟩
  · simp at h

/-- A closed law. -/
theorem closed_walk (hm : P.follows .mixedOrders = true) (hn : (P.funcs.toList.all fun fn => !(fn.name == "runtime.NumGoroutine")) = true)
    (hx : (P.funcs.toList.all fun fn => fn.body.isSome || !(fn.name == "sync/atomic.LoadInt64" || fn.name == "sync/atomic.StoreInt64" || fn.name == "sync/atomic.AddInt64" || fn.name == "maps.clone")) = true)
    {n : Nat} {f : FuncId} (hev : isTrue (evN P n (.call f [] ⟨1, fun _ => none⟩)) = true) {fn : Func} {c : Code} (hf : P.funcs[f]? = some fn) (hb : fn.body = some c) (W : World) :
    Calls P f #[] W fun e W' => e = .returned (.bool true) ∧ W.keptBut W' (fun _ => False) ∧ ∀ a : Addr, a.block < W.heap.size → W'.frozen? a = W.frozen? a := by
  obtain ⟨w, hr⟩ := isTrue_some hev
  have hwp := evN_ok n _ _ hr (valK fun v _ => v = .bool true) rfl
  refine (calls_sound (host_of hm hn hx) hwp hf hb (Rel.start W) (cargs := #[]) rfl).mono ?_
  rintro e W' ⟨v, w', m', cv, rfl, rfl, hv, hrel, _⟩
  simp only [VR] at hv
  subst hv
  exact ⟨rfl, hrel.kept _, hrel.frozen⟩
end

section
variable {H : Type} {enc : TypeId × Value → H} {P : Program}

theorem post_kept {f : Func} {s : ChangeSpec} {apart fresh handsOn again : Bool} {W W' : World} {args : Array Value} {v : Value} {ds gs : List (DataW H)} {before pa pv : List MemPlace}
    (hW : DataW.Whole enc P f.params.toList s.vars apart W args.toList ds gs before)
    (hres : ∀ (b : Nat) (sp : Nat → Bool) (hd : Bool), DataW.TrodAll enc P W' b sp hd f.resultTypes.toList (v.resultList f.resultTypes.size) (s.fn H (ds ++ gs)).results [])
    (hargs : ∀ sp : Nat → Bool, (∀ p ∈ before, sp p.block = true) → DataW.TrodAll enc P W' 0 sp true f.params.toList args.toList (s.fn H (ds ++ gs)).args pa)
    (hvars : ∀ sp : Nat → Bool, (∀ p ∈ before, sp p.block = true) → DataW.TrodVars enc P W' sp s.vars (s.fn H (ds ++ gs)).vars pv)
    (hps : before = pa ++ pv) (hk : W.keptBut W' (· ∈ before)) (hfz : ∀ a : Addr, a.block < W.heap.size → W'.frozen? a = W.frozen? a)
    (hok : ∀ (j : Nat) (t : TypeId) (r : Value), f.resultTypes[j]? = some t → (v.resultList f.resultTypes.size)[j]? = some r → Value.okWide P W' .any 0 t r) :
    s.post enc P f apart fresh handsOn again W args v W' := by
  have hold : ∀ p ∈ before, (fun b => decide (b < W.heap.size)) p.block = true := fun p hp => by simpa using hW.lt p hp
  have hlt := hW.lt
  refine ⟨ds, gs, before, [], pa, pv, hW, hres _ _ _, hargs _ hold, hvars _ hold, World.keptBut_mono (fun p hp => ⟨hp, ?_⟩) hk, fun _ => ?_⟩
  · rw [hps, List.mem_append] at hp
    exact Or.inr hp
  · obtain ⟨_, _, _, _, _, hz, hn⟩ := hW
    refine ⟨hok, _, _, ([] ++ pa) ++ pv, ⟨[] ++ pa, pv, trodAll_append (hargs _ (fun _ _ => rfl)) (hres _ _ _), hvars _ (fun _ _ => rfl), rfl, ?_, ?_⟩, ?_⟩
    · intro b off hp
      have hp' : MemPlace.cell b off ∈ before := by rw [hps]; simpa using hp
      rw [hfz _ (hlt _ hp')]
      exact hz b off hp'
    · intro ha
      have := hn ha
      rw [hps] at this
      simpa using this
    · intro p hp _
      rw [hps]
      simpa using hp
end
end Go.Sx
