/-
  From a call of the abstract machine to the model's call, in the statement's own words.
  No condition beyond those that each theorem names.
-/
import Derived.Test.YtdlogcincelccaaSxj
import Derived.ProofKit
import Derived.OpenShut
import Derived.ChangeReads
import Derived.ChangeArms
import Derived.WalkKit
import Derived.Below
set_option linter.unusedVariables false
set_option linter.unusedSimpArgs false
/-! From the meaning to the statement's own words. -/
namespace Go.Sx
open Go.ChangeShapes Go.WideShapes
section
variable {P : Program} {W0 : World} {N0 : Nat} {m : Emb} {w : AW} {W : World}
theorem calls_sound {hk : Hook} (hh : Host P hk W0 N0) {n : Nat} {f : FuncId} {args : List AV} {K : AV → AW → Prop} (hnk : hk f args w = none) (hwp : wpN P hk n (.call f args w) (valK K)) {fn : Func} {c : Code} (hf : P.funcs[f]? = some fn) (hb : fn.body = some c)
    (h : Rel W0 N0 m w W) {cargs : Array Value} (ha : VRs m args cargs.toList) :
    Calls P f cargs W fun e W' => ∃ v w' m' cv, e = .returned cv ∧ K v w' ∧ VR m' v cv ∧ Rel W0 N0 m' w' W' ∧ m.le m' := by
  intro cs
  cases n with
  | zero => exact hwp.elim
  | succ n =>
    have hok := sound hh n
    unfold wpN wTask wCall at hwp
    simp only [hnk] at hwp
    obtain ⟨fn', hf', hw⟩ := hwp
    rw [hf] at hf'
    cases hf'
    unfold wEnter at hw
    simp only [hb] at hw
    let b : Frame := { fn := f, tmps := #[], todo := [], defers := [], mode := .run, kind := .normal }
    have he : Frame.enter P f cargs .normal = b.atR ⟨cargs ++ Array.replicate (fn.ntmps - cargs.size) Go.undef, []⟩ [.code c] := by
      simp [Frame.enter, hf, hb, Frame.atR, b]
    obtain ⟨e, s1, m1, ts1, ds1, W1, hq, h1, ht1, hd1, hext, harr⟩ := hok.code _ _ _ _ hw m W _ [] b [] cs (.code c) h (enter_tmps ha fn.ntmps) rfl rfl rfl (.inl rfl)
    obtain ⟨hne, w', vs, htk, hres, hq⟩ := hq
    have fin : ∀ todo, Steps P (lone (b.atR ⟨cargs ++ Array.replicate (fn.ntmps - cargs.size) Go.undef, []⟩ [.code c]) cs W) (lone { b.atR ⟨ts1, ds1⟩ todo with mode := .returning } cs W1) →
        ∃ e W' fr, (∃ v w' m' cv, e = .returned cv ∧ K v w' ∧ VR m' v cv ∧ Rel W0 N0 m' w' W' ∧ m.le m') ∧ Comes P (lone (Frame.enter P f cargs .normal) cs W) (lone fr cs W') e ∧ fr.fn = f ∧ fr.leaving P W' e := by
      intro todo hst
      obtain ⟨W2, h2, hext2, hst2⟩ := take_sound (P := P) b todo cs ts1 s1.defers m1 s1.w w' W1 ds1 h1 hd1 htk
      obtain ⟨cv, hrun, hv⟩ := results_sound (P := P) h2 ht1 hres
      refine ⟨.returned cv, W2, { b.atR ⟨ts1, []⟩ todo with mode := .returning }, ⟨_, w', m1, cv, rfl, hq, hv, h2, hext.le⟩, ?_, rfl, ⟨rfl, rfl, rfl, fn, hf, hrun⟩⟩
      show Steps _ _ _
      rw [he]
      exact hst.trans hst2
    rcases hne with rfl | rfl
    · exact fin [] (Steps.trans harr (.one (stepR_end rfl)))
    · obtain ⟨k0, hs⟩ := harr
      exact fin _ (hs.trans (.one (stepR_ret rfl)))
theorem Rel.kept (h : Rel W0 W0.heap.size m w W) (may : MemPlace → Prop) : W0.keptBut W may := by
  refine ⟨h.env.1, h.env.2, fun i hi => ?_⟩
  rw [h.old.2 i hi]
  cases W0.heap[i]? with
  | none => rfl
  | some o => cases o <;> first | rfl | exact ⟨rfl, rfl, rfl, fun _ _ => rfl⟩ | exact .inr ⟨rfl, rfl⟩
theorem Rel.frozen (h : Rel W0 W0.heap.size m w W) (a : Addr) (ha : a.block < W0.heap.size) : W.frozen? a = W0.frozen? a := by
  unfold World.frozen?
  rw [h.old.2 _ ha]
theorem Rel.start (W : World) : Rel W W.heap.size (fun _ => none) ⟨1, .nil⟩ W := by
  refine ⟨⟨rfl, rfl⟩, by simp, by simp, ⟨Nat.le_refl _, fun _ _ => rfl⟩, by simp, by simp, by simp, fun b x hx => ?_, by simp, by simp, by simp⟩
  simp [AW.fam?] at hx
theorem host_of (hm : P.follows .mixedOrders = true) (hn : (P.funcs.toList.all fun fn => !(fn.name == "runtime.NumGoroutine")) = true)
    (hx : (P.funcs.toList.all fun fn => fn.body.isSome || !(fn.name == "sync/atomic.LoadInt64" || fn.name == "sync/atomic.StoreInt64" || fn.name == "sync/atomic.AddInt64" || fn.name == "maps.clone")) = true) : Host P (fun _ _ _ => none) W0 N0 := by
  have mem : ∀ (f : FuncId) (fn : Func), P.funcs[f]? = some fn → fn ∈ P.funcs.toList := fun f fn h => by
    rw [← Array.getElem?_toList] at h
    exact List.mem_of_getElem? h
  refine ⟨hm, fun f fn hf _ => ?_, fun f fn args w v w' hf hb he => ?_, fun f args w v w' h => by simp at h⟩
  · simpa using List.all_eq_true.1 hn fn (mem f fn hf)
  · have := List.all_eq_true.1 hx fn (mem f fn hf)
    simp only [hb, Option.isSome_none, Bool.false_or, Bool.not_eq_true', Bool.or_eq_false_iff, beq_eq_false_iff_ne, ne_eq] at this
    obtain ⟨⟨⟨a1, a2⟩, a3⟩, a4⟩ := this
    simp [externA, a1, a2, a3, a4] at he
def isTrue : Option Res → Bool
  | some (.val (.bool true) _) => true
  | _ => false
theorem isTrue_some {r : Option Res} (h : isTrue r = true) : ∃ w, r = some (.val (.bool true) w) := by
  unfold isTrue at h
  split at h
  · exact ⟨_, rfl⟩
  · simp at h
theorem closed_walk (hm : P.follows .mixedOrders = true) (hn : (P.funcs.toList.all fun fn => !(fn.name == "runtime.NumGoroutine")) = true)
    (hx : (P.funcs.toList.all fun fn => fn.body.isSome || !(fn.name == "sync/atomic.LoadInt64" || fn.name == "sync/atomic.StoreInt64" || fn.name == "sync/atomic.AddInt64" || fn.name == "maps.clone")) = true)
    {n : Nat} {f : FuncId} (hev : isTrue (evN P (fun _ _ _ => none) n (.call f [] ⟨1, .nil⟩)) = true) {fn : Func} {c : Code} (hf : P.funcs[f]? = some fn) (hb : fn.body = some c) (W : World) :
    Calls P f #[] W fun e W' => e = .returned (.bool true) ∧ W.keptBut W' (fun _ => False) ∧ ∀ a : Addr, a.block < W.heap.size → W'.frozen? a = W.frozen? a := by
  obtain ⟨w, hr⟩ := isTrue_some hev
  have hwp := evN_ok n _ _ hr (valK fun v _ => v = .bool true) rfl
  refine (calls_sound (host_of hm hn hx) rfl hwp hf hb (Rel.start W) (cargs := #[]) rfl).mono ?_
  rintro e W' ⟨v, w', m', cv, rfl, rfl, hv, hrel, _⟩
  simp only [VR] at hv
  subst hv
  exact ⟨rfl, hrel.kept _, hrel.frozen⟩
end
section
variable {H : Type} {enc : TypeId × Value → H} {P : Program}
theorem post_kept {f : Func} {s : ChangeSpec} {apart fresh handsOn again : Bool} {W W' : World} {args : Array Value} {v : Value} {ds gs : List (DataW H)} {before pa pv : List MemPlace}
    (hW : DataW.Whole enc P f.params.toList s.vars apart W args.toList ds gs before)
    (hres : ∀ (b : Nat) (sp : Nat → Bool) (hd : Bool), DataW.TrodAll enc P W' b sp hd f.resultTypes.toList (v.resultList f.resultTypes.size) (s.fn H (ds ++ gs)).results [])
    (hargs : ∀ sp : Nat → Bool, (∀ p ∈ before, sp p.block = true) → DataW.TrodAll enc P W' 0 sp true f.params.toList args.toList (s.fn H (ds ++ gs)).args pa)
    (hvars : ∀ sp : Nat → Bool, (∀ p ∈ before, sp p.block = true) → DataW.TrodVars enc P W' sp s.vars (s.fn H (ds ++ gs)).vars pv)
    (hps : before = pa ++ pv) (hk : W.keptBut W' (· ∈ before)) (hfz : ∀ a : Addr, a.block < W.heap.size → W'.frozen? a = W.frozen? a)
    (hok : ∀ (j : Nat) (t : TypeId) (r : Value), f.resultTypes[j]? = some t → (v.resultList f.resultTypes.size)[j]? = some r → Value.okWide P W' .any 0 t r) :
    s.post enc P f apart fresh handsOn again W args v W' := by
  have hold : ∀ p ∈ before, (fun b => decide (b < W.heap.size)) p.block = true := fun p hp => by simpa using hW.lt p hp
  have hlt := hW.lt
  refine ⟨ds, gs, before, [], pa, pv, hW, hres _ _ _, hargs _ hold, hvars _ hold, World.keptBut_mono (fun p hp => ⟨hp, ?_⟩) hk, fun _ => ?_⟩
  · rw [hps, List.mem_append] at hp
    exact Or.inr hp
  · obtain ⟨_, _, _, _, _, hz, hn⟩ := hW
    refine ⟨hok, _, _, ([] ++ pa) ++ pv, ⟨[] ++ pa, pv, trodAll_append (hargs _ (fun _ _ => rfl)) (hres _ _ _), hvars _ (fun _ _ => rfl), rfl, ?_, ?_⟩, ?_⟩
    · intro b off hp
      have hp' : MemPlace.cell b off ∈ before := by rw [hps]; simpa using hp
      rw [hfz _ (hlt _ hp')]
      exact hz b off hp'
    · intro ha
      have := hn ha
      rw [hps] at this
      simpa using this
    · intro p hp _
      rw [hps]
      simpa using hp
end
end Go.Sx
/-! The machine does what the meaning without levels says. -/
namespace Go.Sx
open Go.ChangeShapes Go.WideShapes
section
variable {P : Program} {W0 : World} {N0 : Nat} {m : Emb} {w : AW} {W : World} {hk : Hook}
theorem wpL_out {t : Task} {Q : Res → Prop} (h : wpL P hk t Q) : wTask P (wpL P hk) hk t Q :=
  h (wTask P (wpL P hk) hk) (wTask_mono wpL_mono) fun t Q hw => wTask_le (rec := wTask P (wpL P hk) hk) (rec' := wpL P hk) (fun t Q Q' hq hw => wpL_mono t Q Q' hq (wpL_in hw)) t Q Q (fun _ h => h) hw
def okRec (P : Program) (W0 : World) (N0 : Nat) : Task → (Res → Prop) → Prop
  | .code ro c s, Q => ∀ m W (ts : Array Value) ds (b : Frame) k cs x, Rel W0 N0 m s.w W → VRs m s.tmps ts.toList → DR m s.defers ds → RoR m ro b.roundOf → b.kind = .normal → StartsAt c x →
    ∃ e s' m' ts' ds' W', Q (.ex e s') ∧ Rel W0 N0 m' s'.w W' ∧ VRs m' s'.tmps (ts' : Array Value).toList ∧ DR m' s'.defers ds' ∧ Ext m m' s.w s'.w ∧
      ArrA P (lone (b.atR ⟨ts, ds⟩ (x :: k)) cs W) b k cs ⟨ts', ds'⟩ W' e
  | .scope ro b0 c s, Q => ∀ m W (ts : Array Value) ds (b : Frame) k cs, Rel W0 N0 m s.w W → VRs m s.tmps ts.toList → DR m s.defers ds → RoR m ro b.roundOf → b.kind = .normal →
    ∃ e s' m' ts' ds' W', Q (.ex e s') ∧ Rel W0 N0 m' s'.w W' ∧ VRs m' s'.tmps (ts' : Array Value).toList ∧ DR m' s'.defers ds' ∧ Ext m m' s.w s'.w ∧
      ArrA P (lone (b.atR ⟨ts, ds⟩ (.code c :: .inScope b0 :: k)) cs W) b k cs ⟨ts', ds'⟩ W' e
  | .call f args w, Q => ∀ m W (cargs : Array Value) fr cs s, Rel W0 N0 m w W → VRs m args cargs.toList → plainTop fr → s.run P W = (callFunc f cargs).run P W →
    Post W0 N0 (fun v w => Q (.val v w)) m w (GoesOn P fr cs s W)
  | .yield l args w, Q => ∀ m W q (cargs : Array Value) fr cs s, Rel W0 N0 m w W → m l = some q → VRs m args cargs.toList → plainTop fr →
    s.run P W = (Instr.yield q.blk cargs).run P W → Post W0 N0 (fun v w => Q (.val v w)) m w (GoesOn P fr cs s W)
theorem okRec_ok : Ok P W0 N0 (okRec P W0 N0) := ⟨fun _ _ _ _ h => h, fun _ _ _ _ _ h => h, fun _ _ _ _ h => h, fun _ _ _ _ h => h⟩
theorem okRec_mono : MonoR (okRec P W0 N0) := by
  intro t Q Q' hq h
  cases t with
  | code ro c s =>
    intro m W ts ds b k cs x h1 h2 h3 h4 h5 h6
    obtain ⟨e, s', m', ts', ds', W', hQ, hr⟩ := h m W ts ds b k cs x h1 h2 h3 h4 h5 h6
    exact ⟨e, s', m', ts', ds', W', hq _ hQ, hr⟩
  | scope ro b0 c s =>
    intro m W ts ds b k cs h1 h2 h3 h4 h5
    obtain ⟨e, s', m', ts', ds', W', hQ, hr⟩ := h m W ts ds b k cs h1 h2 h3 h4 h5
    exact ⟨e, s', m', ts', ds', W', hq _ hQ, hr⟩
  | call f args w =>
    intro m W cargs fr cs s h1 h2 h3 h4
    obtain ⟨v, w', m', cv, W', hQ, hr⟩ := h m W cargs fr cs s h1 h2 h3 h4
    exact ⟨v, w', m', cv, W', hq _ hQ, hr⟩
  | yield l args w =>
    intro m W q cargs fr cs s h1 h2 h3 h4 h5
    obtain ⟨v, w', m', cv, W', hQ, hr⟩ := h m W q cargs fr cs s h1 h2 h3 h4 h5
    exact ⟨v, w', m', cv, W', hq _ hQ, hr⟩
theorem soundL (hh : Host P hk W0 N0) : Ok P W0 N0 (wpL P hk) := by
  have hstep : ∀ t Q, wTask P (okRec P W0 N0) hk t Q → okRec P W0 N0 t Q := fun t Q h => by
    have ih := okRec_ok (P := P) (W0 := W0) (N0 := N0)
    cases t with
    | code ro c s => exact code_ok hh ih (draw_ok P W0 N0 _ ih) _ _ _ _ h
    | scope ro b0 c s => exact scope_ok ih _ _ _ _ _ h
    | call f args w => exact call_ok hh ih _ _ _ _ h
    | yield l args w => exact yield_ok ih _ _ _ _ h
  have key : ∀ t Q, wpL P hk t Q → okRec P W0 N0 t Q := fun t Q h => h _ okRec_mono hstep
  exact ⟨fun ro c s Q h => key _ _ h, fun ro b0 c s Q h => key _ _ h, fun f args w Q h => key _ _ h, fun l args w Q h => key _ _ h⟩
theorem calls_soundL {hk : Hook} (hh : Host P hk W0 N0) {f : FuncId} {args : List AV} {K : AV → AW → Prop} (hnk : hk f args w = none) (hwp : wpL P hk (.call f args w) (valK K)) {fn : Func} {c : Code} (hf : P.funcs[f]? = some fn) (hb : fn.body = some c)
    (h : Rel W0 N0 m w W) {cargs : Array Value} (ha : VRs m args cargs.toList) :
    Calls P f cargs W fun e W' => ∃ v w' m' cv, e = .returned cv ∧ K v w' ∧ VR m' v cv ∧ Rel W0 N0 m' w' W' ∧ m.le m' := by
  intro cs
  case' _ =>
    have hok := soundL (P := P) (W0 := W0) (N0 := N0) hh
    replace hwp := wpL_out hwp
    unfold wTask wCall at hwp
    simp only [hnk] at hwp
    obtain ⟨fn', hf', hw⟩ := hwp
    rw [hf] at hf'
    cases hf'
    unfold wEnter at hw
    simp only [hb] at hw
    let b : Frame := { fn := f, tmps := #[], todo := [], defers := [], mode := .run, kind := .normal }
    have he : Frame.enter P f cargs .normal = b.atR ⟨cargs ++ Array.replicate (fn.ntmps - cargs.size) Go.undef, []⟩ [.code c] := by
      simp [Frame.enter, hf, hb, Frame.atR, b]
    obtain ⟨e, s1, m1, ts1, ds1, W1, hq, h1, ht1, hd1, hext, harr⟩ := hok.code _ _ _ _ hw m W _ [] b [] cs (.code c) h (enter_tmps ha fn.ntmps) rfl rfl rfl (.inl rfl)
    obtain ⟨hne, w', vs, htk, hres, hq⟩ := hq
    have fin : ∀ todo, Steps P (lone (b.atR ⟨cargs ++ Array.replicate (fn.ntmps - cargs.size) Go.undef, []⟩ [.code c]) cs W) (lone { b.atR ⟨ts1, ds1⟩ todo with mode := .returning } cs W1) →
        ∃ e W' fr, (∃ v w' m' cv, e = .returned cv ∧ K v w' ∧ VR m' v cv ∧ Rel W0 N0 m' w' W' ∧ m.le m') ∧ Comes P (lone (Frame.enter P f cargs .normal) cs W) (lone fr cs W') e ∧ fr.fn = f ∧ fr.leaving P W' e := by
      intro todo hst
      obtain ⟨W2, h2, hext2, hst2⟩ := take_sound (P := P) b todo cs ts1 s1.defers m1 s1.w w' W1 ds1 h1 hd1 htk
      obtain ⟨cv, hrun, hv⟩ := results_sound (P := P) h2 ht1 hres
      refine ⟨.returned cv, W2, { b.atR ⟨ts1, []⟩ todo with mode := .returning }, ⟨_, w', m1, cv, rfl, hq, hv, h2, hext.le⟩, ?_, rfl, ⟨rfl, rfl, rfl, fn, hf, hrun⟩⟩
      show Steps _ _ _
      rw [he]
      exact hst.trans hst2
    rcases hne with rfl | rfl
    · exact fin [] (Steps.trans harr (.one (stepR_end rfl)))
    · obtain ⟨k0, hs⟩ := harr
      exact fin _ (hs.trans (.one (stepR_ret rfl)))
theorem calls_soundL' {hk : Hook} (hh : Host P hk W0 N0) {f : FuncId} {args : List AV} {K : AV → AW → Prop} (hnk : hk f args w = none) (hwp : wpL P hk (.call f args w) (valK K)) {fn : Func} {c : Code} (hf : P.funcs[f]? = some fn) (hb : fn.body = some c)
    (h : Rel W0 N0 m w W) {cargs : Array Value} (ha : VRs m args cargs.toList) :
    Calls P f cargs W fun e W' => ∃ v w' m' cv, e = .returned cv ∧ K v w' ∧ VR m' v cv ∧ Rel W0 N0 m' w' W' ∧ Ext m m' w w' := by
  intro cs
  case' _ =>
    have hok := soundL (P := P) (W0 := W0) (N0 := N0) hh
    replace hwp := wpL_out hwp
    unfold wTask wCall at hwp
    simp only [hnk] at hwp
    obtain ⟨fn', hf', hw⟩ := hwp
    rw [hf] at hf'
    cases hf'
    unfold wEnter at hw
    simp only [hb] at hw
    let b : Frame := { fn := f, tmps := #[], todo := [], defers := [], mode := .run, kind := .normal }
    have he : Frame.enter P f cargs .normal = b.atR ⟨cargs ++ Array.replicate (fn.ntmps - cargs.size) Go.undef, []⟩ [.code c] := by
      simp [Frame.enter, hf, hb, Frame.atR, b]
    obtain ⟨e, s1, m1, ts1, ds1, W1, hq, h1, ht1, hd1, hext, harr⟩ := hok.code _ _ _ _ hw m W _ [] b [] cs (.code c) h (enter_tmps ha fn.ntmps) rfl rfl rfl (.inl rfl)
    obtain ⟨hne, w', vs, htk, hres, hq⟩ := hq
    have fin : ∀ todo, Steps P (lone (b.atR ⟨cargs ++ Array.replicate (fn.ntmps - cargs.size) Go.undef, []⟩ [.code c]) cs W) (lone { b.atR ⟨ts1, ds1⟩ todo with mode := .returning } cs W1) →
        ∃ e W' fr, (∃ v w' m' cv, e = .returned cv ∧ K v w' ∧ VR m' v cv ∧ Rel W0 N0 m' w' W' ∧ Ext m m' w w') ∧ Comes P (lone (Frame.enter P f cargs .normal) cs W) (lone fr cs W') e ∧ fr.fn = f ∧ fr.leaving P W' e := by
      intro todo hst
      obtain ⟨W2, h2, hext2, hst2⟩ := take_sound (P := P) b todo cs ts1 s1.defers m1 s1.w w' W1 ds1 h1 hd1 htk
      obtain ⟨cv, hrun, hv⟩ := results_sound (P := P) h2 ht1 hres
      refine ⟨.returned cv, W2, { b.atR ⟨ts1, []⟩ todo with mode := .returning }, ⟨_, w', m1, cv, rfl, hq, hv, h2, hext.trans hext2⟩, ?_, rfl, ⟨rfl, rfl, rfl, fn, hf, hrun⟩⟩
      show Steps _ _ _
      rw [he]
      exact hst.trans hst2
    rcases hne with rfl | rfl
    · exact fin [] (Steps.trans harr (.one (stepR_end rfl)))
    · obtain ⟨k0, hs⟩ := harr
      exact fin _ (hs.trans (.one (stepR_ret rfl)))
end
end Go.Sx
/-! The externs that the machine knows: atomics of int64, maps.clone. -/
namespace Go.Sx
section
variable {P : Program} {W0 : World} {N0 : Nat} {m : Emb} {w : AW} {W : World}
theorem run_loadAt {i b : Nat} {c : Array Value} {e : TypeId} {fr : Nat × Nat} {v : Value} (h : W.heap[b]? = some (.cells c e fr)) (hv : c[i]? = some v) (md : Mode) :
    (load ⟨b, i, none⟩ md).run P W = .ok v W := by
  simp [load, Sem.run, cell?_of h, hv]
theorem read_one (h : Rel W0 N0 m w W) {b o : Nat} {a : AV} (hr : w.read b o 1 = some [a]) {q : Pl} (hq : m b = some q) :
    ∃ (c : Array Value) (e : TypeId) (fr : Nat × Nat) (v : Value), W.heap[q.blk]? = some (.cells c e fr) ∧ c[q.off + o]? = some v ∧ VR m a v := by
  unfold AW.read at hr
  split at hr
  · rename_i cells hcells
    obtain ⟨hle, he⟩ := takeCells_eq hr
    obtain ⟨c, e, fr, hW, hroom, hlen, hok, hv⟩ := h.row hq hcells
    have hg : cells[o]? = some a := by
      have := congrArg (fun l => l[0]?) he
      simpa [List.getElem?_take, List.getElem?_drop] using this.symm
    obtain ⟨v, hvv, hr⟩ := hv.get hg
    refine ⟨c, e, fr, v, hW, ?_, hr⟩
    have hlt : o < cells.length := (List.getElem?_eq_some_iff.1 hg).1
    rw [List.getElem?_take_of_lt hlt, List.getElem?_drop] at hvv
    rw [← Array.getElem?_toList]
    exact hvv
  · simp at hr
theorem write_one (h : Rel W0 N0 m w W) {b o : Nat} {a : AV} {v : Value} {w' : AW} (hp : w.putCells b o [a] = some w') {q : Pl} (hq : m b = some q) (hv : VR m a v) (ha : okCell a = true) (md : Mode) :
    ∃ W', (store ⟨q.blk, q.off + o, none⟩ v md).run P W = .ok () W' ∧ Rel W0 N0 m w' W' := by
  have hvs : VRs m [a] [v] := VRs.cons hv VRs.nil
  have hok : ∀ x ∈ [a], okCell x = true := by simpa using ha
  obtain ⟨c, e, fr, hW, hlen, hfr, hrel⟩ := h.put hp hq hvs hok
  have hi : q.off + o < c.size := by simp at hlen; omega
  have hr := run_store (P := P) hW hi hfr (okCell_one hv ha) md
  have e1 : c.setIfInBounds (q.off + o) v = rowPut c (q.off + o) [v] := by
    apply Array.ext'
    rw [Array.toList_setIfInBounds]
    show _ = c.toList.take (q.off + o) ++ [v] ++ c.toList.drop (q.off + o + 1)
    rw [List.set_eq_take_append_cons_drop, if_pos (by simpa using hi)]
    simp
  rw [e1] at hr
  exact ⟨_, hr, hrel⟩
theorem store_row (a b : Value) : Extern.Atomic.storeT #[a, b] = (do store (← asAddr a) b .atomic; pure Extern.Atomic.none_) := rfl
theorem clone_row (t : TypeId) (r : Nat) : Extern.MapsClone.clone #[.iface t (.map (some r))] = (do
    let .map entries clock ← getObj r | stuck "maps.clone: a map expected"
    pure (.iface t (.map (some (← newObj (.map entries clock)))))) := rfl
theorem add_row (a y : Value) : Extern.Atomic.update (Op.intArith .add) .i64 true #[a, y] = (do
    let a ← asAddr a
    let old ← Extern.Atomic.read (.int .i64) a
    let new ← Op.intArith .add .i64 (← asInt old) (← asInt y)
    store a new .atomic
    pure (if true then new else old)) := rfl
structure Knows (P : Program) : Prop where
  load : ∀ (f : FuncId) (fn : Func), P.funcs[f]? = some fn → fn.body = none → fn.name = "sync/atomic.LoadInt64" → Extern.findNext fn = none ∧ Extern.find fn = some (Extern.Atomic.loadT (.int .i64))
  store : ∀ (f : FuncId) (fn : Func), P.funcs[f]? = some fn → fn.body = none → fn.name = "sync/atomic.StoreInt64" → Extern.findNext fn = none ∧ Extern.find fn = some Extern.Atomic.storeT
  add : ∀ (f : FuncId) (fn : Func), P.funcs[f]? = some fn → fn.body = none → fn.name = "sync/atomic.AddInt64" → Extern.findNext fn = none ∧ Extern.find fn = some (Extern.Atomic.update (Op.intArith .add) .i64 true)
  clone : ∀ (f : FuncId) (fn : Func), P.funcs[f]? = some fn → fn.body = none → fn.name = "maps.clone" → Extern.findNext fn = none ∧ Extern.find fn = some Extern.MapsClone.clone
theorem run_extern {f : FuncId} {fn : Func} {cargs : Array Value} {ex : Array Value → Sem Value} {cv : Value} {W' : World} (hf : P.funcs[f]? = some fn) (hb : fn.body = none) (hn : fn.name ≠ "runtime.NumGoroutine")
    (h : Extern.findNext fn = none ∧ Extern.find fn = some ex) (hr : (ex cargs).run P W = .ok cv W') : (callFunc f cargs).run P W = .ok (.value cv) W' := by
  unfold callFunc
  have hp : (program).run P W = .ok P W := rfl
  rw [run_ok hp, hf]
  have h1 : (fn.name == "runtime.NumGoroutine") = false := by simpa using hn
  simp only [h1, hb, Option.isNone_none, Bool.false_eq_true, if_false, if_true, h.1, h.2]
  have hm : (mark (.extern f)).run P W = .ok () W := rfl
  rw [run_ok hm]
  exact run_v hr
theorem ext_sound (hkn : Knows P) {f : FuncId} {fn : Func} {args : List AV} {v : AV} {w' : AW} (hf : P.funcs[f]? = some fn) (hb : fn.body = none) (he : externA w fn.name args = some (v, w')) (h : Rel W0 N0 m w W)
    {cargs : Array Value} (ha : VRs m args cargs.toList) : ∃ cv W' m', (callFunc f cargs).run P W = .ok (.value cv) W' ∧ VR m' v cv ∧ Rel W0 N0 m' w' W' ∧ Ext m m' w w' := by
  have arr : ∀ {l : List Value}, cargs.toList = l → cargs = l.toArray := fun e => by rw [← e]
  unfold externA at he
  split at he
  · rename_i hn
    split at he
    · rename_i b o
      simp only [Option.bind_eq_some_iff] at he
      obtain ⟨cs, hcs, he⟩ := he
      split at he
      · rename_i n
        cases he
        simp only [VRs, VR] at ha
        obtain ⟨cp, _, hca, ⟨q, hq, rfl⟩, rfl⟩ := ha
        rw [arr hca]
        obtain ⟨c, e, fr, cv, hW, hc, hcv⟩ := read_one h hcs hq
        simp only [VR] at hcv
        subst hcv
        refine ⟨.int .i64 n, W, m, run_extern hf hb (by rw [hn]; decide) (hkn.load f fn hf hb hn) ?_, by simp [VR], h, Ext.refl _ _⟩
        have e1 : (asAddr (.pointer (some ⟨q.blk, q.off + o, none⟩))).run P W = .ok ⟨q.blk, q.off + o, none⟩ W := rfl
        show (do Extern.Atomic.read (.int .i64) (← asAddr (.pointer (some ⟨q.blk, q.off + o, none⟩)))).run P W = _
        rw [run_ok e1]
        unfold Extern.Atomic.read
        rw [run_ok (run_loadAt hW hc _)]
        rfl
      · simp at he
    · simp at he
  · split at he
    · rename_i hn
      split at he
      · rename_i b o n
        simp only [Option.map_eq_some_iff] at he
        obtain ⟨w1, hw1, he⟩ := he
        cases he
        simp only [VRs, VR] at ha
        obtain ⟨cp, _, hca, ⟨q, hq, rfl⟩, cn, _, rfl, rfl, rfl⟩ := ha
        rw [arr hca]
        obtain ⟨W', hr, hrel⟩ := write_one (P := P) h hw1 hq (v := .int .i64 n) (by simp [VR]) rfl .atomic
        refine ⟨.tuple #[], W', m, run_extern hf hb (by rw [hn]; decide) (hkn.store f fn hf hb hn) ?_, VR.undef, hrel, Ext.put h hw1 hq⟩
        have e1 : (asAddr (.pointer (some ⟨q.blk, q.off + o, none⟩))).run P W = .ok ⟨q.blk, q.off + o, none⟩ W := rfl
        rw [store_row, run_ok e1, run_ok hr]
        rfl
      · simp at he
    · split at he
      · rename_i hn
        split at he
        · rename_i b o d
          simp only [Option.bind_eq_some_iff] at he
          obtain ⟨cs, hcs, he⟩ := he
          split at he
          · rename_i n
            simp only [Option.map_eq_some_iff] at he
            obtain ⟨w1, hw1, he⟩ := he
            cases he
            simp only [VRs, VR] at ha
            obtain ⟨cp, _, hca, ⟨q, hq, rfl⟩, cn, _, rfl, rfl, rfl⟩ := ha
            rw [arr hca]
            obtain ⟨c, e, fr, cv, hW, hc, hcv⟩ := read_one h hcs hq
            simp only [VR] at hcv
            subst hcv
            obtain ⟨W', hr, hrel⟩ := write_one (P := P) h hw1 hq (v := .int .i64 (IntKind.i64.wrap (n + d))) (by simp [VR]) rfl .atomic
            refine ⟨.int .i64 (IntKind.i64.wrap (n + d)), W', m, run_extern hf hb (by rw [hn]; decide) (hkn.add f fn hf hb hn) ?_, by simp [VR], hrel, Ext.put h hw1 hq⟩
            have e1 : (asAddr (.pointer (some ⟨q.blk, q.off + o, none⟩))).run P W = .ok ⟨q.blk, q.off + o, none⟩ W := rfl
            have e2 : (Extern.Atomic.read (.int .i64) ⟨q.blk, q.off + o, none⟩).run P W = .ok (.int .i64 n) W := by
              unfold Extern.Atomic.read
              rw [run_ok (run_loadAt hW hc _)]
              rfl
            rw [add_row, run_ok e1, run_ok e2]
            have e3 : (asInt (.int .i64 n)).run P W = .ok n W := rfl
            have e4 : (asInt (.int .i64 d)).run P W = .ok d W := rfl
            rw [run_ok e3, run_ok e4]
            have e5 : (Op.intArith .add .i64 n d).run P W = .ok (.int .i64 (IntKind.i64.wrap (n + d))) W := rfl
            rw [run_ok e5, run_ok hr]
            rfl
          · simp at he
        · simp at he
      · split at he
        · rename_i hn
          split at he
          · rename_i t r
            simp only [Option.map_eq_some_iff] at he
            obtain ⟨x, hx, he⟩ := he
            cases he
            simp only [VRs, VR] at ha
            obtain ⟨cp, _, hca, ⟨x', rfl, q, hq, rfl⟩, rfl⟩ := ha
            rw [arr hca]
            obtain ⟨hN, ces, cl, hW, hM, hB⟩ := h.map hq hx
            obtain ⟨hle, hrel⟩ := h.push (.map x.1 0) (.map ces cl) 0 (fun _ => ⟨h.old.1, ces, cl, pushW_new, hM.mono (m.le_ext _ (by
              cases hm : m w.size with
              | none => rfl
              | some p => exact absurd (h.dom _ _ hm) (Nat.lt_irrefl _))), hB⟩) (by simp)
            refine ⟨.iface t (.map (some W.heap.size)), pushW W (.map ces cl), _, run_extern hf hb (by rw [hn]; decide) (hkn.clone f fn hf hb hn) ?_, ?_, hrel, Ext.push h _ _⟩
            · rw [clone_row, run_ok (run_getObj hW (by simp))]
              rfl
            · simp only [VR]
              exact ⟨_, rfl, ⟨W.heap.size, 0, 0⟩, by simp [Emb.ext], rfl⟩
          · simp at he
        · simp at he
end
end Go.Sx
/-! Laws by the evaluator in continuations. -/
namespace Go.Sx
open Go.ChangeShapes Go.WideShapes
def ourExtern (n : String) : Bool := n == "sync/atomic.LoadInt64" || n == "sync/atomic.StoreInt64" || n == "sync/atomic.AddInt64" || n == "maps.clone"
theorem find_load {fn : Func} (hn : fn.name = "sync/atomic.LoadInt64") : Extern.find fn = some (Extern.Atomic.loadT (.int .i64)) := by
  unfold Extern.find; rw [hn]; rfl
theorem find_store {fn : Func} (hn : fn.name = "sync/atomic.StoreInt64") : Extern.find fn = some Extern.Atomic.storeT := by
  unfold Extern.find; rw [hn]; rfl
theorem find_add {fn : Func} (hn : fn.name = "sync/atomic.AddInt64") : Extern.find fn = some (Extern.Atomic.update (Op.intArith .add) .i64 true) := by
  unfold Extern.find; rw [hn]; rfl
theorem find_clone {fn : Func} (hn : fn.name = "maps.clone") : Extern.find fn = some Extern.MapsClone.clone := by
  unfold Extern.find; rw [hn]; rfl
theorem next_none {fn : Func} (hn : ourExtern fn.name = true) (ho : (Extern.allNextRows.lookup fn.origin).isNone = true) : Extern.findNext fn = none := by
  have h1 : Extern.allNextRows.lookup fn.name = none := by
    simp only [ourExtern, Bool.or_eq_true, beq_iff_eq] at hn
    rcases hn with ((h | h) | h) | h <;> (rw [h]; rfl)
  have h2 : Extern.allNextRows.lookup fn.origin = none := by simpa using ho
  unfold Extern.findNext
  simp only [h1, h2]
  rfl
def plainExterns (P : Program) : Bool := P.funcs.toList.all fun fn => fn.body.isSome || !ourExtern fn.name || (Extern.allNextRows.lookup fn.origin).isNone
def noNumGo (P : Program) : Bool := P.funcs.toList.all fun fn => !(fn.name == "runtime.NumGoroutine")
theorem knows_of {P : Program} (h : plainExterns P = true) : Knows P := by
  have key : ∀ (f : FuncId) (fn : Func), P.funcs[f]? = some fn → fn.body = none → ourExtern fn.name = true → Extern.findNext fn = none := fun f fn hf hb hn => by
    have hm : fn ∈ P.funcs.toList := by
      rw [← Array.getElem?_toList] at hf
      exact List.mem_of_getElem? hf
    have := List.all_eq_true.1 h fn hm
    rw [hb, hn] at this
    exact next_none hn (by simpa using this)
  refine ⟨fun f fn hf hb hn => ⟨key f fn hf hb (by rw [hn]; rfl), find_load hn⟩, fun f fn hf hb hn => ⟨key f fn hf hb (by rw [hn]; rfl), find_store hn⟩,
    fun f fn hf hb hn => ⟨key f fn hf hb (by rw [hn]; rfl), find_add hn⟩, fun f fn hf hb hn => ⟨key f fn hf hb (by rw [hn]; rfl), find_clone hn⟩⟩
def noHook : Hook := fun _ _ _ => none
theorem host_plain {P : Program} {W0 : World} {N0 : Nat} (hm : P.follows .mixedOrders = true) (hn : noNumGo P = true) (hx : plainExterns P = true) : Host P noHook W0 N0 := by
  refine ⟨hm, fun f fn hf _ => ?_, fun f fn args w v w' hf hb he m W cargs h ha => ext_sound (knows_of hx) hf hb he h ha, fun f args w v w' h => by simp [noHook] at h⟩
  have hmem : fn ∈ P.funcs.toList := by
    rw [← Array.getElem?_toList] at hf
    exact List.mem_of_getElem? hf
  simpa using List.all_eq_true.1 hn fn hmem
noncomputable def saysTrue (r : FRes) : Bool := asVal r fun v _ => asBoolK v fun b => b
theorem saysTrue_eq {r : FRes} (h : saysTrue r = true) : ∃ w, r = .val (.bool true) w := by
  obtain ⟨v, w, rfl, h⟩ := asVal_true h
  cases v <;> try (cases h; done)
  rename_i b _
  cases b
  · cases h
  · exact ⟨w, rfl⟩
section
variable {P : Program} {W0 : World} {N0 : Nat} {m : Emb} {w : AW} {W : World}
theorem walkK {hk : Hook} (hh : Host P hk W0 N0) {n : Nat} {f : FuncId} {args : List AV} (hnk : hk f args w = none) (hev : kN P hk n (.call f args w) saysTrue = true) {fn : Func} {c : Code} (hf : P.funcs[f]? = some fn) (hb : fn.body = some c)
    (h : Rel W0 N0 m w W) {cargs : Array Value} (ha : VRs m args cargs.toList) :
    Calls P f cargs W fun e W' => e = .returned (.bool true) ∧ ∃ w' m', Rel W0 N0 m' w' W' := by
  have hwp := kN_ok n _ _ hev (valK fun v _ => v = .bool true) fun r hr => by
    obtain ⟨w', rfl⟩ := saysTrue_eq hr
    exact rfl
  refine (calls_soundL hh hnk hwp hf hb h ha).mono ?_
  rintro e W' ⟨v, w', m', cv, rfl, rfl, hv, hrel, _⟩
  simp only [VR] at hv
  subst hv
  exact ⟨rfl, w', m', hrel⟩
theorem closedK (hm : P.follows .mixedOrders = true) (hn : noNumGo P = true) (hx : plainExterns P = true) {n : Nat} {f : FuncId}
    (hev : kN P noHook n (.call f [] ⟨1, .nil⟩) saysTrue = true) {fn : Func} {c : Code} (hf : P.funcs[f]? = some fn) (hb : fn.body = some c) (W : World) :
    Calls P f #[] W fun e W' => e = .returned (.bool true) ∧ W.keptBut W' (fun _ => False) ∧ ∀ a : Addr, a.block < W.heap.size → W'.frozen? a = W.frozen? a := by
  refine (walkK (host_plain hm hn hx) rfl hev hf hb (Rel.start W) (cargs := #[]) rfl).mono ?_
  rintro e W' ⟨he, w', m', hrel⟩
  exact ⟨he, hrel.kept _, hrel.frozen⟩
end
end Go.Sx
/-! A law's arguments: numbers, strings, and slices that nobody looks into. -/
namespace Go.Sx
open Go.ChangeShapes Go.WideShapes Go.ChangeAt Go.RowKit
def argW : Nat → AW
  | 0 => (AW.mk 1 .nil).set 0 (.cells [] 0 0 false)
  | k + 1 => (argW k).push (.cells [] 0 0 false)
theorem argW_size : ∀ k, (argW k).size = k + 1
  | 0 => rfl
  | k + 1 => by simp only [argW, AW.push_size, argW_size k]
theorem argW_get : ∀ k b, (argW k).get b = if b ≤ k then some (.cells [] 0 0 false) else none
  | 0, b => by
    simp only [argW, AW.set_get, AW.nil_get]
    by_cases h : b = 0 <;> simp [h]
  | k + 1, b => by
    simp only [argW, AW.push_get, argW_size k, argW_get k b]
    by_cases h : b = k + 1
    · simp [h]
    · by_cases h2 : b ≤ k
      · rw [if_neg h, if_pos h2, if_pos (by omega)]
      · rw [if_neg h, if_neg h2, if_neg (by omega)]
theorem argW_fam {k b : Nat} {x : Nat × Nat × Bool} (h : (argW k).fam? b = some x) : b ≤ k ∧ x = (0, 0, false) := by
  unfold AW.fam? at h
  rw [argW_get] at h
  by_cases hb : b ≤ k
  · rw [if_pos hb] at h
    simp only [AW.root?, argW_get, Nat.zero_le, if_true, Option.some.injEq] at h
    exact ⟨hb, h.symm⟩
  · rw [if_neg hb] at h; simp at h
theorem argW_fam' {k b : Nat} (hb : b ≤ k) : (argW k).fam? b = some (0, 0, false) := by
  unfold AW.fam?
  rw [argW_get, if_pos hb]
  simp only [AW.root?, argW_get, Nat.zero_le, if_true]
theorem argW_cells {k b : Nat} {cs : List AV} (h : (argW k).cells? b = some cs) : cs = [] := by
  unfold AW.cells? at h
  split at h
  · split at h
    · rw [argW_get] at h
      split at h
      · simp [oCells] at h; exact h
      · simp at h
    · simp at h
  · simp at h
def NoCells (W : World) : Prop := ∀ (b : Nat) (c : Array Value) (e : TypeId) (fr : Nat × Nat), W.heap[b]? ≠ some (.cells c e fr)
structure ArgM (W : World) (k : Nat) (m : Emb) : Prop where
  le : ∀ b p, m b = some p → b ≤ k
  room : ∀ b p, m b = some p → p.room = 0
  cells : ∀ b p, m b = some p → ∃ c e fr, W.heap[p.blk]? = some (.cells c e fr) ∧ p.off ≤ c.size
  root : ∀ b p, m b = some p → ∃ q, m 0 = some q
  last : ∀ q, m 0 = some q → ∀ c e fr, W.heap[q.blk]? = some (.cells c e fr) → q.off = c.size
theorem Rel.args {W : World} {k : Nat} {m : Emb} (h : ArgM W k m) : Rel W W.heap.size m (argW k) W := by
  refine ⟨⟨rfl, rfl⟩, by rw [argW_size]; omega, fun b p hb => by rw [argW_size]; have := h.le b p hb; omega, ⟨Nat.le_refl _, fun _ _ => rfl⟩, fun b p hb => ?_, fun b b' p p' hb hb' _ _ => ?_, fun b b' p p' x cs cs' hb hb' hblk hf hf' ho hc hc' => ?_, fun b x hf hx => ?_, fun b hb => ?_, fun b cs f own d hg => ?_, fun b p cs own d _ h0 hg => ?_⟩
  · refine ⟨_, by rw [argW_get, if_pos (h.le b p hb)], ?_⟩
    obtain ⟨c, e, fr, h1, h2⟩ := h.cells b p hb
    refine ⟨c, e, fr, (0, 0, false), h1, by rw [h.room b p hb]; exact h2, argW_fam' (h.le b p hb), h.root b p hb, fun hx => absurd rfl hx, fun cs hcs => ?_⟩
    have := argW_cells hcs
    subst this
    exact ⟨Nat.zero_le _, by simp, by simp [VRs]⟩
  · exact ⟨_, argW_fam' (h.le b p hb), argW_fam' (h.le b' p' hb')⟩
  · have := argW_cells hc'
    subst this
    obtain ⟨_, rfl⟩ := argW_fam hf
    simp only [] at ho
    subst ho
    obtain ⟨c, e, fr, h1, h2⟩ := h.cells b' p' hb'
    have h3 := h.last p hb c e fr (by rw [hblk]; exact h1)
    simp; omega
  · obtain ⟨_, rfl⟩ := argW_fam hf
    exact absurd rfl hx
  · rw [argW_size] at hb
    rw [argW_get, if_neg (by omega)]
  · rw [argW_get] at hg
    split at hg
    · simp at hg; rw [argW_size]; omega
    · simp at hg
  · rw [argW_get] at hg
    split at hg
    · simp at hg; exact absurd hg.2.1.symm h0
    · simp at hg
inductive Shape (P : Program) (i : Nat) (t : TypeId) : AV → Prop where
  | int (k : IntKind) (n : Int) : P.underlying t = some (.int k) → Shape P i t (.int k n)
  | bool (b : Bool) : P.underlying t = some .bool → Shape P i t (.bool b)
  | str (s : List UInt8) : P.underlying t = some .string → Shape P i t (.str s)
  | nils (e : TypeId) : P.underlying t = some (.slice e) → Shape P i t .nilslice
  | slice (e : TypeId) (len cap : Nat) : P.underlying t = some (.slice e) → Shape P i t (.slice i 0 len cap none)
def ShapeAll (P : Program) : Nat → List TypeId → List AV → Prop
  | _, [], avs => avs = []
  | i, t :: ts, avs => ∃ a as, avs = a :: as ∧ Shape P i t a ∧ ShapeAll P (i + 1) ts as
def flatT (P : Program) (t : TypeId) : Bool :=
  match P.underlying t with
  | some (.int _) => true
  | some .bool => true
  | some .string => true
  | some (.slice e) => Nat.blt 0 (P.cellsOf e)
  | _ => false
section
variable {H : Type} {enc : TypeId × Value → H} {P : Program} {W : World}
theorem slice_cell {base : Nat} {e : TypeId} {a : Addr} {cs : List Value} {n : Nat} (hn : 0 < n) (h : W.cells? base a n = some cs) :
    ∃ c t fr, W.heap[a.block]? = some (.cells c t fr) ∧ a.spot = none ∧ a.off < c.size := by
  unfold World.cells? at h
  split at h
  · cases n with
    | zero => omega
    | succ n =>
      rw [List.range_succ_eq_map, List.mapM_cons] at h
      cases hc : W.cell? (a.add 0) with
      | none => rw [hc] at h; simp at h
      | some v =>
        have e1 : a.add 0 = a := by simp [Addr.add]
        rw [e1] at hc
        unfold World.cell? at hc
        split at hc
        · rename_i c t fr hb
          split at hc
          · cases hc
          · rename_i hs
            exact ⟨c, t, fr, hb, by simpa using hs, (Array.getElem?_eq_some_iff.1 hc).1⟩
        · cases hc
  · cases h
theorem ok_slice {base : Nat} {t e : TypeId} {r : Reach} {a : Addr} {len cap : Nat} (ht : P.underlying t = some (.slice e)) (h : Value.okWide P W r base t (.slice (some a) len cap)) :
    ∃ c u fr, W.heap[a.block]? = some (.cells c u fr) := by
  unfold Value.okWide at h
  rw [ht] at h
  simp only [Cell.okWide, Cell.ok, ht] at h
  obtain ⟨_, _, _, _, row, cells, hs, _⟩ := h
  unfold World.shape? at hs
  split at hs
  · rename_i c u fr hb; exact ⟨c, u, fr, hb⟩
  · cases hs
theorem open_arg {base k : Nat} {r : Reach} {m : Emb} (hm : ArgM W k m) (hroot : (∃ q, m 0 = some q) ∨ NoCells W) {t : TypeId} {v : Value} {d : DataW H} {ps : List MemPlace} {sp : Nat → Bool} (hsp : ∀ b, sp b = true)
    (ht : flatT P t = true) (hv : Value.okWide P W r base t v) (hd : DataW.Trod enc P W 0 sp true t v d ps) :
    ∃ (m' : Emb) (av : AV), ArgM W (k + 1) m' ∧ m.le m' ∧ (m 0 = m' 0) ∧ VR m' av v ∧ Shape P (k + 1) t av := by
  have keep : ArgM W (k + 1) m := ⟨fun b p hb => by have := hm.le b p hb; omega, hm.room, hm.cells, hm.root, hm.last⟩
  have m0 : ∀ (p : Pl), m 0 = (m.ext (k + 1) p) 0 := fun p => by simp [Emb.ext]
  obtain ⟨n, hd⟩ := hd
  unfold flatT at ht
  split at ht
  · rename_i kd hu
    obtain ⟨x, hcs, _, _⟩ := DataW.trod_int hu hd
    have : v = .int kd x := by
      cases v <;> simp [Value.cells] at hcs
      · simp [hcs]
      · unfold Value.okWide at hv; rw [hu] at hv; simp [Cell.okWide, hu, Cell.ok] at hv
    subst this
    exact ⟨m, .int kd x, keep, Emb.le_refl _, rfl, by simp [VR], .int kd x hu⟩
  · rename_i hu
    obtain ⟨x, hcs, _⟩ := DataW.trod_bool hu hd
    have : v = .bool x := by
      cases v <;> simp [Value.cells] at hcs
      · simp [hcs]
      · unfold Value.okWide at hv; rw [hu] at hv; simp [Cell.okWide, hu, Cell.ok] at hv
    subst this
    exact ⟨m, .bool x, keep, Emb.le_refl _, rfl, by simp [VR], .bool x hu⟩
  · rename_i hu
    obtain ⟨x, hcs, _, _⟩ := DataW.trod_string hu hd
    have : v = .string x := by
      cases v <;> simp [Value.cells] at hcs
      · simp [hcs]
      · unfold Value.okWide at hv; rw [hu] at hv; simp [Cell.okWide, hu, Cell.ok] at hv
    subst this
    exact ⟨m, .str x.data.toList, keep, Emb.le_refl _, rfl, by simp only [VR]; exact ⟨x, rfl, rfl⟩, .str _ hu⟩
  · rename_i e hu
    have hpos : 0 < P.cellsOf e := by rw [Nat.blt_eq] at ht; exact ht
    rcases DataW.trod_slice hu hd with ⟨hcs, _⟩ | ⟨a, len, cap, elems, rest, n', _, hcs, _, _, hle, _, hlen, hel, hre, _⟩
    · have : v = .slice none 0 0 := by
        cases v <;> simp [Value.cells] at hcs
        · obtain ⟨h1, h2, h3⟩ := hcs; subst h1 h2 h3; rfl
        · unfold Value.okWide at hv; rw [hu] at hv; simp [Cell.okWide, hu, Cell.ok] at hv
      subst this
      exact ⟨m, .nilslice, keep, Emb.le_refl _, rfl, by simp [VR], .nils e hu⟩
    · have : v = .slice (some a) len cap := by
        cases v <;> simp [Value.cells] at hcs
        · obtain ⟨h1, h2, h3⟩ := hcs; subst h1 h2 h3; rfl
        · unfold Value.okWide at hv; rw [hu] at hv; simp [Cell.okWide, hu, Cell.ok] at hv
      subst this
      obtain ⟨c, u, fr, hblk⟩ := ok_slice hu hv
      have hno : m (k + 1) = none := by
        cases hk : m (k + 1) with
        | none => rfl
        | some p => have := hm.le _ _ hk; omega
      obtain ⟨q, hq⟩ : ∃ q, m 0 = some q := by
        rcases hroot with h | h
        · exact h
        · exact absurd hblk (h _ _ _ _)
      -- the place
      have place : ∃ p : Pl, p.room = 0 ∧ (∃ c e fr, W.heap[p.blk]? = some (.cells c e fr) ∧ p.off ≤ c.size) ∧ (cap ≠ 0 → a = ⟨p.blk, p.off + 0, none⟩) := by
        by_cases hc : cap = 0
        · obtain ⟨c', e', fr', h1, h2⟩ := hm.cells _ _ hq
          exact ⟨q, hm.room _ _ hq, ⟨c', e', fr', h1, h2⟩, fun h => absurd hc h⟩
        · have : ∃ cs, W.cells? 0 (a.add 0) (P.cellsOf e) = some cs := by
            by_cases hl : 0 < len
            · have h1 := hel 0 hl
              have h2 : elems[0]? = some elems[0] := by simp
              rw [h2, Option.bind_eq_some_iff] at h1
              obtain ⟨cs, h3, _⟩ := h1
              exact ⟨cs, by simpa using h3⟩
            · have hl0 : len = 0 := by omega
              obtain ⟨hr1, hr2⟩ := hre (hsp _)
              have h1 := hr2 0 (by omega)
              have hr0 : 0 < rest.length := by omega
              have h2 : rest[0]? = some rest[0] := by simp
              rw [h2, Option.bind_eq_some_iff] at h1
              obtain ⟨cs, h3, _⟩ := h1
              exact ⟨cs, by simpa [hl0] using h3⟩
          obtain ⟨cs, h3⟩ := this
          have e1 : a.add 0 = a := by simp [Addr.add]
          rw [e1] at h3
          obtain ⟨c', t', fr', h4, h5, h6⟩ := slice_cell (e := e) hpos h3
          refine ⟨⟨a.block, a.off, 0⟩, rfl, ⟨c', t', fr', h4, Nat.le_of_lt h6⟩, fun _ => ?_⟩
          cases a
          simp only [] at h5
          simp [h5]
      obtain ⟨p, hp1, hp2, hp3⟩ := place
      refine ⟨m.ext (k + 1) p, .slice (k + 1) 0 len cap none, ⟨fun b p' hb => ?_, fun b p' hb => ?_, fun b p' hb => ?_, fun b p' _ => ⟨q, by rw [← m0]; exact hq⟩, fun q' hq' => ?_⟩, m.le_ext p hno, m0 p, ?_, .slice e len cap hu⟩
      · unfold Emb.ext at hb
        split at hb
        · rename_i hbk; omega
        · have := hm.le _ _ hb; omega
      · unfold Emb.ext at hb
        split at hb
        · cases hb; exact hp1
        · exact hm.room _ _ hb
      · unfold Emb.ext at hb
        split at hb
        · cases hb; exact hp2
        · exact hm.cells _ _ hb
      · rw [← m0] at hq'
        exact hm.last q' hq'
      · simp only [VR]
        exact ⟨p, a, cap, by simp [Emb.ext], rfl, hle, rfl, hp3⟩
  · cases ht
theorem open_args {base : Nat} {r : Reach} : ∀ {ts : List TypeId} {vs : List Value} {ds : List (DataW H)} {ps : List MemPlace} {k : Nat} {m : Emb}, ArgM W k m → ((∃ q, m 0 = some q) ∨ NoCells W) →
    (∀ t ∈ ts, flatT P t = true) → (∀ (j : Nat) t v, ts[j]? = some t → vs[j]? = some v → Value.okWide P W r base t v) → DataW.TrodAll enc P W 0 (fun _ => true) true ts vs ds ps →
    ∃ (m' : Emb) (avs : List AV), ArgM W (k + ts.length) m' ∧ m.le m' ∧ VRs m' avs vs ∧ ShapeAll P (k + 1) ts avs
  | [], vs, ds, ps, k, m, hm, hr, hf, hv, h => by
    obtain ⟨rfl, _, _⟩ := trodAll_nil h
    exact ⟨m, [], hm, Emb.le_refl _, by simp [VRs], rfl⟩
  | t :: ts, vs, ds, ps, k, m, hm, hr, hf, hv, h => by
    cases vs with
    | nil => simp [DataW.TrodAll] at h
    | cons v vs =>
      cases ds with
      | nil => simp [DataW.TrodAll] at h
      | cons d ds =>
        obtain ⟨p, q, h1, h2, _⟩ := h
        obtain ⟨m1, av, a1, a2, a3, a4, a5⟩ := open_arg hm hr (sp := fun _ => true) (fun _ => rfl) (hf t List.mem_cons_self) (hv 0 t v rfl rfl) h1
        obtain ⟨m2, avs, b1, b2, b3, b4⟩ := open_args a1 (by rw [← a3]; exact hr) (fun t' ht' => hf t' (List.mem_cons_of_mem _ ht')) (fun j t' v' h3 h4 => hv (j + 1) t' v' h3 h4) h2
        refine ⟨m2, av :: avs, by rw [List.length_cons, show k + (ts.length + 1) = k + 1 + ts.length from by omega]; exact b1, Emb.le_trans a2 b2, VRs.cons (a4.mono b2) b3, ⟨av, avs, rfl, a5, b4⟩⟩
theorem start_args : ∃ m : Emb, ArgM W 0 m ∧ ((∃ q, m 0 = some q) ∨ NoCells W) := by
  by_cases h : ∃ (b : Nat) (c : Array Value) (e : TypeId) (fr : Nat × Nat), W.heap[b]? = some (.cells c e fr)
  · obtain ⟨b, c, e, fr, hb⟩ := h
    have key : ∀ (x : Nat) (p : Pl), (fun x => if x = 0 then some (⟨b, c.size, 0⟩ : Pl) else none) x = some p → x = 0 ∧ p = ⟨b, c.size, 0⟩ := fun x p hx => by
      simp only [] at hx
      split at hx
      · cases hx; rename_i h0; exact ⟨h0, rfl⟩
      · cases hx
    refine ⟨fun x => if x = 0 then some ⟨b, c.size, 0⟩ else none, ⟨fun x p hx => Nat.le_of_eq (key x p hx).1, fun x p hx => by rw [(key x p hx).2], fun x p hx => by rw [(key x p hx).2]; exact ⟨c, e, fr, hb, Nat.le_refl _⟩, fun x p hx => ⟨⟨b, c.size, 0⟩, rfl⟩, fun q hq c' e' fr' hc' => ?_⟩, .inl ⟨_, rfl⟩⟩
    have := (key 0 q hq).2
    subst this
    simp only [] at hc'
    rw [hb] at hc'
    cases hc'
    rfl
  · refine ⟨fun _ => none, ⟨by simp, by simp, by simp, by simp, by simp⟩, .inr fun b c e fr hb => h ⟨b, c, e, fr, hb⟩⟩
/-! ### Reading the arguments behind the call -/
theorem same_old {W' : World} (h : ∀ c, c < W.heap.size → W'.heap[c]? = W.heap[c]?) {p : MemPlace} (hp : p.block < W.heap.size) : W.sameAt W' p := by
  cases p with
  | cell b off =>
    simp only [World.sameAt, World.cell?]
    rw [h b hp]
  | map b => exact h b hp
theorem trod_flat {W' : World} (hold : ∀ c, c < W.heap.size → W'.heap[c]? = W.heap[c]?) {t : TypeId} {v : Value} {d : DataW H} {ps : List MemPlace} (hd : DataW.Trod enc P W 0 (fun _ => true) true t v d ps) : DataW.Trod enc P W' 0 (fun _ => true) true t v d ps := by
  obtain ⟨n, hn⟩ := hd
  exact ⟨n, DataW.trod_carry n _ _ _ hn fun p hp => same_old hold (DataW.trod_lt n _ _ _ hn p hp)⟩
theorem trodAll_len {w : World} {sp : Nat → Bool} : ∀ {ts : List TypeId} {vs : List Value} {ds : List (DataW H)} {ps : List MemPlace}, DataW.TrodAll enc P w 0 sp true ts vs ds ps → ds.length = ts.length
  | [], [], [], _, _ => rfl
  | _ :: _, _ :: _, _ :: _, _, ⟨_, _, _, h, _⟩ => by rw [List.length_cons, List.length_cons, trodAll_len h]
def plainT (P : Program) : Nat → TypeId → Bool
  | 0, _ => false
  | d + 1, t => match P.underlying t with
    | some (.int _) => true
    | some .bool => true
    | some .string => true
    | some (.slice e) => Nat.blt 0 (P.cellsOf e) && plainT P d e
    | some (.struct fs) => fs.toList.all fun f => plainT P d f.type
    | _ => false
theorem mapM_comp {α β γ : Type} (g : α → β) (f : β → Option γ) : ∀ l : List α, (l.map g).mapM f = l.mapM (f ∘ g)
  | [] => rfl
  | a :: l => by rw [List.map_cons, List.mapM_cons, List.mapM_cons, mapM_comp g f l]; rfl
theorem mapM_range {β : Type} : ∀ (l : List β) (f : Nat → Option β), (∀ i, i < l.length → f i = l[i]?) → (List.range l.length).mapM f = some l
  | [], f, _ => rfl
  | b :: l, f, h => by
    rw [List.length_cons, List.range_succ_eq_map, List.mapM_cons, h 0 (by simp), mapM_comp, mapM_range l (f ∘ Nat.succ) (fun i hi => by have := h (i + 1) (by simpa using hi); simpa using this)]
    rfl
theorem mapM_turn {α β : Type} {f g : α → Option β} : ∀ {l : List α} {r : List β}, l.mapM f = some r → (∀ x y, x ∈ l → y ∈ r → f x = some y → g x = some y) → l.mapM g = some r
  | [], r, h, _ => h
  | x :: xs, r, h, hg => by
    rw [List.mapM_cons] at h ⊢
    cases hx : f x with
    | none => rw [hx] at h; simp at h
    | some y =>
      cases hxs : xs.mapM f with
      | none => rw [hx, hxs] at h; simp at h
      | some ys =>
        rw [hx, hxs] at h
        simp only [Option.bind_eq_bind, Option.bind_some, pure, Option.some.injEq] at h
        subst h
        rw [hg x y List.mem_cons_self List.mem_cons_self hx, mapM_turn hxs (fun a b ha hb => hg a b (List.mem_cons_of_mem _ ha) (List.mem_cons_of_mem _ hb))]
        rfl
theorem trod_sp {w : World} {sp : Nat → Bool} : ∀ (d : Nat) {t : TypeId} {n : Nat} {cs : List Value} {x : DataW H × List MemPlace}, plainT P d t = true → DataW.trod enc P w 0 (fun _ => true) true n t cs = some x → (∀ p ∈ x.2, sp p.block = true) →
    DataW.trod enc P w 0 sp true n t cs = some x
  | 0, t, n, cs, x, hp, _, _ => by cases hp
  | d + 1, t, n, cs, x, hp, h, hs => by
    cases n with
    | zero => simp [DataW.trod] at h
    | succ n =>
      unfold plainT at hp
      split at hp
      · rename_i k hu
        obtain ⟨y, rfl, rfl, hw⟩ := DataW.trod_int hu h
        unfold DataW.trod; rw [hu]; simp [hw]
      · rename_i hu
        obtain ⟨y, rfl, rfl⟩ := DataW.trod_bool hu h
        unfold DataW.trod; rw [hu]
      · rename_i hu
        obtain ⟨y, rfl, rfl, hw⟩ := DataW.trod_string hu h
        unfold DataW.trod; rw [hu]; simp [hw]
      · rename_i e hu
        simp only [Bool.and_eq_true, Nat.blt_eq] at hp
        obtain ⟨hpos, hpe⟩ := hp
        rcases DataW.trod_slice hu h with ⟨rfl, rfl⟩ | ⟨a, len, cap, elems, rest, n', hn, rfl, rfl, hb, hle, hmax, hlen, hel, hre, _⟩
        · unfold DataW.trod; rw [hu]; rfl
        · cases hn
          obtain ⟨hrl, hre⟩ := hre rfl
          simp only [List.mem_append, List.mem_flatMap] at hs
          have sub : ∀ y, y ∈ elems ++ rest → ∀ p ∈ y.2, sp p.block = true := fun y hy p hp => hs p (.inr ⟨y, by simpa using hy, hp⟩)
          have one : ∀ i y, y ∈ elems ++ rest → (w.cells? 0 (a.add (i * P.cellsOf e)) (P.cellsOf e)).bind (DataW.trod enc P w 0 (fun _ => true) true n e) = some y →
              (w.cells? 0 (a.add (i * P.cellsOf e)) (P.cellsOf e)).bind (DataW.trod enc P w 0 sp true n e) = some y := fun i y hy h => by
            rw [Option.bind_eq_some_iff] at h ⊢
            obtain ⟨cs, h1, h2⟩ := h
            exact ⟨cs, h1, trod_sp d hpe h2 (sub y hy)⟩
          have r1 : (List.range len).mapM (fun i => (w.cells? 0 (a.add (i * P.cellsOf e)) (P.cellsOf e)).bind (DataW.trod enc P w 0 sp true n e)) = some elems := by
            rw [← hlen]
            refine mapM_range _ _ fun i hi => ?_
            rw [List.getElem?_eq_getElem hi]
            exact one i _ (List.mem_append_left _ (List.getElem_mem hi)) (by rw [hel i (by omega), List.getElem?_eq_getElem hi])
          have r2 : (List.range (cap - len)).mapM (fun j => (w.cells? 0 (a.add ((len + j) * P.cellsOf e)) (P.cellsOf e)).bind (DataW.trod enc P w 0 sp true n e)) = some rest := by
            rw [← hrl]
            refine mapM_range _ _ fun i hi => ?_
            rw [List.getElem?_eq_getElem hi]
            exact one (len + i) _ (List.mem_append_right _ (List.getElem_mem hi)) (by rw [hre i (by omega), List.getElem?_eq_getElem hi])
          have r3 : (if sp a.block then (List.range (cap - len)).mapM (fun j => (w.cells? 0 (a.add ((len + j) * P.cellsOf e)) (P.cellsOf e)).bind (DataW.trod enc P w 0 sp true n e)) else some []) = some rest := by
            by_cases hc : cap - len = 0
            · have : rest = [] := List.eq_nil_of_length_eq_zero (by omega)
              subst this
              rw [hc]
              split <;> rfl
            · have hsa : sp a.block = true := by
                have := hs (.cell a.block (a.off + 0)) (.inl (MemPlace.mem_row.2 ⟨0, Nat.mul_pos (by omega) hpos, rfl⟩))
                exact this
              rw [if_pos hsa]
              exact r2
          unfold DataW.trod
          rw [hu]
          simp only []
          rw [if_pos ⟨hb, hle, hmax⟩, r1, Option.bind_some, r3]
          rfl
      · rename_i fs hu
        obtain ⟨xs, h1, h2⟩ : ∃ xs, (cs.length = P.cellsOf t ∧ fs.toList.mapM (fun f => DataW.trod enc P w 0 (fun _ => true) true n f.type ((cs.drop f.offset).take (P.cellsOf f.type))) = some xs) ∧ x = (.agg (xs.map (·.1)), xs.flatMap (·.2)) := by
          unfold DataW.trod at h
          rw [hu] at h
          simp only [] at h
          split at h
          · rename_i hl
            rw [Option.map_eq_some_iff] at h
            obtain ⟨xs, h1, h2⟩ := h
            exact ⟨xs, ⟨hl, h1⟩, h2.symm⟩
          · cases h
        subst h2
        have := mapM_turn (g := fun f : Field => DataW.trod enc P w 0 sp true n f.type ((cs.drop f.offset).take (P.cellsOf f.type))) h1.2 fun f y hf hy he =>
          trod_sp d (List.all_eq_true.1 hp f hf) he fun p hp => hs p (List.mem_flatMap.2 ⟨y, hy, hp⟩)
        unfold DataW.trod
        rw [hu]
        simp only []
        rw [if_pos h1.1, this]
        rfl
      · cases hp
theorem trodAll_behind {W' : World} {sp : Nat → Bool} (d : Nat) (hold : ∀ c, c < W.heap.size → W'.heap[c]? = W.heap[c]?) : ∀ {ts : List TypeId} {vs : List Value} {ds : List (DataW H)} {ps : List MemPlace}, (∀ t ∈ ts, plainT P d t = true) →
    DataW.TrodAll enc P W 0 (fun _ => true) true ts vs ds ps → (∀ p ∈ ps, sp p.block = true) → DataW.TrodAll enc P W' 0 sp true ts vs ds ps
  | [], [], [], ps, _, h, _ => h
  | t :: ts, v :: vs, x :: ds, ps, hp, ⟨p, q, h1, h2, e⟩, hs => by
    subst e
    refine ⟨p, q, ?_, trodAll_behind d hold (fun t ht => hp t (List.mem_cons_of_mem _ ht)) h2 (fun y hy => hs y (List.mem_append_right _ hy)), rfl⟩
    obtain ⟨n, hn⟩ := trod_flat hold h1
    exact ⟨n, trod_sp d (hp t List.mem_cons_self) hn fun y hy => hs y (List.mem_append_left _ hy)⟩
theorem post_law {f : Func} {s : ChangeSpec} {apart fresh handsOn again : Bool} {W' : World} {args : Array Value} {ds : List (DataW H)} {before : List MemPlace} {tb : TypeId} (d : Nat)
    (hts : ∀ t ∈ f.params.toList, plainT P d t = true) (hvars : s.vars = []) (hr : f.resultTypes = #[tb]) (hb : P.underlying tb = some .bool)
    (hfn : s.fn H (ds ++ []) = { results := [.lit (.bool true)], args := ds }) (hv : (s.fn H (ds ++ [])).vars = [])
    (hW : DataW.Whole enc P f.params.toList s.vars apart W args.toList ds [] before)
    (hk : W.keptBut W' (fun _ => False)) (hold : ∀ c, c < W.heap.size → W'.heap[c]? = W.heap[c]?) (hfz : ∀ a : Addr, a.block < W.heap.size → W'.frozen? a = W.frozen? a)
    (hok : ∀ (j : Nat) (t : TypeId) (r : Value), f.resultTypes[j]? = some t → ((Value.bool true).resultList f.resultTypes.size)[j]? = some r → Value.okWide P W' .any 0 t r) :
    s.post enc P f apart fresh handsOn again W args (.bool true) W' := by
  have hW' := hW
  obtain ⟨p, q, hA, hV, rfl, _, _⟩ := hW
  rw [hvars] at hV
  obtain ⟨_, rfl⟩ := trodVars_none hV
  refine post_kept (pa := p) (pv := []) hW' (fun b sp hd => ?_) (fun sp hs => ?_) (fun sp hs => ?_) (by simp) (World.keptBut_mono (fun _ f => f.elim) hk) hfz hok
  · rw [hfn, hr]
    exact trodAll_cons_mk (shut_bool hb _) trodAll_mk0
  · rw [hfn]
    exact trodAll_behind d hold hts hA fun x hx => hs x (by simpa using hx)
  · rw [hv, hvars]
    rfl
end
end Go.Sx
/-! Calls whose doing is known otherwise: slices.Sorted over a map's keys. -/
namespace Go.Sx
section rel
variable {W0 : World} {N0 : Nat} {m : Emb} {w : AW} {W : World}
theorem Rel.fresh (h : Rel W0 N0 m w W) {W' : World} {g : Nat} (o : AO) (room : Nat) (hbel : ∀ c, c < W.heap.size → W'.heap[c]? = W.heap[c]?) (hsz : W.heap.size ≤ W'.heap.size) (henv : Env W W') (hg : W.heap.size ≤ g)
    (ho : OR N0 (m.ext w.size ⟨g, 0, room⟩) (w.push o) w.size ⟨g, 0, room⟩ W' o)
    (hfam : ∀ cs f own d, o = .cells cs f own d → f = w.size) :
    m.le (m.ext w.size ⟨g, 0, room⟩) ∧ Rel W0 N0 (m.ext w.size ⟨g, 0, room⟩) (w.push o) W' := by
  have hno : m w.size = none := by
    cases hm : m w.size with
    | none => rfl
    | some p => exact absurd (h.dom _ _ hm) (Nat.lt_irrefl _)
  have hle := m.le_ext ⟨g, 0, room⟩ hno
  have fold : ∀ b x, w.fam? b = some x → (w.push o).fam? b = some x := fun b x hx => by
    obtain ⟨h1, h2⟩ := h.fam_lt hx
    exact AW.fam?_congr hx (by simp [Nat.ne_of_lt h1]) (by simp [Nat.ne_of_lt h2])
  have cold : ∀ b x, w.fam? b = some x → (w.push o).cells? b = w.cells? b := fun b x hx => by
    obtain ⟨h1, h2⟩ := h.fam_lt hx
    exact AW.cells?_congr hx (by simp [Nat.ne_of_lt h1]) (by simp [Nat.ne_of_lt h2])
  have finv : ∀ b x, b ≠ w.size → (w.push o).fam? b = some x → w.fam? b = some x ∨ x.1 = w.size := fun b x hb hx => by
    obtain ⟨cs, ow, d, hg, hr⟩ := AW.fam?_iff.1 hx
    by_cases hx1 : x.1 = w.size
    · exact .inr hx1
    · left
      simp [hb] at hg
      exact AW.fam?_iff.2 ⟨cs, ow, d, hg, by rw [← AW.root?_congr (w' := w.push o) (by simp [hx1])]; exact hr⟩
  have fnew : ∀ x, (w.push o).fam? w.size = some x → x.1 = w.size := fun x hx => by
    obtain ⟨cs, ow, d, hg, hr⟩ := AW.fam?_iff.1 hx
    simp at hg
    exact (hfam _ _ _ _ hg)
  have foldinv : ∀ b x, b ≠ w.size → (∃ y, w.fam? b = some y) → (w.push o).fam? b = some x → w.fam? b = some x := fun b x hb ⟨y, hy⟩ hx => by
    rw [fold b y hy] at hx; rw [hy]; exact hx
  have old_of : ∀ b p, b ≠ w.size → (m.ext w.size ⟨g, 0, room⟩) b = some p → m b = some p := fun b p hb hp => by simpa [Emb.ext, hb] using hp
  refine ⟨hle, ⟨Env.trans h.env henv, by simp, ?_, ?_, ?_, ?_, ?_, ?_, ?_, ?_, ?_⟩⟩
  · intro b p hb
    by_cases e : b = w.size
    · subst e; simp
    · have := h.dom _ _ (old_of b p e hb); simp; omega
  · exact ⟨Nat.le_trans h.old.1 hsz, fun c hc => by rw [hbel c (by have := h.old.1; omega)]; exact h.old.2 c hc⟩
  · intro b p hb
    by_cases e : b = w.size
    · subst e
      have hp : p = ⟨g, 0, room⟩ := by simpa [Emb.ext] using hb.symm
      subst hp
      exact ⟨o, by simp, ho⟩
    · have hb' := old_of b p e hb
      obtain ⟨ob, hg, hob⟩ := h.obj b p hb'
      refine ⟨ob, by simp [e, hg], ?_⟩
      refine hob.congr hle (hbel _ (h.lt hb')) hsz (fold b) (fun x hx cs hcs => by rw [← cold b x hx]; exact hcs) ?_
      intro d q es v hq hd
      have : d ≠ w.size := fun e => by subst e; rw [h.wf _ (Nat.le_refl _)] at hd; simp at hd
      exact .inl ⟨by simp [this, hd], hbel _ (h.lt hq)⟩
  · intro b b' p p' hb hb' hblk hne
    by_cases e : b = w.size
    · have hp : p = ⟨g, 0, room⟩ := by subst e; simpa [Emb.ext] using hb.symm
      have hb'' := old_of b' p' (fun e' => hne (e.trans e'.symm)) hb'
      have := h.lt hb''
      rw [← hblk, hp] at this
      exact absurd this (Nat.not_lt.2 hg)
    · by_cases e' : b' = w.size
      · have hp : p' = ⟨g, 0, room⟩ := by subst e'; simpa [Emb.ext] using hb'.symm
        have := h.lt (old_of b p e hb)
        rw [hblk, hp] at this
        exact absurd this (Nat.not_lt.2 hg)
      · obtain ⟨x, hx, hx'⟩ := h.sep b b' p p' (old_of b p e hb) (old_of b' p' e' hb') hblk hne
        exact ⟨x, fold b x hx, fold b' x hx'⟩
  · intro b b' p p' x cs cs' hb hb' hblk hf hf' hown hcs hcs'
    by_cases e : b = w.size
    · by_cases e' : b' = w.size
      · subst e e'
        rw [hb] at hb'; rw [hcs] at hcs'
        cases hb'; cases hcs'; exact Nat.le_refl _
      · have hp : p = ⟨g, 0, room⟩ := by subst e; simpa [Emb.ext] using hb.symm
        have := h.lt (old_of b' p' e' hb')
        rw [← hblk, hp] at this
        exact absurd this (Nat.not_lt.2 hg)
    · by_cases e' : b' = w.size
      · have hp : p' = ⟨g, 0, room⟩ := by subst e'; simpa [Emb.ext] using hb'.symm
        have := h.lt (old_of b p e hb)
        rw [hblk, hp] at this
        exact absurd this (Nat.not_lt.2 hg)
      · have hbo := old_of b p e hb
        have hbo' := old_of b' p' e' hb'
        have fam_of : ∀ b p, m b = some p → ∀ x, (w.push o).fam? b = some x → b ≠ w.size → w.fam? b = some x := fun b p hb x hx hne => by
          obtain ⟨ob, hg, hob⟩ := h.obj b p hb
          obtain ⟨c1, o1, d1, hg1, _⟩ := AW.fam?_iff.1 hx
          simp [hne] at hg1
          rw [hg] at hg1
          cases hg1
          obtain ⟨_, _, _, y, _, _, hy, _⟩ := hob
          exact foldinv b x hne ⟨y, hy⟩ hx
        have hx := fam_of b p hbo x hf e
        have hx' := fam_of b' p' hbo' x hf' e'
        exact h.tip b b' p p' x cs cs' hbo hbo' hblk hx hx' hown (by rw [← cold b x hx]; exact hcs) (by rw [← cold b' x hx']; exact hcs')
  · intro b x hx h0 hown hd
    by_cases e : b = w.size
    · subst e; exact (fnew x hx).symm
    · rcases finv b x e hx with hx' | hx'
      · exact h.single b x hx' h0 hown hd
      · -- an old block of the new family: there is none
        obtain ⟨cs, ow, d, hg, _⟩ := AW.fam?_iff.1 hx
        simp [e] at hg
        exact absurd (h.wfF _ _ _ _ _ hg) (by omega)
  · intro b hb
    simp at hb
    have : b ≠ w.size := by omega
    simp [this]
    exact h.wf b (by omega)
  · intro b cs f own d hg
    by_cases e : b = w.size
    · subst e
      simp at hg
      have := hfam _ _ _ _ hg
      simp; omega
    · simp [e] at hg
      have := h.wfF _ _ _ _ _ hg
      simp; omega
  · intro b p cs own d hb h0 hg
    by_cases e : b = w.size
    · have hp : p = ⟨g, 0, room⟩ := by subst e; simpa [Emb.ext] using hb.symm
      rw [hp]
    · simp [e] at hg
      exact h.root0 b p _ _ _ (old_of b p e hb) h0 hg
theorem Rel.more (h : Rel W0 N0 m w W) {W' : World} (hbel : ∀ c, c < W.heap.size → W'.heap[c]? = W.heap[c]?) (hsz : W.heap.size ≤ W'.heap.size) (henv : Env W W') : Rel W0 N0 m w W' := by
  refine ⟨Env.trans h.env henv, h.pos, h.dom, ⟨Nat.le_trans h.old.1 hsz, fun c hc => by rw [hbel c (by have := h.old.1; omega)]; exact h.old.2 c hc⟩, fun b p hb => ?_, h.sep, h.tip, h.single, h.wf, h.wfF, h.root0⟩
  obtain ⟨o, hg, ho⟩ := h.obj b p hb
  exact ⟨o, hg, ho.congr (Emb.le_refl _) (hbel _ (h.lt hb)) hsz (fun x hx => hx) (fun x hx cs hcs => hcs) (fun d q es v hq hd => .inl ⟨hd, hbel _ (h.lt hq)⟩)⟩
theorem Rel.freshRow (h : Rel W0 N0 m w W) {W' : World} {g : Nat} {cs : List AV} {c : Array Value} {e : TypeId} (hbel : ∀ c, c < W.heap.size → W'.heap[c]? = W.heap[c]?) (hsz : W.heap.size ≤ W'.heap.size) (henv : Env W W') (hg : W.heap.size ≤ g)
    (hW : W'.heap[g]? = some (.cells c e (0, 0))) (hl : cs.length ≤ c.size) (hok : ∀ a ∈ cs, okCell a = true) (hv : VRs m cs (c.toList.take cs.length)) :
    m.le (m.ext w.size ⟨g, 0, c.size⟩) ∧ Rel W0 N0 (m.ext w.size ⟨g, 0, c.size⟩) (newCells w cs) W' := by
  have hno : m w.size = none := by
    cases hm : m w.size with
    | none => rfl
    | some p => exact absurd (h.dom _ _ hm) (Nat.lt_irrefl _)
  refine h.fresh (cellsAO w cs) c.size hbel hsz henv hg ?_ ?_
  · refine ⟨c, e, (0, 0), (w.size, w.size, false), hW, by simp, newCells_fam cs, ⟨_, by simp [Emb.ext]; rfl⟩, fun _ => ⟨Nat.le_trans h.old.1 hg, .inl rfl⟩, ?_⟩
    intro cs' hcs'
    have := newCells_cells (w := w) cs
    unfold newCells at this
    rw [this] at hcs'; cases hcs'
    exact ⟨hl, hok, by simpa using hv.mono (m.le_ext _ hno)⟩
  · intro cs' f own d hh
    unfold cellsAO at hh
    cases hh; rfl
end rel
end Go.Sx
/-! The meaning, run in one order (nothing is claimed of it). -/
namespace Go.Sx
section ev
variable (P : Program) (ev : Task → Option Res)
def d_resVal : Res → Option (AV × AW)
  | .val v w => some (v, w)
  | _ => none
def d_eCallVal (w : AW) (args : List AV) : AV → Option (AV × AW)
  | .func f first captured => (ev (.call f (first ++ (args ++ captured)) w)).bind d_resVal
  | .yield l => (ev (.yield l args w)).bind d_resVal
  | _ => none
def d_eCallOp (w : AW) (tmps : Tm) (c : Call) : Option (AV × AW) :=
  match c.callee with
  | .value f => (evalO tmps f).bind fun fv => (evalOs tmps c.args.toList).bind fun as => d_eCallVal ev w as fv
  | .builtin _ => simpleOp P w tmps (.call c)
  | .invoke .. => none
def d_eNextOp (w : AW) (tmps : Tm) (i : Operand) (isStr : Bool) : Option (AV × AW) :=
  (evalO tmps i).bind fun x => match x with
  | .ptr b 0 => match w.get b, isStr with
    | some (.strIter s p), true => some (nextStr w b s p)
    | some (.mapIter none _ _ _ _), false => some (.tup [.bool false], w)
    | some (.mapIter (some m) es c rest _), false => (mapAt w m).bind fun x => if x.2 = c then
        match rest with
        | [] => some (.tup [.bool false], w)
        | kv :: rest => some (.tup [.bool true, kv.1, kv.2], w.set b (.mapIter (some m) es c rest (some (.tup [kv.1, kv.2]))))
      else none
    | _, _ => none
  | _ => none
def d_eOp (w : AW) (tmps : Tm) (o : Op) : Option (AV × AW) :=
  match o with
  | .call c => d_eCallOp P ev w tmps c
  | .next i t => d_eNextOp w tmps i t
  | o => simpleOp P w tmps o
def d_eOps (all : List Oper) : List Oper → Tm → AW → Option (Tm × AW)
  | [], tmps, w => some (tmps, w)
  | o :: rest, tmps, w =>
    if wantedA all tmps o.guard = true then (d_eOp P ev w tmps o.op).bind fun x => d_eOps all rest (putT tmps o.dst x.1) x.2
    else d_eOps all rest (putT tmps o.dst undef) w
def d_eSame (ops : List Oper) (w : AW) (r : Rd) : Bool :=
  match ops[r.i]? with
  | some o => match pureOp P w r.tm o.op with
    | some v => v.beq r.v
    | none => false
  | none => false
def d_eSames (ops : List Oper) (w : AW) (rds : List Rd) : Bool := rds.all (d_eSame P ops w)
def d_eQ : List QI → List Rd → Tm → AW → Option (List Rd × Tm × AW)
  | [], rds, tmps, w => some (rds, tmps, w)
  | .pu g o :: r, rds, tmps, w => bif gdOk tmps g then (pureOp P w tmps o.op).bind fun v => d_eQ r rds (putT tmps o.dst v) w else d_eQ r rds (putT tmps o.dst undef) w
  | .rd g o i keep :: r, rds, tmps, w => bif gdOk tmps g then (pureOp P w tmps o.op).bind fun v => d_eQ r (bif keep then ⟨i, v, tmps⟩ :: rds else rds) (putT tmps o.dst v) w else d_eQ r rds (putT tmps o.dst undef) w
  | .mk g o :: r, rds, tmps, w => bif gdOk tmps g then (allocOp P w tmps o.op).bind fun x => d_eQ r rds (putT tmps o.dst x.1) (w.push x.2) else d_eQ r rds (putT tmps o.dst undef) w
def d_ePlan (ops : List Oper) : Plan → List Rd → Tm → AW → Option (Tm × AW)
  | .bad, _, _, _ => none
  | .done q chk, rds, tmps, w => bif chk || d_eSames P ops w rds then (d_eQ P q rds tmps w).bind fun x => bif !chk || d_eSames P ops x.2.2 x.1 then some x.2 else none else none
  | .eff q chk g o _ bfi next, rds, tmps, w => bif chk || d_eSames P ops w rds then (d_eQ P q rds tmps w).bind fun x => bif !chk || d_eSames P ops x.2.2 x.1 then
      bif gdOk x.2.1 g then (d_eOp P ev x.2.2 x.2.1 o.op).bind fun y => d_ePlan ops next (x.1.filter fun r => !(bfi.testBit r.i)) (putT x.2.1 o.dst y.1) y.2
      else d_ePlan ops next (x.1.filter fun r => !(bfi.testBit r.i)) (putT x.2.1 o.dst undef) x.2.2
    else none else none
def d_eDraw (ops : List Oper) (tmps : Tm) (w : AW) : Option (Tm × AW) := d_ePlan P ev ops (drawPlan P ops) [] tmps w
def d_eLeave (fn : Func) (r : Res) : Option Res :=
  match r with
  | .ex e s => match e with
    | .normal => (takeAll s.w s.defers).bind fun w => (resultsL P w s.tmps fn.results.toList).map fun vs => .val (one vs) w
    | .ret => (takeAll s.w s.defers).bind fun w => (resultsL P w s.tmps fn.results.toList).map fun vs => .val (one vs) w
    | _ => none
  | _ => none
def d_eEnter (fn : Func) (args : List AV) (w : AW) : Option Res :=
  match fn.body with
  | some c => (ev (.code none c ⟨args ++ List.replicate (fn.ntmps - args.length) undef, [], w⟩)).bind (d_eLeave P fn)
  | none => (externA w fn.name args).map fun x => .val x.1 x.2
def d_eCall (hk : Hook) (f : FuncId) (args : List AV) (w : AW) : Option Res :=
  match hk f args w with
  | some r => r.map fun x => .val x.1 x.2
  | none => (P.funcs[f]?).bind fun fn => d_eEnter P ev fn args w
def d_eEndRound (l : Nat) (r : Res) : Option Res :=
  match r with
  | .ex e s => (loopAt s.w l).map fun r => .val (.bool (jumpOf e).isNone) (s.w.set l (LoopA.ob { r with st := if (jumpOf e).isNone then .ready else .done, pending := jumpOf e }))
  | _ => none
def d_eBody (l : Nat) (body : Code) (r : Res) : Option Res :=
  match r with
  | .ex .normal s => (loopAt s.w l).bind fun r => match r.st with
    | .ready => (ev (.code (some l) body { s with w := s.w.set l (LoopA.ob { r with st := .busy }) })).bind (d_eEndRound l)
    | _ => none
  | _ => none
def d_eYield (l : Nat) (args : List AV) (w : AW) : Option Res :=
  (loopAt w l).bind fun r => if args.length = r.params.length then (ev (.code (some l) r.assign ⟨setParams (r.params.zip args) r.tmps, [], w⟩)).bind (d_eBody ev l r.body) else none
def d_eEndLoop (ro : Option Nat) (l : Nat) (tmps : Tm) (defers : List Nat) (w : AW) : Option Res :=
  (loopAt w l).bind fun r => if r.st = .busy then none else
    match r.pending with
    | none => some (.ex .normal ⟨tmps, defers, w.set l (LoopA.ob { r with st := .exhausted })⟩)
    | some c => ev (.code ro c ⟨tmps, defers, w.set l (LoopA.ob { r with st := .exhausted })⟩)
def d_eRange (ro : Option Nat) (f : Operand) (params : Array Tmp) (assign body : Code) (s : St) : Option Res :=
  (startLoop ro s).bind fun x => (evalO s.tmps f).bind fun fv =>
    (d_eCallVal ev (x.2.2.push (LoopA.ob ⟨.ready, none, 0, s.tmps, params.toList, assign, body, x.1⟩)) [.yield x.2.2.size] fv).bind fun y => d_eEndLoop ev ro x.2.2.size s.tmps x.2.1 y.2
def d_eSeq (ro : Option Nat) (b : Code) (r : Res) : Option Res :=
  match r with
  | .ex .normal s => ev (.code ro b s)
  | .ex e s => some (.ex e s)
  | _ => none
def d_eBlock (id : Nat) (r : Res) : Option Res :=
  match r with
  | .ex (.exit i) s => if i = id then some (.ex .normal s) else some (.ex (.exit i) s)
  | .ex e s => some (.ex e s)
  | _ => none
def d_eScope (ro : Option Nat) (b : Code) (r : Res) : Option Res :=
  match r with
  | .ex (.goto l) s => match findLabelA b l with
    | some rest => ev (.scope ro b rest s)
    | none => some (.ex (.goto l) s)
  | .ex e s => some (.ex e s)
  | _ => none
def d_eCode (ro : Option Nat) (c : Code) (s : St) : Option Res :=
  match c with
  | .skip => some (.ex .normal s)
  | .label _ => some (.ex .normal s)
  | .ret => some (.ex .ret s)
  | .exit id => some (.ex (.exit id) s)
  | .goto l => some (.ex (.goto l) s)
  | .seq a b => (ev (.code ro a s)).bind (d_eSeq ev ro b)
  | .cond c a b => (evalO s.tmps c).bind fun v => match v with
    | .bool t => ev (.code ro (if t then a else b) s)
    | _ => none
  | .block id b => (ev (.code ro b s)).bind (d_eBlock id)
  | .loop b => (ev (.code ro b s)).bind (d_eSeq ev ro (.loop b))
  | .region _ ops draw => match draw with
    | true => (d_eDraw P ev ops.toList s.tmps s.w).map fun x => .ex .normal ⟨x.1, s.defers, x.2⟩
    | false => (d_eOps P ev ops.toList ops.toList s.tmps s.w).map fun x => .ex .normal ⟨x.1, s.defers, x.2⟩
  | .scope b => ev (.scope ro b b s)
  | .rangeFunc f params assign body => d_eRange ev ro f params assign body s
  | .refuse _ => none
def d_eTask (hk : Hook) (t : Task) : Option Res :=
  match t with
  | .code ro c s => d_eCode P ev ro c s
  | .scope ro b c s => (ev (.code ro c s)).bind (d_eScope ev ro b)
  | .call f args w => d_eCall P ev hk f args w
  | .yield l args w => d_eYield ev l args w
end ev
def d_evN (P : Program) (hk : Hook) : Nat → Task → Option Res
  | 0, _ => none
  | n + 1, t => d_eTask P (d_evN P hk n) hk t
end Go.Sx
