/-
  conduitlaw08.SegmentNone: whatever the arguments are, the law answers true and the arguments read behind the call as before.
  No condition.
-/
import Derived.Test.YtdlogcincelccaaRows
import Derived.Test.YtdlogcincelccaaSxk
import Derived.WalkKit
namespace Go.Proofs.Ytdlogcincelccaa.segmentNone
open Go.ChangeShapes Go.WideShapes Go.ChangeAt Go.RowKit Go.Sx

theorem own : ownKnob Try.prog.godebug = none := by kernel_rfl

set_option maxRecDepth 100000 in
theorem evn (x0 : Int) : kN Try.prog noHook 4000 (.call 5 [.int .i64 x0, .nilslice] (argW 2)) saysTrue = true := by kernel_rfl

set_option maxRecDepth 100000 in
theorem evs (x0 : Int) (l1 c1 : Nat) : kN Try.prog noHook 4000 (.call 5 [.int .i64 x0, .slice 2 0 l1 c1 none] (argW 2)) saysTrue = true := by kernel_rfl

theorem evals {avs : List AV} (h : ShapeAll Try.prog 1 [3, 23] avs) : kN Try.prog noHook 4000 (.call 5 avs (argW 2)) saysTrue = true := by
  obtain ⟨a0, r0, rfl, h0, h⟩ := h
  obtain ⟨a1, r1, rfl, h1, h⟩ := h
  have h : _ = [] := h
  subst h
  cases h0
  case int kk x0 hu =>
    rw [Try.underlying3] at hu; cases hu
    cases h1
    case int kk x1 hu =>
      rw [Try.underlying23] at hu; cases hu
    case bool x1 hu =>
      rw [Try.underlying23] at hu; cases hu
    case str x1 hu =>
      rw [Try.underlying23] at hu; cases hu
    case nils e1 hu =>
      exact evn x0
    case slice e1 l1 c1 hu =>
      exact evs x0 l1 c1
  case bool x0 hu =>
    rw [Try.underlying3] at hu; cases hu
  case str x0 hu =>
    rw [Try.underlying3] at hu; cases hu
  case nils e0 hu =>
    rw [Try.underlying3] at hu; cases hu
  case slice e0 l0 c0 hu =>
    rw [Try.underlying3] at hu; cases hu

set_option maxRecDepth 100000 in
theorem walk {base : Nat} {H : Type} {enc : TypeId × Value → H} (W : World) {args : Array Value} {ds : List (DataW H)} {ps : List MemPlace}
    (hv : ∀ (j : Nat) (t : TypeId) (v : Value), ([3, 23] : List TypeId)[j]? = some t → args.toList[j]? = some v → Value.okWide Try.prog W .any base t v)
    (hd : DataW.TrodAll enc Try.prog W 0 (fun _ => true) true [3, 23] args.toList ds ps) :
    Calls Try.prog 5 args W fun e W' => e = .returned (.bool true) ∧ ∃ w' m', Rel W W.heap.size m' w' W' := by
  obtain ⟨m0, hm0, hr0⟩ := start_args (W := W)
  obtain ⟨m, avs, hm, _, hvs, hsh⟩ := open_args hm0 hr0 (ts := [3, 23]) (fun t ht => List.all_eq_true.1 (show ([3, 23] : List TypeId).all (flatT Try.prog) = true from by kernel_rfl) t ht) hv hd
  exact walkK (host_plain (by kernel_rfl) (by kernel_rfl) (by kernel_rfl)) rfl (evals hsh) Try.func5 rfl (Rel.args hm) hvs

set_option maxRecDepth 100000 in
theorem lifted (os : Os) (started : os.Started) (H : Type) (enc : TypeId × Value → H) :
    ReturnsInHanded {} Try.checked os 5 .any (Rows.segmentNoneSpec.pre6 enc Try.prog Try.f5 Rows.segmentNoneRow.domain false) (Rows.segmentNoneSpec.post enc Try.prog Try.f5 false true false false) := by
  refine returnsInHanded_of_change (C := Try.checked) own started (by kernel_rfl) Try.func5
    (ChangeSpec.witness6 (enc := enc) (C := Try.checked) false ⟨#[], #[.int .i64 0, .slice none 0 0], []⟩ 8 (by kernel_rfl) (by kernel_rfl) (by kernel_rfl) (by kernel_rfl)) ?_
  intro W base args ds gs before hval0 hW hcnd _
  have hval : ∀ (j : Nat) t v, Try.f5.params[j]? = some t → args[j]? = some v → Value.okWide Try.prog W .any base t v := hval0
  have hW' := hW
  obtain ⟨p, q, hA0, hV, rfl, hfz, hnd⟩ := hW
  have hA : DataW.TrodAll enc Try.prog W 0 (fun _ => true) true Try.f5.params.toList args.toList ds p := hA0
  obtain ⟨rfl, rfl⟩ := trodVars_none hV
  rw [Try.params5] at hA hval
  refine (walk (base := base) W (fun j t v h1 h2 => hval j t v (by rw [← Array.getElem?_toList]; exact h1) (by rw [← Array.getElem?_toList]; exact h2)) hA).mono fun e W' ⟨he, w', m', hrel⟩ => ?_
  subst he
  have hlen : ds.length = 2 := trodAll_len hA
  have hfn : ∃ d0 d1, ds = [d0, d1] := by
    match ds, hlen with
    | [d0, d1], _ => exact ⟨d0, d1, rfl⟩
  obtain ⟨d0, d1, rfl⟩ := hfn
  exact ⟨_, rfl, post_law (tb := 4) 6 (fun t ht => List.all_eq_true.1 (show (Try.f5.params.toList).all (plainT Try.prog 6) = true from by kernel_rfl) t ht) rfl rfl Try.underlying4 rfl rfl hW' (hrel.kept _) hrel.old.2 hrel.frozen (ok_one (by kernel_rfl) rfl (okWide_bool_mk Try.underlying4 _))⟩

theorem over : Rows.segmentNoneRow.holds Try.pinned (OpenSpec.ofChange Rows.segmentNoneSpec) :=
  OpenClaim.holds_of_wide 5 Try.f5 rfl rfl rfl rfl rfl rfl rfl ⟨rfl, rfl, rfl, rfl, rfl⟩ rfl rfl rfl rfl rfl (by kernel_rfl) Try.func5 (by kernel_rfl)
    (of_decide_eq_true (by kernel_rfl)) (by unfold Func.isWrapper; first | (rw [if_pos (by decide +kernel)]; kernel_rfl) | (rw [if_neg (by decide +kernel)]; exact ⟨rfl, rfl⟩))
    (fun os started H enc _ => lifted os started H enc)

theorem proved : Rows.SegmentNoneSaid :=
  over
#print axioms proved
end Go.Proofs.Ytdlogcincelccaa.segmentNone
