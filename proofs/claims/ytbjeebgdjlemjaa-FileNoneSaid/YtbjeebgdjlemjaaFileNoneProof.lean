/-
  conduitlaw07.FileNone: whatever the arguments are, the law answers true and the arguments read behind the call as before.
  No condition.
-/
import Derived.Test.YtbjeebgdjlemjaaRows
import Derived.Test.YtbjeebgdjlemjaaSxk
import Derived.WalkKit
namespace Go.Proofs.Ytbjeebgdjlemjaa.fileNone
open Go.ChangeShapes Go.WideShapes Go.ChangeAt Go.RowKit Go.Sx

theorem own : ownKnob Try.prog.godebug = none := by kernel_rfl

set_option maxRecDepth 100000 in
theorem evnn (x0 : List UInt8) (x1 : Int) : kN Try.prog noHook 4000 (.call 9 [.str x0, .int .i64 x1, .nilslice, .nilslice] (argW 4)) saysTrue = true := by kernel_rfl

set_option maxRecDepth 100000 in
theorem evns (x0 : List UInt8) (x1 : Int) (l3 c3 : Nat) : kN Try.prog noHook 4000 (.call 9 [.str x0, .int .i64 x1, .nilslice, .slice 4 0 l3 c3 none] (argW 4)) saysTrue = true := by kernel_rfl

set_option maxRecDepth 100000 in
theorem evsn (x0 : List UInt8) (x1 : Int) (l2 c2 : Nat) : kN Try.prog noHook 4000 (.call 9 [.str x0, .int .i64 x1, .slice 3 0 l2 c2 none, .nilslice] (argW 4)) saysTrue = true := by kernel_rfl

set_option maxRecDepth 100000 in
theorem evss (x0 : List UInt8) (x1 : Int) (l2 c2 : Nat) (l3 c3 : Nat) : kN Try.prog noHook 4000 (.call 9 [.str x0, .int .i64 x1, .slice 3 0 l2 c2 none, .slice 4 0 l3 c3 none] (argW 4)) saysTrue = true := by kernel_rfl

theorem evals {avs : List AV} (h : ShapeAll Try.prog 1 [9, 3, 22, 23] avs) : kN Try.prog noHook 4000 (.call 9 avs (argW 4)) saysTrue = true := by
  obtain ⟨a0, r0, rfl, h0, h⟩ := h
  obtain ⟨a1, r1, rfl, h1, h⟩ := h
  obtain ⟨a2, r2, rfl, h2, h⟩ := h
  obtain ⟨a3, r3, rfl, h3, h⟩ := h
  have h : _ = [] := h
  subst h
  cases h0
  case int kk x0 hu =>
    rw [Try.underlying9] at hu; cases hu
  case bool x0 hu =>
    rw [Try.underlying9] at hu; cases hu
  case str x0 hu =>
    cases h1
    case int kk x1 hu =>
      rw [Try.underlying3] at hu; cases hu
      cases h2
      case int kk x2 hu =>
        rw [Try.underlying22] at hu; cases hu
      case bool x2 hu =>
        rw [Try.underlying22] at hu; cases hu
      case str x2 hu =>
        rw [Try.underlying22] at hu; cases hu
      case nils e2 hu =>
        cases h3
        case int kk x3 hu =>
          rw [Try.underlying23] at hu; cases hu
        case bool x3 hu =>
          rw [Try.underlying23] at hu; cases hu
        case str x3 hu =>
          rw [Try.underlying23] at hu; cases hu
        case nils e3 hu =>
          exact evnn x0 x1
        case slice e3 l3 c3 hu =>
          exact evns x0 x1 l3 c3
      case slice e2 l2 c2 hu =>
        cases h3
        case int kk x3 hu =>
          rw [Try.underlying23] at hu; cases hu
        case bool x3 hu =>
          rw [Try.underlying23] at hu; cases hu
        case str x3 hu =>
          rw [Try.underlying23] at hu; cases hu
        case nils e3 hu =>
          exact evsn x0 x1 l2 c2
        case slice e3 l3 c3 hu =>
          exact evss x0 x1 l2 c2 l3 c3
    case bool x1 hu =>
      rw [Try.underlying3] at hu; cases hu
    case str x1 hu =>
      rw [Try.underlying3] at hu; cases hu
    case nils e1 hu =>
      rw [Try.underlying3] at hu; cases hu
    case slice e1 l1 c1 hu =>
      rw [Try.underlying3] at hu; cases hu
  case nils e0 hu =>
    rw [Try.underlying9] at hu; cases hu
  case slice e0 l0 c0 hu =>
    rw [Try.underlying9] at hu; cases hu

set_option maxRecDepth 100000 in
theorem walk {base : Nat} {H : Type} {enc : TypeId × Value → H} (W : World) {args : Array Value} {ds : List (DataW H)} {ps : List MemPlace}
    (hv : ∀ (j : Nat) (t : TypeId) (v : Value), ([9, 3, 22, 23] : List TypeId)[j]? = some t → args.toList[j]? = some v → Value.okWide Try.prog W .any base t v)
    (hd : DataW.TrodAll enc Try.prog W 0 (fun _ => true) true [9, 3, 22, 23] args.toList ds ps) :
    Calls Try.prog 9 args W fun e W' => e = .returned (.bool true) ∧ ∃ w' m', Rel W W.heap.size m' w' W' := by
  obtain ⟨m0, hm0, hr0⟩ := start_args (W := W)
  obtain ⟨m, avs, hm, _, hvs, hsh⟩ := open_args hm0 hr0 (ts := [9, 3, 22, 23]) (fun t ht => List.all_eq_true.1 (show ([9, 3, 22, 23] : List TypeId).all (flatT Try.prog) = true from by kernel_rfl) t ht) hv hd
  exact walkK (host_plain (by kernel_rfl) (by kernel_rfl) (by kernel_rfl)) rfl (evals hsh) Try.func9 rfl (Rel.args hm) hvs

set_option maxRecDepth 100000 in
theorem lifted (os : Os) (started : os.Started) (H : Type) (enc : TypeId × Value → H) :
    ReturnsInHanded {} Try.checked os 9 .any (Rows.fileNoneSpec.pre6 enc Try.prog Try.f9 Rows.fileNoneRow.domain false) (Rows.fileNoneSpec.post enc Try.prog Try.f9 false true false false) := by
  refine returnsInHanded_of_change (C := Try.checked) own started (by kernel_rfl) Try.func9
    (ChangeSpec.witness6 (enc := enc) (C := Try.checked) false ⟨#[], #[.string ⟨#[]⟩, .int .i64 0, .slice none 0 0, .slice none 0 0], []⟩ 8 (by kernel_rfl) (by kernel_rfl) (by kernel_rfl) (by kernel_rfl)) ?_
  intro W base args ds gs before hval0 hW hcnd _
  have hval : ∀ (j : Nat) t v, Try.f9.params[j]? = some t → args[j]? = some v → Value.okWide Try.prog W .any base t v := hval0
  have hW' := hW
  obtain ⟨p, q, hA0, hV, rfl, hfz, hnd⟩ := hW
  have hA : DataW.TrodAll enc Try.prog W 0 (fun _ => true) true Try.f9.params.toList args.toList ds p := hA0
  obtain ⟨rfl, rfl⟩ := trodVars_none hV
  rw [Try.params9] at hA hval
  refine (walk (base := base) W (fun j t v h1 h2 => hval j t v (by rw [← Array.getElem?_toList]; exact h1) (by rw [← Array.getElem?_toList]; exact h2)) hA).mono fun e W' ⟨he, w', m', hrel⟩ => ?_
  subst he
  have hlen : ds.length = 4 := trodAll_len hA
  have hfn : ∃ d0 d1 d2 d3, ds = [d0, d1, d2, d3] := by
    match ds, hlen with
    | [d0, d1, d2, d3], _ => exact ⟨d0, d1, d2, d3, rfl⟩
  obtain ⟨d0, d1, d2, d3, rfl⟩ := hfn
  exact ⟨_, rfl, post_law (tb := 4) 6 (fun t ht => List.all_eq_true.1 (show (Try.f9.params.toList).all (plainT Try.prog 6) = true from by kernel_rfl) t ht) rfl rfl Try.underlying4 rfl rfl hW' (hrel.kept _) hrel.old.2 hrel.frozen (ok_one (by kernel_rfl) rfl (okWide_bool_mk Try.underlying4 _))⟩

theorem over : Rows.fileNoneRow.holds Try.pinned (OpenSpec.ofChange Rows.fileNoneSpec) :=
  OpenClaim.holds_of_wide 9 Try.f9 rfl rfl rfl rfl rfl rfl rfl ⟨rfl, rfl, rfl, rfl, rfl⟩ rfl rfl rfl rfl rfl (by kernel_rfl) Try.func9 (by kernel_rfl)
    (of_decide_eq_true (by kernel_rfl)) (by unfold Func.isWrapper; first | (rw [if_pos (by decide +kernel)]; kernel_rfl) | (rw [if_neg (by decide +kernel)]; exact ⟨rfl, rfl⟩))
    (fun os started H enc _ => lifted os started H enc)

theorem proved : Rows.FileNoneSaid :=
  over
#print axioms proved
end Go.Proofs.Ytbjeebgdjlemjaa.fileNone
