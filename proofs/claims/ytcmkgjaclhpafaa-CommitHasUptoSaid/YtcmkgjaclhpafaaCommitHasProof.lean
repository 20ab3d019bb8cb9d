/-
  conduitlaw22.CommitHas: whatever the arguments are, the law answers true and the arguments read behind the call as before.
  No condition.
-/
import Derived.Test.YtcmkgjaclhpafaaRows
import Derived.Test.YtcmkgjaclhpafaaH22
import Derived.Test.YtcmkgjaclhpafaaSxm
import Derived.Test.YtcmkgjaclhpafaaSxo
import Derived.WalkKit
import Derived.ProofKit
import Derived.OpenShut
import Derived.JoinedCond
import Derived.Shelf.SortM.Plain
import Derived.Shelf.SortM.SortNone
import Derived.Ground.SlgmProg
set_option linter.unusedSimpArgs false
set_option linter.unusedVariables false
namespace Go.Proofs
open Go.RowKit Go.Maps Go.Sort Go.Shelf
shelf_lay_g SlLaysM.n5 Slgm 5 at Try 26 as Try.sorthk0
theorem Try.sortPhk0 : Go.Sx.SortP Try.prog 26 :=
  ⟨fun blk off cap ss W h1 h2 h3 => AnyM.slices_Sort_int Try.sorthk0 blk off cap ss W h1 h2 h3, fun p cap W => AnyM.slices_Sort_int_none Try.sorthk0 p cap W⟩
end Go.Proofs
namespace Go.Proofs.Ytcmkgjaclhpafaa.commitHas
open Go.Sx

noncomputable def hooks0 : List HR := []
theorem hooks0_ok : ∀ h ∈ hooks0, HRok Try.prog h := by
  intro h hh
  cases hh
set_option maxRecDepth 100000 in
theorem apart10 : kN Try.prog (hookOf hooks0) 100000 (.call 10 [] ⟨1, .nil⟩) (says (.bool true)) = true := by kernel_rfl
noncomputable def hooks : List HR := [⟨10, hookApart [] (.bool true)⟩, ⟨26, hookSort⟩]
theorem hooks_ok : ∀ h ∈ hooks, HRok Try.prog h := by
  intro h hh
  simp only [hooks, List.mem_cons, List.not_mem_nil, or_false] at hh
  rcases hh with rfl | rfl
  · exact hookApart_ok (fun _ _ => host_hooks hooks0_ok (by kernel_rfl) (by kernel_rfl) (by kernel_rfl)) rfl rfl (by kernel_rfl) apart10 Try.func10 rfl
  · exact hookSort_ok Try.sortPhk0 Try.func26 rfl
theorem host {W : World} {n : Nat} : Host Try.prog (hookOf hooks) W n := host_hooks hooks_ok (by kernel_rfl) (by kernel_rfl) (by kernel_rfl)
theorem hk_ok : HK (hookOf hooks) := by
  refine ⟨fun f a w h1 h2 => ?_, fun a w x h => ?_, fun w => rfl⟩
  · show Bool.rec (motive := fun _ => Option (Option (AV × AW))) (Bool.rec (motive := fun _ => Option (Option (AV × AW))) none _ (Nat.beq f 26)) _ (Nat.beq f 10) = none
    rw [beq_ff h1, beq_ff h2]
  · show (match hookSort w a with | some x => some (some x) | none => none) = some (some x)
    rw [h]
theorem law (css : List (List AV)) (avs : List AV) (h : DtAll Try.prog css [3, 23, 3, 23, 3] avs) : hookOf hooks 5 avs (argL css) = none ∧ Cl Try.prog (hookOf hooks) 5 avs (argL css) fun v _ => v = .bool true := by
  obtain ⟨a, _, rfl, h1, b, _, rfl, h2, c, _, rfl, h3, d, _, rfl, h4, e, _, rfl, h5, rfl⟩ := h
  obtain ⟨n1, e1, _⟩ := h1.i64 Try.underlying3
  cases e1
  obtain ⟨l, hl, _⟩ := h2.ints Try.underlying23 Try.underlying3 (by kernel_rfl)
  obtain ⟨n3, e3, _⟩ := h3.i64 Try.underlying3
  cases e3
  obtain ⟨l2, hl2, _⟩ := h4.ints Try.underlying23 Try.underlying3 (by kernel_rfl)
  obtain ⟨n5, e5, _⟩ := h5.i64 Try.underlying3
  cases e5
  exact ⟨hk_ok.no _ _ _ (by decide) (by decide), s5 hk_ok (argL_mem css) (by rw [argL_size]; omega) hl hl2⟩
end Go.Proofs.Ytcmkgjaclhpafaa.commitHas

namespace Go.Proofs.Ytcmkgjaclhpafaa.commitHas
open Go.ChangeShapes Go.WideShapes Go.ChangeAt Go.RowKit Go.Sx
theorem own : ownKnob Try.prog.godebug = none := by kernel_rfl

set_option maxRecDepth 100000 in
theorem lifted (os : Os) (started : os.Started) (H : Type) (enc : TypeId × Value → H) (F : Stop.Interp) :
    ReturnsInHanded {} Try.checked os 5 .any ((Rows.OpenSpec.upto Rows.commitHasSpec).pre6 enc Try.prog Try.f5 Rows.commitHasUptoRow.domain false) (((Rows.OpenSpec.upto Rows.commitHasSpec).at F).post enc Try.prog Try.f5 false true false false) := by
  refine returnsInHanded_of_cond (C := Try.checked) (s := Rows.OpenSpec.upto Rows.commitHasSpec) (k := Rows.uptoSmall) rfl own started (by kernel_rfl) Try.func5
    (OpenSpec.witness (enc := enc) (C := Try.checked) (s := Rows.OpenSpec.upto Rows.commitHasSpec) (k := Rows.uptoSmall) rfl false ⟨#[], #[.int .i64 0, .slice none 0 0, .int .i64 0, .slice none 0 0, .int .i64 0], []⟩ 8 (by kernel_rfl) (by kernel_rfl) (by kernel_rfl)
      (x := ([.lit (.int .i64 0), .nil, .lit (.int .i64 0), .nil, .lit (.int .i64 0)], [], [])) (by kernel_rfl) rfl (by kernel_rfl)) ?_
  intro W base args ds gs before hval0 hW _ hcnd _
  have hval : ∀ (j : Nat) t v, Try.f5.params[j]? = some t → args[j]? = some v → Value.okWide Try.prog W .any base t v := hval0
  have hW' := hW
  obtain ⟨p, q, hA0, hV, rfl, hfz, hnd⟩ := hW
  have hA : DataW.TrodAll enc Try.prog W 0 (fun _ => true) true Try.f5.params.toList args.toList ds p := hA0
  obtain ⟨rfl, rfl⟩ := trodVars_none hV
  rw [Try.params5] at hA hval
  have walk : Calls Try.prog 5 args W fun e W' => e = .returned (.bool true) ∧ ∃ w' m', Rel W W.heap.size m' w' W' :=
    walkD (dd := 8) (ts := [3, 23, 3, 23, 3]) host Try.func5 rfl (fun t ht => List.all_eq_true.1 (show ([3, 23, 3, 23, 3] : List TypeId).all (okT Try.prog 8) = true from by kernel_rfl) t ht) law
      (fun j t v h1 h2 => hval j t v (by rw [← Array.getElem?_toList]; exact h1) (by rw [← Array.getElem?_toList]; exact h2)) hA
  refine walk.mono fun e W' ⟨he, w', m', hrel⟩ => ?_
  subst he
  have hlen : ds.length = 5 := trodAll_len hA
  have hfn : ∃ d0 d1 d2 d3 d4, ds = [d0, d1, d2, d3, d4] := by
    match ds, hlen with
    | [d0, d1, d2, d3, d4], _ => exact ⟨d0, d1, d2, d3, d4, rfl⟩
  obtain ⟨d0, d1, d2, d3, d4, rfl⟩ := hfn
  exact ⟨_, rfl, post_law (tb := 4) 6 (fun t ht => List.all_eq_true.1 (show (Try.f5.params.toList).all (plainT Try.prog 6) = true from by kernel_rfl) t ht) rfl rfl Try.underlying4 rfl rfl hW' (hrel.kept _) hrel.old.2 hrel.frozen (ok_one (by kernel_rfl) rfl (okWide_bool_mk Try.underlying4 _))⟩

theorem over : Rows.commitHasUptoRow.holds Try.pinned (Rows.OpenSpec.upto Rows.commitHasSpec) :=
  OpenClaim.holds_of_cond 5 Try.f5 rfl rfl rfl rfl rfl rfl rfl ⟨rfl, rfl, rfl, rfl, rfl⟩ rfl rfl rfl rfl rfl (by kernel_rfl) Try.func5 (by kernel_rfl)
    (of_decide_eq_true (by kernel_rfl)) (by unfold Func.isWrapper; first | (rw [if_pos (by decide +kernel)]; kernel_rfl) | (rw [if_neg (by decide +kernel)]; exact ⟨rfl, rfl⟩))
    (fun os started H enc _ F => lifted os started H enc F)

theorem proved : Rows.CommitHasUptoSaid :=
  over
#print axioms proved
end Go.Proofs.Ytcmkgjaclhpafaa.commitHas
