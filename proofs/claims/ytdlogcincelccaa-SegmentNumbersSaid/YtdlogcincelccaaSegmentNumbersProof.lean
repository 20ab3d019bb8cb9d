/-
  conduitlaw08.SegmentNumbers: whatever the arguments are, the law answers true and the arguments read behind the call as before.
  No condition.
-/
import Derived.Test.YtdlogcincelccaaRows
import Derived.Test.YtdlogcincelccaaMd
import Derived.Test.YtdlogcincelccaaSxq
import Derived.Test.YtdlogcincelccaaSxt
import Derived.Test.YtdlogcincelccaaSxm
import Derived.WalkKit
import Derived.SizedLaws
set_option linter.unusedSimpArgs false
set_option linter.unusedVariables false
namespace Go.Proofs.Ytdlogcincelccaa.segmentNumbers
open Go.Sx

noncomputable def hooks0 : List HR := []
theorem hooks0_ok : ∀ h ∈ hooks0, HRok Try.prog h := by
  intro h hh
  cases hh
set_option maxRecDepth 100000 in
theorem apart15 : kN Try.prog (hookOf hooks0) 1000000 (.call 15 [] ⟨1, .nil⟩) (says (.bool true)) = true := by kernel_rfl
noncomputable def hooks : List HR := [⟨15, hookApart [] (.bool true)⟩]
theorem hooks_ok : ∀ h ∈ hooks, HRok Try.prog h := by
  intro h hh
  simp only [hooks, List.mem_cons, List.not_mem_nil, or_false] at hh
  subst hh
  exact hookApart_ok (fun _ _ => host_hooks hooks0_ok (by kernel_rfl) (by kernel_rfl) (by kernel_rfl)) rfl rfl (by kernel_rfl) apart15 Try.func15 rfl
theorem host {W : World} {n : Nat} : Host Try.prog (hookOf hooks) W n := host_hooks hooks_ok (by kernel_rfl) (by kernel_rfl) (by kernel_rfl)
theorem hk_ok : HK (hookOf hooks) := by
  refine ⟨fun f a w h1 h2 => ?_, fun w => rfl⟩
  show Bool.rec (motive := fun _ => Option (Option (AV × AW))) none _ (Nat.beq f 15) = none
  rw [beq_ff h1]
theorem law (css : List (List AV)) (avs : List AV) (h : DtAll Try.prog css [] avs) : hookOf hooks 6 avs (argL css) = none ∧ Cl Try.prog (hookOf hooks) 6 avs (argL css) fun v _ => v = .bool true := by
  cases h
  exact ⟨hk_ok.no _ _ _ (by decide) (by decide), s6 hk_ok Pv.arg⟩
end Go.Proofs.Ytdlogcincelccaa.segmentNumbers

namespace Go.Proofs.Ytdlogcincelccaa.segmentNumbers
open Go.ChangeShapes Go.WideShapes Go.ChangeAt Go.RowKit Go.Sx
theorem own : ownKnob Try.prog.godebug = none := by kernel_rfl

set_option maxRecDepth 100000 in
theorem lifted (os : Os) (started : os.Started) (H : Type) (enc : TypeId × Value → H) :
    ReturnsInHanded {} Try.checked os 6 .any (Rows.segmentNumbersSpec.pre6 enc Try.prog Try.f6 Rows.segmentNumbersRow.domain false) (Rows.segmentNumbersSpec.post enc Try.prog Try.f6 false true false false) := by
  refine returnsInHanded_of_change_sized (C := Try.checked) own started (by kernel_rfl) Try.func6
    (ChangeSpec.witness6 (enc := enc) (C := Try.checked) false ⟨#[], #[], []⟩ 8 (by kernel_rfl) (by kernel_rfl) (by kernel_rfl) (by kernel_rfl)) ?_
  intro W base args ds gs before hval0 hW hcnd hsz0 _
  have hval : ∀ (j : Nat) t v, Try.f6.params[j]? = some t → args[j]? = some v → Value.okWide Try.prog W .any base t v := hval0
  have hW' := hW
  obtain ⟨p, q, hA0, hV, rfl, hfz, hnd⟩ := hW
  have hA : DataW.TrodAll enc Try.prog W 0 (fun _ => true) true Try.f6.params.toList args.toList ds p := hA0
  obtain ⟨rfl, rfl⟩ := trodVars_none hV
  rw [show Rows.segmentNumbersSpec.plain.varTypes Try.checked.prog = [] from by kernel_rfl, List.append_nil, List.append_nil] at hsz0
  have hsz : (DataW.weightsEach Try.prog Try.f6.params.toList ds).all (· ≤ reachBytes) = true := hsz0
  rw [Try.params6] at hA hval hsz
  have walk : Calls Try.prog 6 args W fun e W' => e = .returned (.bool true) ∧ ∃ w' m', Rel W W.heap.size m' w' W' :=
    walkD (dd := 8) (ts := []) host Try.func6 rfl (fun t ht => List.all_eq_true.1 (show ([] : List TypeId).all (okT Try.prog 8) = true from by kernel_rfl) t ht) law
      (fun j t v h1 h2 => hval j t v (by rw [← Array.getElem?_toList]; exact h1) (by rw [← Array.getElem?_toList]; exact h2)) hA hsz
  refine walk.mono fun e W' ⟨he, w', m', hrel⟩ => ?_
  subst he
  have hlen : ds.length = 0 := trodAll_len hA
  obtain rfl : ds = [] := List.length_eq_zero_iff.1 hlen
  exact ⟨_, rfl, post_law (tb := 4) 6 (fun t ht => List.all_eq_true.1 (show (Try.f6.params.toList).all (plainT Try.prog 6) = true from by kernel_rfl) t ht) rfl rfl Try.underlying4 rfl rfl hW' (hrel.kept _) hrel.old.2 hrel.frozen (ok_one (by kernel_rfl) rfl (okWide_bool_mk Try.underlying4 _))⟩

theorem over : Rows.segmentNumbersRow.holds Try.pinned (OpenSpec.ofChange Rows.segmentNumbersSpec) :=
  OpenClaim.holds_of_wide 6 Try.f6 rfl rfl rfl rfl rfl rfl rfl ⟨rfl, rfl, rfl, rfl, rfl⟩ rfl rfl rfl rfl rfl (by kernel_rfl) Try.func6 (by kernel_rfl)
    (of_decide_eq_true (by kernel_rfl)) (by unfold Func.isWrapper; first | (rw [if_pos (by decide +kernel)]; kernel_rfl) | (rw [if_neg (by decide +kernel)]; exact ⟨rfl, rfl⟩))
    (fun os started H enc _ => lifted os started H enc)

theorem proved : Rows.SegmentNumbersSaid :=
  over
#print axioms proved
end Go.Proofs.Ytdlogcincelccaa.segmentNumbers
