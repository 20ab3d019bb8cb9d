/-
  conduitlaw23.RaftNumbers: the closed law answers true.
  No condition.
-/
import Derived.Test.YtghoifolghelnaaRows
import Derived.Test.YtghoifolghelnaaSxk
import Derived.WalkKit
namespace Go.Proofs.Ytghoifolghelnaa.raftNumbers
open Go.ChangeShapes Go.WideShapes Go.ChangeAt Go.RowKit Go.Sx

theorem own : ownKnob Try.prog.godebug = none := by kernel_rfl

set_option maxRecDepth 100000 in
theorem ev : kN Try.prog noHook 100000 (.call 3 [] ⟨1, .nil⟩) saysTrue = true := by kernel_rfl

set_option maxRecDepth 100000 in
theorem walk (W : World) : Calls Try.prog 3 #[] W fun e W' => e = .returned (.bool true) ∧ ∃ w' m', Rel W W.heap.size m' w' W' :=
  walkK (host_plain (by kernel_rfl) (by kernel_rfl) (by kernel_rfl)) rfl ev Try.func3 rfl (Rel.start W) (cargs := #[]) rfl

set_option maxRecDepth 100000 in
theorem lifted (os : Os) (started : os.Started) (H : Type) (enc : TypeId × Value → H) :
    ReturnsInHanded {} Try.checked os 3 .any (Rows.raftNumbersSpec.pre6 enc Try.prog Try.f3 Rows.raftNumbersRow.domain false) (Rows.raftNumbersSpec.post enc Try.prog Try.f3 false true false false) := by
  refine returnsInHanded_of_change (C := Try.checked) own started (by kernel_rfl) Try.func3
    (ChangeSpec.witness6 (enc := enc) (C := Try.checked) false ⟨#[], #[], []⟩ 8 (by kernel_rfl) (by kernel_rfl) (by kernel_rfl) (by kernel_rfl)) ?_
  intro W base args ds gs before hval0 hW hcnd _
  have hW' := hW
  obtain ⟨p, q, hA0, hV, rfl, hfz, hnd⟩ := hW
  have hA : DataW.TrodAll enc Try.prog W 0 (fun _ => true) true Try.f3.params.toList args.toList ds p := hA0
  rw [Try.params3] at hA
  obtain ⟨rfl, rfl, rfl⟩ := trodAll_none hA
  obtain ⟨rfl, rfl⟩ := trodVars_none hV
  refine (walk W).mono fun e W' ⟨he, w', m', hrel⟩ => ?_
  subst he
  exact ⟨_, rfl, post_law (tb := 4) 6 (fun t ht => List.all_eq_true.1 (show (Try.f3.params.toList).all (plainT Try.prog 6) = true from by kernel_rfl) t ht) rfl rfl Try.underlying4 rfl rfl hW' (hrel.kept _) hrel.old.2 hrel.frozen (ok_one (by kernel_rfl) rfl (okWide_bool_mk Try.underlying4 _))⟩

theorem over : Rows.raftNumbersRow.holds Try.pinned (OpenSpec.ofChange Rows.raftNumbersSpec) :=
  OpenClaim.holds_of_wide 3 Try.f3 rfl rfl rfl rfl rfl rfl rfl ⟨rfl, rfl, rfl, rfl, rfl⟩ rfl rfl rfl rfl rfl (by kernel_rfl) Try.func3 (by kernel_rfl)
    (of_decide_eq_true (by kernel_rfl)) (by unfold Func.isWrapper; first | (rw [if_pos (by decide +kernel)]; kernel_rfl) | (rw [if_neg (by decide +kernel)]; exact ⟨rfl, rfl⟩))
    (fun os started H enc _ => lifted os started H enc)

theorem proved : Rows.RaftNumbersSaid :=
  over
#print axioms proved
end Go.Proofs.Ytghoifolghelnaa.raftNumbers
