/-
  conduitlaw11.CheckNumbers: the closed law answers true.
  No condition.
-/
import Derived.Test.YtgobllfkiannfaaRows
import Derived.Test.YtgobllfkiannfaaSxm
import Derived.WalkKit
import Derived.Shelf.SortM.Plain
import Derived.Shelf.SortM.SortNone
import Derived.Ground.GgzProg
import Derived.Ground.SlgmProg
namespace Go.Proofs
open Go.RowKit Go.Maps Go.Sort Go.Shelf
shelf_lay_g SlLaysZ.n7 Ggz 7 at Try 52 as Try.keyshk0
shelf_lay_g SlLaysZ.n6 Ggz 6 at Try 51 as Try.sortedhk0
shelf_lay_g SlLaysM.n6 Slgm 6 at Try 76 as Try.sorthk0
theorem Try.sortshk0 (m : Nat) : AnyZ.SortsIn Try.prog Try.sortedhk0_ren Fence.wide m :=
  ⟨fun blk off cap ss W hH hblk hsz => callsIn_wide.2 (AnyM.slices_Sort_string Try.sorthk0 blk off cap ss W hH hblk hsz),
   fun p cap W => callsIn_wide.2 (AnyM.slices_Sort_string_none Try.sorthk0 p cap W)⟩
theorem Try.contracthk0 : Go.Sx.SortC Try.prog Go.Sx.kindS 51 77 9 :=
  Go.Sx.sortC_str (ρ := Try.sortedhk0_ren) (ρ' := Try.keyshk0_ren) { Try.keyshk0 with } Try.sortedhk0 Try.sortshk0 (enters_of Try.func76 (by kernel_rfl) rfl) (enters_of Try.func77 (by kernel_rfl) rfl) Try.underlying9
end Go.Proofs
namespace Go.Proofs.Ytgobllfkiannfaa.checkNumbers
open Go.ChangeShapes Go.WideShapes Go.ChangeAt Go.RowKit Go.Sx

noncomputable def hooks : List HR := [⟨51, hookS kindS 51 77⟩, ⟨13, hookAny Try.prog 13⟩]
theorem hooks_ok : ∀ h ∈ hooks, HRok Try.prog h := by
  intro h hh
  simp only [hooks, List.mem_cons, List.not_mem_nil, or_false] at hh
  rcases hh with rfl | rfl
  · exact hookS_ok kindS_good Try.contracthk0 Try.func51 rfl
  · exact hookAny_ok (by kernel_rfl) (by kernel_rfl) (by kernel_rfl) Try.func13 rfl

theorem own : ownKnob Try.prog.godebug = none := by kernel_rfl

set_option maxRecDepth 100000 in
theorem ev : kN Try.prog (hookOf hooks) 100000 (.call 3 [] ⟨1, .nil⟩) saysTrue = true := by kernel_rfl

set_option maxRecDepth 100000 in
theorem walk (W : World) : Calls Try.prog 3 #[] W fun e W' => e = .returned (.bool true) ∧ ∃ w' m', Rel W W.heap.size m' w' W' :=
  walkK (host_hooks hooks_ok (by kernel_rfl) (by kernel_rfl) (by kernel_rfl)) (by kernel_rfl) ev Try.func3 rfl (Rel.start W) (cargs := #[]) rfl

set_option maxRecDepth 100000 in
theorem lifted (os : Os) (started : os.Started) (H : Type) (enc : TypeId × Value → H) :
    ReturnsInHanded {} Try.checked os 3 .any (Rows.checkNumbersSpec.pre6 enc Try.prog Try.f3 Rows.checkNumbersRow.domain false) (Rows.checkNumbersSpec.post enc Try.prog Try.f3 false true false false) := by
  refine returnsInHanded_of_change (C := Try.checked) own started (by kernel_rfl) Try.func3
    (ChangeSpec.witness6 (enc := enc) (C := Try.checked) false ⟨#[], #[], []⟩ 8 (by kernel_rfl) (by kernel_rfl) (by kernel_rfl) (by kernel_rfl)) ?_
  intro W base args ds gs before hval0 hW hcnd _
  have hW' := hW
  obtain ⟨p, q, hA0, hV, rfl, hfz, hnd⟩ := hW
  have hA : DataW.TrodAll enc Try.prog W 0 (fun _ => true) true Try.f3.params.toList args.toList ds p := hA0
  rw [Try.params3] at hA
  obtain ⟨rfl, rfl, rfl⟩ := trodAll_none hA
  obtain ⟨rfl, rfl⟩ := trodVars_none hV
  refine (walk W).mono fun e W' ⟨he, w', m', hrel⟩ => ?_
  subst he
  exact ⟨_, rfl, post_law (tb := 4) 6 (fun t ht => List.all_eq_true.1 (show (Try.f3.params.toList).all (plainT Try.prog 6) = true from by kernel_rfl) t ht) rfl rfl Try.underlying4 rfl rfl hW' (hrel.kept _) hrel.old.2 hrel.frozen (ok_one (by kernel_rfl) rfl (okWide_bool_mk Try.underlying4 _))⟩

theorem over : Rows.checkNumbersRow.holds Try.pinned (OpenSpec.ofChange Rows.checkNumbersSpec) :=
  OpenClaim.holds_of_wide 3 Try.f3 rfl rfl rfl rfl rfl rfl rfl ⟨rfl, rfl, rfl, rfl, rfl⟩ rfl rfl rfl rfl rfl (by kernel_rfl) Try.func3 (by kernel_rfl)
    (of_decide_eq_true (by kernel_rfl)) (by unfold Func.isWrapper; first | (rw [if_pos (by decide +kernel)]; kernel_rfl) | (rw [if_neg (by decide +kernel)]; exact ⟨rfl, rfl⟩))
    (fun os started H enc _ => lifted os started H enc)

theorem proved : Rows.CheckNumbersSaid :=
  over
#print axioms proved
end Go.Proofs.Ytgobllfkiannfaa.checkNumbers
