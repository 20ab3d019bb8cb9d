/-
  conduitlaw07.FileNumbers: the closed law answers true.
  No condition.
-/
import Derived.Test.YtbjeebgdjlemjaaRows
import Derived.Test.YtbjeebgdjlemjaaSxm
import Derived.Test.YtbjeebgdjlemjaaG07
import Derived.WalkKit
import Derived.Shelf.SortM.Plain
import Derived.Shelf.SortM.SortNone
import Derived.Ground.GgzProg
import Derived.Ground.SlgmProg
namespace Go.Proofs
open Go.RowKit Go.Maps Go.Sort Go.Shelf
shelf_lay_g SlLaysZ.n7 Ggz 7 at Try 56 as Try.keyshk0
shelf_lay_g SlLaysZ.n6 Ggz 6 at Try 55 as Try.sortedhk0
shelf_lay_g SlLaysM.n6 Slgm 6 at Try 75 as Try.sorthk0
theorem Try.sortshk0 (m : Nat) : AnyZ.SortsIn Try.prog Try.sortedhk0_ren Fence.wide m :=
  ⟨fun blk off cap ss W hH hblk hsz => callsIn_wide.2 (AnyM.slices_Sort_string Try.sorthk0 blk off cap ss W hH hblk hsz),
   fun p cap W => callsIn_wide.2 (AnyM.slices_Sort_string_none Try.sorthk0 p cap W)⟩
theorem Try.contracthk0 : Go.Sx.SortC Try.prog Go.Sx.kindS 55 76 9 :=
  Go.Sx.sortC_str (ρ := Try.sortedhk0_ren) (ρ' := Try.keyshk0_ren) { Try.keyshk0 with } Try.sortedhk0 Try.sortshk0 (enters_of Try.func75 (by kernel_rfl) rfl) (enters_of Try.func76 (by kernel_rfl) rfl) Try.underlying9
end Go.Proofs
namespace Go.Proofs.Ytbjeebgdjlemjaa.fileNumbers
open Go.ChangeShapes Go.WideShapes Go.ChangeAt Go.RowKit Go.Sx

noncomputable def hooks0 : List HR := [⟨55, hookS kindS 55 76⟩, ⟨17, hookAny Try.prog 17⟩]
theorem hooks0_ok : ∀ h ∈ hooks0, HRok Try.prog h := by
  intro h hh
  simp only [hooks0, List.mem_cons, List.not_mem_nil, or_false] at hh
  rcases hh with rfl | rfl
  · exact hookS_ok kindS_good Try.contracthk0 Try.func55 rfl
  · exact hookAny_ok (by kernel_rfl) (by kernel_rfl) (by kernel_rfl) Try.func17 rfl
set_option maxRecDepth 100000 in
theorem apart14 : kN Try.prog (hookOf hooks0) 100000 (.call 14 [] ⟨1, .nil⟩) (says (.bool true)) = true := by kernel_rfl
theorem getN_nil : ∀ (n b : Nat), Tr.getN n (Tr.nil : Tr AO) b = none
  | 0, _ => rfl
  | _ + 1, _ => rfl
theorem mem1 : Mem ⟨1, .nil⟩ := by
  have h : ∀ b, (⟨1, .nil⟩ : AW).get b = none := fun b => getN_nil b b
  exact ⟨fun b o e => (by rw [h] at e; cases e), fun b cs f own d e => (by rw [h] at e; cases e)⟩
noncomputable def hooksL : List HR := [⟨14, hookApart [] (.bool true)⟩, ⟨55, hookS kindS 55 76⟩]
theorem hooksL_ok : ∀ h ∈ hooksL, HRok Try.prog h := by
  intro h hh
  simp only [hooksL, List.mem_cons, List.not_mem_nil, or_false] at hh
  rcases hh with rfl | rfl
  · exact hookApart_ok (fun _ _ => host_hooks hooks0_ok (by kernel_rfl) (by kernel_rfl) (by kernel_rfl)) rfl rfl (by kernel_rfl) apart14 Try.func14 rfl
  · exact hookS_ok kindS_good Try.contracthk0 Try.func55 rfl
theorem hk_ok : HK (hookOf hooksL) := by
  refine ⟨fun f a w h1 h2 => ?_, fun a w x h => ?_, fun w => rfl⟩
  · show Bool.rec (motive := fun _ => Option (Option (AV × AW))) (Bool.rec (motive := fun _ => Option (Option (AV × AW))) none _ (Nat.beq f 55)) _ (Nat.beq f 14) = none
    rw [beq_ff h1, beq_ff h2]
  · show (match hookS kindS 55 76 w a with | some x => some (some x) | none => none) = some (some x)
    rw [h]
noncomputable def hooks : List HR := [⟨34, hookApart [] (.bool true)⟩, ⟨14, hookApart [] (.bool true)⟩, ⟨17, hookAny Try.prog 17⟩, ⟨55, hookS kindS 55 76⟩]
theorem hooks_ok : ∀ h ∈ hooks, HRok Try.prog h := by
  intro h hh
  simp only [hooks, List.mem_cons, List.not_mem_nil, or_false] at hh
  rcases hh with rfl | rfl | rfl | rfl
  · exact hookApart_wp (fun _ _ => host_hooks hooksL_ok (by kernel_rfl) (by kernel_rfl) (by kernel_rfl)) rfl rfl (by kernel_rfl) (s34 hk_ok mem1 (by decide)) Try.func34 rfl
  · exact hookApart_ok (fun _ _ => host_hooks hooks0_ok (by kernel_rfl) (by kernel_rfl) (by kernel_rfl)) rfl rfl (by kernel_rfl) apart14 Try.func14 rfl
  · exact hookAny_ok (by kernel_rfl) (by kernel_rfl) (by kernel_rfl) Try.func17 rfl
  · exact hookS_ok kindS_good Try.contracthk0 Try.func55 rfl
theorem own : ownKnob Try.prog.godebug = none := by kernel_rfl

set_option maxRecDepth 100000 in
theorem ev : kN Try.prog (hookOf hooks) 1000000 (.call 7 [] ⟨1, .nil⟩) saysTrue = true := by kernel_rfl

set_option maxRecDepth 100000 in
theorem walk (W : World) : Calls Try.prog 7 #[] W fun e W' => e = .returned (.bool true) ∧ ∃ w' m', Rel W W.heap.size m' w' W' :=
  walkK (host_hooks hooks_ok (by kernel_rfl) (by kernel_rfl) (by kernel_rfl)) (by kernel_rfl) ev Try.func7 rfl (Rel.start W) (cargs := #[]) rfl

set_option maxRecDepth 100000 in
theorem lifted (os : Os) (started : os.Started) (H : Type) (enc : TypeId × Value → H) :
    ReturnsInHanded {} Try.checked os 7 .any (Rows.fileNumbersSpec.pre6 enc Try.prog Try.f7 Rows.fileNumbersRow.domain false) (Rows.fileNumbersSpec.post enc Try.prog Try.f7 false true false false) := by
  refine returnsInHanded_of_change (C := Try.checked) own started (by kernel_rfl) Try.func7
    (ChangeSpec.witness6 (enc := enc) (C := Try.checked) false ⟨#[], #[], []⟩ 8 (by kernel_rfl) (by kernel_rfl) (by kernel_rfl) (by kernel_rfl)) ?_
  intro W base args ds gs before hval0 hW hcnd _
  have hW' := hW
  obtain ⟨p, q, hA0, hV, rfl, hfz, hnd⟩ := hW
  have hA : DataW.TrodAll enc Try.prog W 0 (fun _ => true) true Try.f7.params.toList args.toList ds p := hA0
  rw [Try.params7] at hA
  obtain ⟨rfl, rfl, rfl⟩ := trodAll_none hA
  obtain ⟨rfl, rfl⟩ := trodVars_none hV
  refine (walk W).mono fun e W' ⟨he, w', m', hrel⟩ => ?_
  subst he
  exact ⟨_, rfl, post_law (tb := 4) 6 (fun t ht => List.all_eq_true.1 (show (Try.f7.params.toList).all (plainT Try.prog 6) = true from by kernel_rfl) t ht) rfl rfl Try.underlying4 rfl rfl hW' (hrel.kept _) hrel.old.2 hrel.frozen (ok_one (by kernel_rfl) rfl (okWide_bool_mk Try.underlying4 _))⟩

theorem over : Rows.fileNumbersRow.holds Try.pinned (OpenSpec.ofChange Rows.fileNumbersSpec) :=
  OpenClaim.holds_of_wide 7 Try.f7 rfl rfl rfl rfl rfl rfl rfl ⟨rfl, rfl, rfl, rfl, rfl⟩ rfl rfl rfl rfl rfl (by kernel_rfl) Try.func7 (by kernel_rfl)
    (of_decide_eq_true (by kernel_rfl)) (by unfold Func.isWrapper; first | (rw [if_pos (by decide +kernel)]; kernel_rfl) | (rw [if_neg (by decide +kernel)]; exact ⟨rfl, rfl⟩))
    (fun os started H enc _ => lifted os started H enc)

theorem proved : Rows.FileNumbersSaid :=
  over
#print axioms proved
end Go.Proofs.Ytbjeebgdjlemjaa.fileNumbers

