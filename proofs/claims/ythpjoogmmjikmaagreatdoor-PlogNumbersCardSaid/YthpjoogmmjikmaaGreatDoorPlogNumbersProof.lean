/-
  conduitlaw10.PlogNumbers: the closed law answers true.
  No condition.
-/
import Derived.Test.YthpjoogmmjikmaaGreatDoorRows
import Derived.Test.YthpjoogmmjikmaaGreatDoorSxl
import Derived.WalkKit
import Derived.Test.YthpjoogmmjikmaaGreatDoorCards
import Derived.Test.YthpjoogmmjikmaaGreatDoorTie
import Derived.ProofKit
import Derived.OpenShut
import Derived.LaidMore
import Derived.Lay
import Derived.SevenTiedAt
import Derived.Stop.Joined
import Derived.Shelf.SortM.Plain
import Derived.Shelf.SortM.SortNone
import Derived.Ground.GgzProg
import Derived.Ground.SlgmProg
namespace Go.Proofs
open Go.RowKit Go.Maps Go.Sort Go.Shelf
shelf_lay_g SlLaysZ.n7 Ggz 7 at Tryz 74 as Tryz.keyshk0
shelf_lay_g SlLaysZ.n6 Ggz 6 at Tryz 73 as Tryz.sortedhk0
shelf_lay_g SlLaysM.n6 Slgm 6 at Tryz 111 as Tryz.sorthk0
theorem Tryz.sortshk0 (m : Nat) : AnyZ.SortsIn Tryz.prog Tryz.sortedhk0_ren Fence.wide m :=
  ⟨fun blk off cap ss W hH hblk hsz => callsIn_wide.2 (AnyM.slices_Sort_string Tryz.sorthk0 blk off cap ss W hH hblk hsz),
   fun p cap W => callsIn_wide.2 (AnyM.slices_Sort_string_none Tryz.sorthk0 p cap W)⟩
theorem Tryz.contracthk0 : Go.Sx.SortC Tryz.prog Go.Sx.kindS 73 112 9 :=
  Go.Sx.sortC_str (ρ := Tryz.sortedhk0_ren) (ρ' := Tryz.keyshk0_ren) { Tryz.keyshk0 with } Tryz.sortedhk0 Tryz.sortshk0 (enters_of Tryz.func111 (by kernel_rfl) rfl) (enters_of Tryz.func112 (by kernel_rfl) rfl) Tryz.underlying9
end Go.Proofs
namespace Go.Proofs.YthpjoogmmjikmaaGreatDoor.plogNumbers
open Go.ChangeShapes Go.WideShapes Go.ChangeAt Go.RowKit Go.Sx

noncomputable def hooks : List HR := [⟨73, hookS kindS 73 112⟩]
theorem hooks_ok : ∀ h ∈ hooks, HRok Tryz.prog h := by
  intro h hh
  simp only [hooks, List.mem_cons, List.not_mem_nil, or_false] at hh
  subst hh
  exact hookS_ok kindS_good Tryz.contracthk0 Tryz.func73 rfl

theorem own : ownKnob Tryz.prog.godebug = none := by kernel_rfl

set_option maxRecDepth 100000 in
theorem ev : kN Tryz.prog (hookOf hooks) 100000 (.call 6 [] ⟨1, .nil⟩) saysTrue = true := by kernel_rfl

set_option maxRecDepth 100000 in
theorem walk (W : World) : Calls Tryz.prog 6 #[] W fun e W' => e = .returned (.bool true) ∧ ∃ w' m', Rel W W.heap.size m' w' W' :=
  walkK (host_hooks hooks_ok (by kernel_rfl) (by kernel_rfl) (by kernel_rfl)) (by kernel_rfl) ev Tryz.func6 rfl (Rel.start W) (cargs := #[]) rfl

set_option maxRecDepth 100000 in
theorem lifted (os : Os) (started : os.Started) (H : Type) (enc : TypeId × Value → H) :
    ReturnsInHanded {} Tryz.checked os 6 .any (fun w args => (Rows.plogNumbersSpec.pre enc Tryz.prog Tryz.f6 [] false w args ∧ laidMetH Tryz.prog Rows.plogNumbersRow.laid w) ∧ sizedMet enc Tryz.prog Tryz.f6 (OpenSpec.ofChange Rows.plogNumbersSpec) false w args) (Rows.plogNumbersSpec.post enc Tryz.prog Tryz.f6 false true false false) := by
  refine returnsInHanded_of_change_and (C := Tryz.checked) (X := fun w _ => laidMetH Tryz.prog Rows.plogNumbersRow.laid w) (fun _ _ _ hh h => h.of_heap hh) own started (by kernel_rfl) Tryz.func6
    (ChangeSpec.witness_shaped (enc := enc) (C := Tryz.checked) (os := os) (X := fun w _ => laidMetH Tryz.prog Rows.plogNumbersRow.laid w) false (World.laidAll Tryz.prog os Rows.plogNumbersRow.laid) #[] 8 (World.laidAll_os _ _ _)
      (World.shaped_of_ZipB (by kernel_rfl) (by kernel_rfl)) (by kernel_rfl) (by kernel_rfl) (by kernel_rfl)
      (by rw [MakeChecks.laidMetH_plain _ _ _ (by kernel_rfl)]; exact laidMet_laidAll _ (by kernel_rfl) (by kernel_rfl))) ?_
  intro W base args ds gs before hval0 hW _ _ hL _
  have hW' := hW
  obtain ⟨p, q, hA0, hV, rfl, hfz, hnd⟩ := hW
  have hA : DataW.TrodAll enc Tryz.prog W 0 (fun _ => true) true Tryz.f6.params.toList args.toList ds p := hA0
  rw [Tryz.params6] at hA
  obtain ⟨rfl, rfl, rfl⟩ := trodAll_none hA
  obtain ⟨rfl, rfl⟩ := trodVars_none hV
  refine (walk W).mono fun e W' ⟨he, w', m', hrel⟩ => ?_
  subst he
  exact ⟨_, rfl, post_law (tb := 4) 6 (fun t ht => List.all_eq_true.1 (show (Tryz.f6.params.toList).all (plainT Tryz.prog 6) = true from by kernel_rfl) t ht) rfl rfl Tryz.underlying4 rfl rfl hW' (hrel.kept _) hrel.old.2 hrel.frozen (ok_one (by kernel_rfl) rfl (okWide_bool_mk Tryz.underlying4 _))⟩

theorem over : Rows.plogNumbersRow.holds Tryz.pinned (OpenSpec.ofChange Rows.plogNumbersSpec) :=
  OpenClaim.holds_of_wide 6 Tryz.f6 rfl rfl rfl rfl rfl rfl rfl ⟨rfl, rfl, rfl, rfl, rfl⟩ rfl rfl rfl rfl rfl (by kernel_rfl) Tryz.func6 (by kernel_rfl)
    (of_decide_eq_true (by kernel_rfl)) (by unfold Func.isWrapper; first | (rw [if_pos (by decide +kernel)]; kernel_rfl) | (rw [if_neg (by decide +kernel)]; exact ⟨rfl, rfl⟩))
    (fun os started H enc _ => lifted os started H enc)

theorem proved : Rows.PlogNumbersCardSaid :=
  Claim7.holds_tied_plain_at .later [] [.data, .data, .data, .data, .sentinel, .sentinel, .pinned] true (true, "caa593ef779d57136109de5a835d83d81e567412518daf6cc50ed40181169c33") true over (fun _ h => by cases h) (by kernel_rfl) (fun _ h => by cases h) plogNumbers_row_tie rfl ⟨rfl, rfl⟩ (by kernel_rfl) rfl
    (fun f fn hf hfn => by
      obtain rfl : f = 6 := Option.some.inj ((show Tryz.prog.funcNamed "conduit/conduitlaw10.PlogNumbers" = some 6 by kernel_rfl).symm.trans hf) |>.symm
      obtain rfl : fn = Tryz.f6 := (Option.some.inj (Tryz.func6.symm.trans hfn)).symm
      exact ⟨by kernel_rfl, fun j t ht => by
        rw [Tryz.params6] at ht
        simp at ht⟩)
    (by kernel_rfl)
#print axioms proved
end Go.Proofs.YthpjoogmmjikmaaGreatDoor.plogNumbers
