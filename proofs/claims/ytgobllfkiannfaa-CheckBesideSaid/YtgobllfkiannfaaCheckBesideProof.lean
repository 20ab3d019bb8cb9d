/-
  conduitlaw11.CheckBeside: whatever the arguments are, the law answers true and the arguments read behind the call as before.
  No condition.
-/
import Derived.Test.YtgobllfkiannfaaRows
import Derived.Test.YtgobllfkiannfaaSB11
import Derived.Test.YtgobllfkiannfaaSxq
import Derived.Test.YtgobllfkiannfaaSxt
import Derived.Test.YtgobllfkiannfaaSxm
import Derived.WalkKit
import Derived.SizedLaws
import Derived.Shelf.SortM.Plain
import Derived.Shelf.SortM.SortNone
import Derived.Ground.GgzProg
import Derived.Ground.SlgmProg
set_option linter.unusedSimpArgs false
set_option linter.unusedVariables false
namespace Go.Proofs
open Go.RowKit Go.Maps Go.Sort Go.Shelf
shelf_lay_g SlLaysZ.n7 Ggz 7 at Try 52 as Try.keyshk0
shelf_lay_g SlLaysZ.n6 Ggz 6 at Try 51 as Try.sortedhk0
shelf_lay_g SlLaysM.n6 Slgm 6 at Try 76 as Try.sorthk0
theorem Try.sortshk0 (m : Nat) : AnyZ.SortsIn Try.prog Try.sortedhk0_ren Fence.wide m :=
  ⟨fun blk off cap ss W hH hblk hsz => callsIn_wide.2 (AnyM.slices_Sort_string Try.sorthk0 blk off cap ss W hH hblk hsz),
   fun p cap W => callsIn_wide.2 (AnyM.slices_Sort_string_none Try.sorthk0 p cap W)⟩
theorem Try.contracthk0 : Go.Sx.SortC Try.prog Go.Sx.kindS 51 77 9 :=
  Go.Sx.sortC_str (ρ := Try.sortedhk0_ren) (ρ' := Try.keyshk0_ren) { Try.keyshk0 with } Try.sortedhk0 Try.sortshk0 (enters_of Try.func76 (by kernel_rfl) rfl) (enters_of Try.func77 (by kernel_rfl) rfl) Try.underlying9
end Go.Proofs

namespace Go.Proofs.Ytgobllfkiannfaa.checkBeside
open Go.Sx

noncomputable def hooks0 : List HR := [⟨51, hookS kindS 51 77⟩]
theorem hooks0_ok : ∀ h ∈ hooks0, HRok Try.prog h := by
  intro h hh
  simp only [hooks0, List.mem_cons, List.not_mem_nil, or_false] at hh
  subst hh
  exact hookS_ok kindS_good Try.contracthk0 Try.func51 rfl
set_option maxRecDepth 100000 in
theorem apart16 : kN Try.prog (hookOf hooks0) 100000 (.call 16 [] ⟨1, .nil⟩) (says (.bool true)) = true := by kernel_rfl
noncomputable def hooks : List HR := [⟨16, hookApart [] (.bool true)⟩, ⟨51, hookS kindS 51 77⟩]
theorem hooks_ok : ∀ h ∈ hooks, HRok Try.prog h := by
  intro h hh
  simp only [hooks, List.mem_cons, List.not_mem_nil, or_false] at hh
  rcases hh with rfl | rfl
  · exact hookApart_ok (fun _ _ => host_hooks hooks0_ok (by kernel_rfl) (by kernel_rfl) (by kernel_rfl)) rfl rfl (by kernel_rfl) apart16 Try.func16 rfl
  · exact hookS_ok kindS_good Try.contracthk0 Try.func51 rfl

theorem host {W : World} {n : Nat} : Host Try.prog (hookOf hooks) W n := host_hooks hooks_ok (by kernel_rfl) (by kernel_rfl) (by kernel_rfl)
theorem hk_ok : HK (hookOf hooks) := by
  refine ⟨fun f a w h1 h2 => ?_, fun a w x h => ?_, fun w => rfl⟩
  · show Bool.rec (motive := fun _ => Option (Option (AV × AW))) (Bool.rec (motive := fun _ => Option (Option (AV × AW))) none _ (Nat.beq f 51)) _ (Nat.beq f 16) = none
    rw [beq_ff h1, beq_ff h2]
  · show (match hookS kindS 51 77 w a with | some x => some (some x) | none => none) = some (some x)
    rw [h]
theorem law (css : List (List AV)) (avs : List AV) (h : DtAll Try.prog css [9, 9, 26, 26] avs) : hookOf hooks 5 avs (argL css) = none ∧ Cl Try.prog (hookOf hooks) 5 avs (argL css) fun v _ => v = .bool true := by
  obtain ⟨a, _, rfl, h1, b, _, rfl, h2, c, _, rfl, h3, d, _, rfl, h4, rfl⟩ := h
  obtain ⟨s1, e1, _⟩ := h1.rdS Try.underlying9
  obtain ⟨s2, e2, _⟩ := h2.rdS Try.underlying9
  obtain rfl : a = .str s1 := by simpa using e1
  obtain rfl : b = .str s2 := by simpa using e2
  obtain ⟨l3, h3, _⟩ := Dt.rdB (v := c) Try.underlying26 Try.underlying5 (by kernel_rfl) (by kernel_rfl) h3
  obtain ⟨l4, h4, _⟩ := Dt.rdB (v := d) Try.underlying26 Try.underlying5 (by kernel_rfl) (by kernel_rfl) h4
  exact ⟨hk_ok.no _ _ _ (by decide) (by decide), s5 hk_ok Pv.arg h3 h4⟩
end Go.Proofs.Ytgobllfkiannfaa.checkBeside

namespace Go.Proofs.Ytgobllfkiannfaa.checkBeside
open Go.ChangeShapes Go.WideShapes Go.ChangeAt Go.RowKit Go.Sx
theorem own : ownKnob Try.prog.godebug = none := by kernel_rfl

set_option maxRecDepth 100000 in
theorem lifted (os : Os) (started : os.Started) (H : Type) (enc : TypeId × Value → H) :
    ReturnsInHanded {} Try.checked os 5 .any (Rows.checkBesideSpec.pre6 enc Try.prog Try.f5 Rows.checkBesideRow.domain false) (Rows.checkBesideSpec.post enc Try.prog Try.f5 false true false false) := by
  refine returnsInHanded_of_change_sized (C := Try.checked) own started (by kernel_rfl) Try.func5
    (ChangeSpec.witness6 (enc := enc) (C := Try.checked) false ⟨#[], #[.string ⟨#[]⟩, .string ⟨#[]⟩, .slice none 0 0, .slice none 0 0], []⟩ 8 (by kernel_rfl) (by kernel_rfl) (by kernel_rfl) (by kernel_rfl)) ?_
  intro W base args ds gs before hval0 hW hcnd hsz0 _
  have hval : ∀ (j : Nat) t v, Try.f5.params[j]? = some t → args[j]? = some v → Value.okWide Try.prog W .any base t v := hval0
  have hW' := hW
  obtain ⟨p, q, hA0, hV, rfl, hfz, hnd⟩ := hW
  have hA : DataW.TrodAll enc Try.prog W 0 (fun _ => true) true Try.f5.params.toList args.toList ds p := hA0
  obtain ⟨rfl, rfl⟩ := trodVars_none hV
  rw [show Rows.checkBesideSpec.plain.varTypes Try.checked.prog = [] from by kernel_rfl, List.append_nil, List.append_nil] at hsz0
  have hsz : (DataW.weightsEach Try.prog Try.f5.params.toList ds).all (· ≤ reachBytes) = true := hsz0
  rw [Try.params5] at hA hval hsz
  have walk : Calls Try.prog 5 args W fun e W' => e = .returned (.bool true) ∧ ∃ w' m', Rel W W.heap.size m' w' W' :=
    walkD (dd := 8) (ts := [9, 9, 26, 26]) host Try.func5 rfl (fun t ht => List.all_eq_true.1 (show ([9, 9, 26, 26] : List TypeId).all (okT Try.prog 8) = true from by kernel_rfl) t ht) law
      (fun j t v h1 h2 => hval j t v (by rw [← Array.getElem?_toList]; exact h1) (by rw [← Array.getElem?_toList]; exact h2)) hA hsz
  refine walk.mono fun e W' ⟨he, w', m', hrel⟩ => ?_
  subst he
  have hlen : ds.length = 4 := trodAll_len hA
  have hfn : ∃ d0 d1 d2 d3, ds = [d0, d1, d2, d3] := by
    match ds, hlen with
    | [d0, d1, d2, d3], _ => exact ⟨d0, d1, d2, d3, rfl⟩
  obtain ⟨d0, d1, d2, d3, rfl⟩ := hfn
  exact ⟨_, rfl, post_law (tb := 4) 6 (fun t ht => List.all_eq_true.1 (show (Try.f5.params.toList).all (plainT Try.prog 6) = true from by kernel_rfl) t ht) rfl rfl Try.underlying4 rfl rfl hW' (hrel.kept _) hrel.old.2 hrel.frozen (ok_one (by kernel_rfl) rfl (okWide_bool_mk Try.underlying4 _))⟩

theorem over : Rows.checkBesideRow.holds Try.pinned (OpenSpec.ofChange Rows.checkBesideSpec) :=
  OpenClaim.holds_of_wide 5 Try.f5 rfl rfl rfl rfl rfl rfl rfl ⟨rfl, rfl, rfl, rfl, rfl⟩ rfl rfl rfl rfl rfl (by kernel_rfl) Try.func5 (by kernel_rfl)
    (of_decide_eq_true (by kernel_rfl)) (by unfold Func.isWrapper; first | (rw [if_pos (by decide +kernel)]; kernel_rfl) | (rw [if_neg (by decide +kernel)]; exact ⟨rfl, rfl⟩))
    (fun os started H enc _ => lifted os started H enc)

theorem proved : Rows.CheckBesideSaid :=
  over
#print axioms proved
end Go.Proofs.Ytgobllfkiannfaa.checkBeside
