/-
  conduitlaw22.CommitTells: whatever the arguments are, the law answers true and the arguments read behind the call as before.
  No condition.
-/
import Derived.Test.YtcmkgjaclhpafaaRows
import Derived.Test.YtcmkgjaclhpafaaB22
import Derived.Test.YtcmkgjaclhpafaaSxm
import Derived.Test.YtcmkgjaclhpafaaSxo
import Derived.WalkKit
import Derived.Shelf.SortM.Plain
import Derived.Shelf.SortM.SortNone
import Derived.Ground.SlgmProg
set_option linter.unusedSimpArgs false
set_option linter.unusedVariables false
namespace Go.Proofs
open Go.RowKit Go.Maps Go.Sort Go.Shelf
shelf_lay_g SlLaysM.n5 Slgm 5 at Try 26 as Try.sorthk0
theorem Try.sortPhk0 : Go.Sx.SortP Try.prog 26 :=
  ⟨fun blk off cap ss W h1 h2 h3 => AnyM.slices_Sort_int Try.sorthk0 blk off cap ss W h1 h2 h3, fun p cap W => AnyM.slices_Sort_int_none Try.sorthk0 p cap W⟩
end Go.Proofs
namespace Go.Proofs.Ytcmkgjaclhpafaa.commitTells
open Go.Sx

noncomputable def hooks0 : List HR := []
theorem hooks0_ok : ∀ h ∈ hooks0, HRok Try.prog h := by
  intro h hh
  cases hh
set_option maxRecDepth 100000 in
theorem apart10 : kN Try.prog (hookOf hooks0) 100000 (.call 10 [] ⟨1, .nil⟩) (says (.bool true)) = true := by kernel_rfl
noncomputable def hooks : List HR := [⟨10, hookApart [] (.bool true)⟩, ⟨26, hookSort⟩]
theorem hooks_ok : ∀ h ∈ hooks, HRok Try.prog h := by
  intro h hh
  simp only [hooks, List.mem_cons, List.not_mem_nil, or_false] at hh
  rcases hh with rfl | rfl
  · exact hookApart_ok (fun _ _ => host_hooks hooks0_ok (by kernel_rfl) (by kernel_rfl) (by kernel_rfl)) rfl rfl (by kernel_rfl) apart10 Try.func10 rfl
  · exact hookSort_ok Try.sortPhk0 Try.func26 rfl
theorem host {W : World} {n : Nat} : Host Try.prog (hookOf hooks) W n := host_hooks hooks_ok (by kernel_rfl) (by kernel_rfl) (by kernel_rfl)
theorem hk_ok : HK (hookOf hooks) := by
  refine ⟨fun f a w h1 h2 => ?_, fun a w x h => ?_, fun w => rfl⟩
  · show Bool.rec (motive := fun _ => Option (Option (AV × AW))) (Bool.rec (motive := fun _ => Option (Option (AV × AW))) none _ (Nat.beq f 26)) _ (Nat.beq f 10) = none
    rw [beq_ff h1, beq_ff h2]
  · show (match hookSort w a with | some x => some (some x) | none => none) = some (some x)
    rw [h]
def termOf : Option AV → Int
  | some (.int .i64 x) => x
  | _ => 0
theorem entries {css : List (List AV)} {v : AV} (h : Dt Try.prog css 25 [v]) : ∃ ts : List Int, RsE (argL css) v ts := by
  obtain ⟨n, cs, h1, h2, h3⟩ := h.slice' Try.underlying25
  rw [show Try.prog.cellsOf 34 = 2 from by kernel_rfl] at h1 h3
  have key : ∀ j, j < n → ∃ x : Int, cs[j * 2 + 0]? = some (.int .i64 x) := by
    intro j hj
    have hd := h3 j hj
    generalize hq : (cs.drop (j * 2)).take 2 = q at hd
    cases hd with
    | int h => rw [Try.underlying34] at h; cases h
    | bool h => rw [Try.underlying34] at h; cases h
    | str h => rw [Try.underlying34] at h; cases h
    | nils h => rw [Try.underlying34] at h; cases h
    | slice h => rw [Try.underlying34] at h; cases h
    | struct hu hl hf =>
      rw [Try.underlying34] at hu
      cases hu
      have h0 := hf 0 _ rfl
      obtain ⟨x, hx, _⟩ := h0.i64 Try.underlying3
      refine ⟨x, ?_⟩
      have h5 := congrArg (fun l => l[0]?) hx
      simp only [List.getElem?_cons_zero] at h5
      rw [← h5, ← hq]
      rw [show Try.prog.cellsOf 3 = 1 from by kernel_rfl]
      simp [List.getElem?_take, List.getElem?_drop]
  refine ⟨(List.range n).map fun j => termOf (cs[j * 2 + 0]?), cs, by simpa using h1, fun i hi => ?_⟩
  have hi : i < n := by simpa using hi
  obtain ⟨x, hx⟩ := key i hi
  rw [hx, List.getD_eq_getElem?_getD, List.getElem?_map, List.getElem?_range hi]
  simp only [Option.map_some, Option.getD_some, hx, termOf]

theorem law (css : List (List AV)) (avs : List AV) (h : DtAll Try.prog css [3, 3, 3, 3, 25, 23] avs) : hookOf hooks 4 avs (argL css) = none ∧ Cl Try.prog (hookOf hooks) 4 avs (argL css) fun v _ => v = .bool true := by
  obtain ⟨a, _, rfl, h1, b, _, rfl, h2, c, _, rfl, h3, d, _, rfl, h4, e, _, rfl, h5, f, _, rfl, h6, rfl⟩ := h
  obtain ⟨n1, e1, r1, _⟩ := h1.i64 Try.underlying3
  cases e1
  obtain ⟨n2, e2, _⟩ := h2.i64 Try.underlying3
  cases e2
  obtain ⟨n3, e3, _⟩ := h3.i64 Try.underlying3
  cases e3
  obtain ⟨n4, e4, _⟩ := h4.i64 Try.underlying3
  cases e4
  obtain ⟨ts, hts⟩ := entries h5
  obtain ⟨l, hl, _, hr⟩ := h6.ints Try.underlying23 Try.underlying3 (by kernel_rfl)
  exact ⟨hk_ok.no _ _ _ (by decide) (by decide), s4 hk_ok (argL_mem css) (by rw [argL_size]; omega) hts hl r1 hr⟩
end Go.Proofs.Ytcmkgjaclhpafaa.commitTells

namespace Go.Proofs.Ytcmkgjaclhpafaa.commitTells
open Go.ChangeShapes Go.WideShapes Go.ChangeAt Go.RowKit Go.Sx
theorem own : ownKnob Try.prog.godebug = none := by kernel_rfl

set_option maxRecDepth 100000 in
theorem lifted (os : Os) (started : os.Started) (H : Type) (enc : TypeId × Value → H) :
    ReturnsInHanded {} Try.checked os 4 .any (Rows.commitTellsSpec.pre6 enc Try.prog Try.f4 Rows.commitTellsRow.domain false) (Rows.commitTellsSpec.post enc Try.prog Try.f4 false true false false) := by
  refine returnsInHanded_of_change (C := Try.checked) own started (by kernel_rfl) Try.func4
    (ChangeSpec.witness6 (enc := enc) (C := Try.checked) false ⟨#[], #[.int .i64 0, .int .i64 0, .int .i64 0, .int .i64 0, .slice none 0 0, .slice none 0 0], []⟩ 8 (by kernel_rfl) (by kernel_rfl) (by kernel_rfl) (by kernel_rfl)) ?_
  intro W base args ds gs before hval0 hW hcnd _
  have hval : ∀ (j : Nat) t v, Try.f4.params[j]? = some t → args[j]? = some v → Value.okWide Try.prog W .any base t v := hval0
  have hW' := hW
  obtain ⟨p, q, hA0, hV, rfl, hfz, hnd⟩ := hW
  have hA : DataW.TrodAll enc Try.prog W 0 (fun _ => true) true Try.f4.params.toList args.toList ds p := hA0
  obtain ⟨rfl, rfl⟩ := trodVars_none hV
  rw [Try.params4] at hA hval
  have walk : Calls Try.prog 4 args W fun e W' => e = .returned (.bool true) ∧ ∃ w' m', Rel W W.heap.size m' w' W' :=
    walkD (dd := 8) (ts := [3, 3, 3, 3, 25, 23]) host Try.func4 rfl (fun t ht => List.all_eq_true.1 (show ([3, 3, 3, 3, 25, 23] : List TypeId).all (okT Try.prog 8) = true from by kernel_rfl) t ht) law
      (fun j t v h1 h2 => hval j t v (by rw [← Array.getElem?_toList]; exact h1) (by rw [← Array.getElem?_toList]; exact h2)) hA
  refine walk.mono fun e W' ⟨he, w', m', hrel⟩ => ?_
  subst he
  have hlen : ds.length = 6 := trodAll_len hA
  have hfn : ∃ d0 d1 d2 d3 d4 d5, ds = [d0, d1, d2, d3, d4, d5] := by
    match ds, hlen with
    | [d0, d1, d2, d3, d4, d5], _ => exact ⟨d0, d1, d2, d3, d4, d5, rfl⟩
  obtain ⟨d0, d1, d2, d3, d4, d5, rfl⟩ := hfn
  exact ⟨_, rfl, post_law (tb := 4) 6 (fun t ht => List.all_eq_true.1 (show (Try.f4.params.toList).all (plainT Try.prog 6) = true from by kernel_rfl) t ht) rfl rfl Try.underlying4 rfl rfl hW' (hrel.kept _) hrel.old.2 hrel.frozen (ok_one (by kernel_rfl) rfl (okWide_bool_mk Try.underlying4 _))⟩

theorem over : Rows.commitTellsRow.holds Try.pinned (OpenSpec.ofChange Rows.commitTellsSpec) :=
  OpenClaim.holds_of_wide 4 Try.f4 rfl rfl rfl rfl rfl rfl rfl ⟨rfl, rfl, rfl, rfl, rfl⟩ rfl rfl rfl rfl rfl (by kernel_rfl) Try.func4 (by kernel_rfl)
    (of_decide_eq_true (by kernel_rfl)) (by unfold Func.isWrapper; first | (rw [if_pos (by decide +kernel)]; kernel_rfl) | (rw [if_neg (by decide +kernel)]; exact ⟨rfl, rfl⟩))
    (fun os started H enc _ => lifted os started H enc)

theorem proved : Rows.CommitTellsSaid :=
  over
#print axioms proved
end Go.Proofs.Ytcmkgjaclhpafaa.commitTells
