/-
  conduitlaw08.SegmentAny: whatever the arguments are, the law answers true and the arguments read behind the call as before.
  No condition.
-/
import Derived.Test.YtdlogcincelccaaRows
import Derived.Test.YtdlogcincelccaaSA08
import Derived.Test.YtdlogcincelccaaSxq
import Derived.Test.YtdlogcincelccaaSxt
import Derived.Test.YtdlogcincelccaaSxm
import Derived.WalkKit
import Derived.SizedLaws
set_option linter.unusedSimpArgs false
set_option linter.unusedVariables false
namespace Go.Proofs.Ytdlogcincelccaa.segmentAny
open Go.Sx

noncomputable def hooks0 : List HR := []
theorem hooks0_ok : ∀ h ∈ hooks0, HRok Try.prog h := by
  intro h hh
  cases hh
set_option maxRecDepth 100000 in
theorem apart15 : kN Try.prog (hookOf hooks0) 1000000 (.call 15 [] ⟨1, .nil⟩) (says (.bool true)) = true := by kernel_rfl
noncomputable def hooks : List HR := [⟨15, hookApart [] (.bool true)⟩]
theorem hooks_ok : ∀ h ∈ hooks, HRok Try.prog h := by
  intro h hh
  simp only [hooks, List.mem_cons, List.not_mem_nil, or_false] at hh
  subst hh
  exact hookApart_ok (fun _ _ => host_hooks hooks0_ok (by kernel_rfl) (by kernel_rfl) (by kernel_rfl)) rfl rfl (by kernel_rfl) apart15 Try.func15 rfl
theorem host {W : World} {n : Nat} : Host Try.prog (hookOf hooks) W n := host_hooks hooks_ok (by kernel_rfl) (by kernel_rfl) (by kernel_rfl)
theorem hk_ok : HK (hookOf hooks) := by
  refine ⟨fun f a w h1 h2 => ?_, fun w => rfl⟩
  show Bool.rec (motive := fun _ => Option (Option (AV × AW))) none _ (Nat.beq f 15) = none
  rw [beq_ff h1]
theorem one_of {P : Program} {css : List (List AV)} {t e : TypeId} {cs : List AV} (hu : P.underlying t = some (.slice e)) (h : Dt P css t cs) : ∃ v, cs = [v] := by
  cases h with
  | int h1 => rw [hu] at h1; cases h1
  | bool h1 => rw [hu] at h1; cases h1
  | str h1 => rw [hu] at h1; cases h1
  | nils _ => exact ⟨_, rfl⟩
  | slice => exact ⟨_, rfl⟩
  | struct h1 => rw [hu] at h1; cases h1
theorem law (css : List (List AV)) (avs : List AV) (h : DtAll Try.prog css [22, 23] avs) : hookOf hooks 3 avs (argL css) = none ∧ Cl Try.prog (hookOf hooks) 3 avs (argL css) fun v _ => v = .bool true := by
  obtain ⟨a, _, rfl, h1, b, _, rfl, h2, rfl⟩ := h
  obtain ⟨s, hs, _⟩ := Dt.rdB (v := b) Try.underlying23 Try.underlying5 (by kernel_rfl) (by kernel_rfl) h2
  obtain ⟨l, hl, hn, hq⟩ := Dt.rdL (r := rL rU) (Q := fun s : List UInt8 => s.length ≤ 140737488351232) (v := a) Try.underlying22 (by kernel_rfl) (fun cs hc => by
    obtain ⟨v, rfl⟩ := one_of Try.underlying23 hc
    exact Dt.rdB (v := v) Try.underlying23 Try.underlying5 (by kernel_rfl) (by kernel_rfl) hc) h1
  have hb : Try.prog.bytesOf 23 = 24 := by kernel_rfl
  rw [hb] at hn
  have hr : reachBytes = 140737488351232 := rfl
  exact ⟨hk_ok.no _ _ _ (by decide) (by decide), s3 hk_ok Pv.arg hl hq (by omega) hs⟩
end Go.Proofs.Ytdlogcincelccaa.segmentAny

namespace Go.Proofs.Ytdlogcincelccaa.segmentAny
open Go.ChangeShapes Go.WideShapes Go.ChangeAt Go.RowKit Go.Sx
theorem own : ownKnob Try.prog.godebug = none := by kernel_rfl

set_option maxRecDepth 100000 in
theorem lifted (os : Os) (started : os.Started) (H : Type) (enc : TypeId × Value → H) :
    ReturnsInHanded {} Try.checked os 3 .any (Rows.segmentAnySpec.pre6 enc Try.prog Try.f3 Rows.segmentAnyRow.domain false) (Rows.segmentAnySpec.post enc Try.prog Try.f3 false true false false) := by
  refine returnsInHanded_of_change_sized (C := Try.checked) own started (by kernel_rfl) Try.func3
    (ChangeSpec.witness6 (enc := enc) (C := Try.checked) false ⟨#[], #[.slice none 0 0, .slice none 0 0], []⟩ 8 (by kernel_rfl) (by kernel_rfl) (by kernel_rfl) (by kernel_rfl)) ?_
  intro W base args ds gs before hval0 hW hcnd hsz0 _
  have hval : ∀ (j : Nat) t v, Try.f3.params[j]? = some t → args[j]? = some v → Value.okWide Try.prog W .any base t v := hval0
  have hW' := hW
  obtain ⟨p, q, hA0, hV, rfl, hfz, hnd⟩ := hW
  have hA : DataW.TrodAll enc Try.prog W 0 (fun _ => true) true Try.f3.params.toList args.toList ds p := hA0
  obtain ⟨rfl, rfl⟩ := trodVars_none hV
  rw [show Rows.segmentAnySpec.plain.varTypes Try.checked.prog = [] from by kernel_rfl, List.append_nil, List.append_nil] at hsz0
  have hsz : (DataW.weightsEach Try.prog Try.f3.params.toList ds).all (· ≤ reachBytes) = true := hsz0
  rw [Try.params3] at hA hval hsz
  have walk : Calls Try.prog 3 args W fun e W' => e = .returned (.bool true) ∧ ∃ w' m', Rel W W.heap.size m' w' W' :=
    walkD (dd := 8) (ts := [22, 23]) host Try.func3 rfl (fun t ht => List.all_eq_true.1 (show ([22, 23] : List TypeId).all (okT Try.prog 8) = true from by kernel_rfl) t ht) law
      (fun j t v h1 h2 => hval j t v (by rw [← Array.getElem?_toList]; exact h1) (by rw [← Array.getElem?_toList]; exact h2)) hA hsz
  refine walk.mono fun e W' ⟨he, w', m', hrel⟩ => ?_
  subst he
  have hlen : ds.length = 2 := trodAll_len hA
  have hfn : ∃ d0 d1, ds = [d0, d1] := by
    match ds, hlen with
    | [d0, d1], _ => exact ⟨d0, d1, rfl⟩
  obtain ⟨d0, d1, rfl⟩ := hfn
  exact ⟨_, rfl, post_law (tb := 4) 6 (fun t ht => List.all_eq_true.1 (show (Try.f3.params.toList).all (plainT Try.prog 6) = true from by kernel_rfl) t ht) rfl rfl Try.underlying4 rfl rfl hW' (hrel.kept _) hrel.old.2 hrel.frozen (ok_one (by kernel_rfl) rfl (okWide_bool_mk Try.underlying4 _))⟩

theorem over : Rows.segmentAnyRow.holds Try.pinned (OpenSpec.ofChange Rows.segmentAnySpec) :=
  OpenClaim.holds_of_wide 3 Try.f3 rfl rfl rfl rfl rfl rfl rfl ⟨rfl, rfl, rfl, rfl, rfl⟩ rfl rfl rfl rfl rfl (by kernel_rfl) Try.func3 (by kernel_rfl)
    (of_decide_eq_true (by kernel_rfl)) (by unfold Func.isWrapper; first | (rw [if_pos (by decide +kernel)]; kernel_rfl) | (rw [if_neg (by decide +kernel)]; exact ⟨rfl, rfl⟩))
    (fun os started H enc _ => lifted os started H enc)

theorem proved : Rows.SegmentAnySaid :=
  over
#print axioms proved
end Go.Proofs.Ytdlogcincelccaa.segmentAny
