/-
  conduitlaw08.SegmentKept: whatever the arguments are, the law answers true and the arguments read behind the call as before.
  No condition.
-/
import Derived.Test.YtdlogcincelccaaRows
import Derived.Test.YtdlogcincelccaaSK08
import Derived.Test.YtdlogcincelccaaSxq
import Derived.Test.YtdlogcincelccaaSxt
import Derived.Test.YtdlogcincelccaaSxm
import Derived.WalkKit
import Derived.SizedLaws
set_option linter.unusedSimpArgs false
set_option linter.unusedVariables false
namespace Go.Proofs.Ytdlogcincelccaa.segmentKept
open Go.Sx

noncomputable def hooks0 : List HR := []
theorem hooks0_ok : ∀ h ∈ hooks0, HRok Try.prog h := by
  intro h hh
  cases hh
set_option maxRecDepth 100000 in
theorem apart15 : kN Try.prog (hookOf hooks0) 1000000 (.call 15 [] ⟨1, .nil⟩) (says (.bool true)) = true := by kernel_rfl
noncomputable def hooks : List HR := [⟨15, hookApart [] (.bool true)⟩]
theorem hooks_ok : ∀ h ∈ hooks, HRok Try.prog h := by
  intro h hh
  simp only [hooks, List.mem_cons, List.not_mem_nil, or_false] at hh
  subst hh
  exact hookApart_ok (fun _ _ => host_hooks hooks0_ok (by kernel_rfl) (by kernel_rfl) (by kernel_rfl)) rfl rfl (by kernel_rfl) apart15 Try.func15 rfl
theorem host {W : World} {n : Nat} : Host Try.prog (hookOf hooks) W n := host_hooks hooks_ok (by kernel_rfl) (by kernel_rfl) (by kernel_rfl)
theorem hk_ok : HK (hookOf hooks) := by
  refine ⟨fun f a w h1 h2 => ?_, fun w => rfl⟩
  show Bool.rec (motive := fun _ => Option (Option (AV × AW))) none _ (Nat.beq f 15) = none
  rw [beq_ff h1]
theorem one_of {P : Program} {css : List (List AV)} {t e : TypeId} {cs : List AV} (hu : P.underlying t = some (.slice e)) (h : Dt P css t cs) : ∃ v, cs = [v] := by
  cases h with
  | int h1 => rw [hu] at h1; cases h1
  | bool h1 => rw [hu] at h1; cases h1
  | str h1 => rw [hu] at h1; cases h1
  | nils _ => exact ⟨_, rfl⟩
  | slice => exact ⟨_, rfl⟩
  | struct h1 => rw [hu] at h1; cases h1
theorem five {cs : List AV} (h : cs.length = 5) : ∃ a b c d e, cs = [a, b, c, d, e] := by
  match cs, h with
  | [a, b, c, d, e], _ => exact ⟨a, b, c, d, e, rfl⟩
set_option maxRecDepth 100000 in
theorem lives {css : List (List AV)} {v : AV} (h : Dt Try.prog css 55 [v]) : ∃ l : List Life, (rL rLife).rd (fun _ => True) (argL css) [v] l ∧ l.length * 88 ≤ 140737488351232 ∧ ∀ x ∈ l, x.work.length < 2 ^ 60 ∧ x.keep.length < 2 ^ 60 ∧ x.later.length < 2 ^ 60 := by
  have bools : ∀ {v : AV}, Dt Try.prog css 53 [v] → ∃ l : List Bool, (rL rT).rd (fun _ => True) (argL css) [v] l ∧ l.length * 1 ≤ reachBytes := fun {v} h => by
    obtain ⟨l, h1, h2, _⟩ := Dt.rdL (r := rT) (Q := fun _ => True) (v := v) Try.underlying53 (by kernel_rfl) (fun cs hc => by
      obtain ⟨m, hm⟩ := hc.boolean Try.underlying4
      exact ⟨m, hm, trivial⟩) h
    have hb : Try.prog.bytesOf 4 = 1 := by kernel_rfl
    rw [hb] at h2
    exact ⟨l, h1, h2⟩
  have hr : reachBytes = 140737488351232 := rfl
  suffices hsf : ∀ cs, Dt Try.prog css 57 cs → ∃ x : Life, rLife.rd (fun _ => True) (argL css) cs x ∧ x.work.length < 2 ^ 60 ∧ x.keep.length < 2 ^ 60 ∧ x.later.length < 2 ^ 60 by
    obtain ⟨l, h1, h2, h3⟩ := Dt.rdL (r := rLife) (Q := fun x : Life => x.work.length < 2 ^ 60 ∧ x.keep.length < 2 ^ 60 ∧ x.later.length < 2 ^ 60) (v := v) Try.underlying55 (by kernel_rfl) hsf h
    have hb : Try.prog.bytesOf 57 = 88 := by kernel_rfl
    rw [hb] at h2
    exact ⟨l, h1, h2, h3⟩
  intro cs h
  obtain ⟨hl, hf⟩ := h.fields Try.underlying57
  rw [show Try.prog.cellsOf 57 = 5 from by kernel_rfl] at hl
  obtain ⟨a, b, c, d, e, rfl⟩ := five hl
  obtain ⟨n1, h1, _⟩ := (hf 1 _ rfl).i64 Try.underlying3
  obtain ⟨n4, h4, _⟩ := (hf 4 _ rfl).i64 Try.underlying3
  obtain ⟨l0, h0, g0, _⟩ := Dt.rdI (v := a) Try.underlying46 Try.underlying3 (by kernel_rfl) (by kernel_rfl) (hf 0 _ rfl)
  obtain ⟨l2, h2, g2⟩ := bools (v := c) (hf 2 _ rfl)
  obtain ⟨l3, h3, g3⟩ := bools (v := d) (hf 3 _ rfl)
  have e1 : b = .int .i64 n1 := by have h1 : [b] = _ := h1; simpa using h1
  have e4 : e = .int .i64 n4 := by have h4 : [e] = _ := h4; simpa using h4
  refine ⟨⟨l0, n1, l2, l3, n4⟩, ⟨a, c, d, by rw [e1, e4], h0, h2, h3⟩, ?_, ?_, ?_⟩
  · show l0.length < _; omega
  · show l2.length < _; omega
  · show l3.length < _; omega
theorem law (css : List (List AV)) (avs : List AV) (h : DtAll Try.prog css [55] avs) : hookOf hooks 7 avs (argL css) = none ∧ Cl Try.prog (hookOf hooks) 7 avs (argL css) fun v _ => v = .bool true := by
  obtain ⟨a, _, rfl, h1, rfl⟩ := h
  obtain ⟨l, hl, hn, hq⟩ := lives h1
  exact ⟨hk_ok.no _ _ _ (by decide) (by decide), s7 hk_ok Pv.arg hl (by omega) hq⟩
end Go.Proofs.Ytdlogcincelccaa.segmentKept

namespace Go.Proofs.Ytdlogcincelccaa.segmentKept
open Go.ChangeShapes Go.WideShapes Go.ChangeAt Go.RowKit Go.Sx
theorem own : ownKnob Try.prog.godebug = none := by kernel_rfl

set_option maxRecDepth 100000 in
theorem lifted (os : Os) (started : os.Started) (H : Type) (enc : TypeId × Value → H) :
    ReturnsInHanded {} Try.checked os 7 .any (Rows.segmentKeptSpec.pre6 enc Try.prog Try.f7 Rows.segmentKeptRow.domain false) (Rows.segmentKeptSpec.post enc Try.prog Try.f7 false true false false) := by
  refine returnsInHanded_of_change_sized (C := Try.checked) own started (by kernel_rfl) Try.func7
    (ChangeSpec.witness6 (enc := enc) (C := Try.checked) false ⟨#[], #[.slice none 0 0], []⟩ 8 (by kernel_rfl) (by kernel_rfl) (by kernel_rfl) (by kernel_rfl)) ?_
  intro W base args ds gs before hval0 hW hcnd hsz0 _
  have hval : ∀ (j : Nat) t v, Try.f7.params[j]? = some t → args[j]? = some v → Value.okWide Try.prog W .any base t v := hval0
  have hW' := hW
  obtain ⟨p, q, hA0, hV, rfl, hfz, hnd⟩ := hW
  have hA : DataW.TrodAll enc Try.prog W 0 (fun _ => true) true Try.f7.params.toList args.toList ds p := hA0
  obtain ⟨rfl, rfl⟩ := trodVars_none hV
  rw [show Rows.segmentKeptSpec.plain.varTypes Try.checked.prog = [] from by kernel_rfl, List.append_nil, List.append_nil] at hsz0
  have hsz : (DataW.weightsEach Try.prog Try.f7.params.toList ds).all (· ≤ reachBytes) = true := hsz0
  rw [Try.params7] at hA hval hsz
  have walk : Calls Try.prog 7 args W fun e W' => e = .returned (.bool true) ∧ ∃ w' m', Rel W W.heap.size m' w' W' :=
    walkD (dd := 8) (ts := [55]) host Try.func7 rfl (fun t ht => List.all_eq_true.1 (show ([55] : List TypeId).all (okT Try.prog 8) = true from by kernel_rfl) t ht) law
      (fun j t v h1 h2 => hval j t v (by rw [← Array.getElem?_toList]; exact h1) (by rw [← Array.getElem?_toList]; exact h2)) hA hsz
  refine walk.mono fun e W' ⟨he, w', m', hrel⟩ => ?_
  subst he
  have hlen : ds.length = 1 := trodAll_len hA
  have hfn : ∃ d0, ds = [d0] := by
    match ds, hlen with
    | [d0], _ => exact ⟨d0, rfl⟩
  obtain ⟨d0, rfl⟩ := hfn
  exact ⟨_, rfl, post_law (tb := 4) 6 (fun t ht => List.all_eq_true.1 (show (Try.f7.params.toList).all (plainT Try.prog 6) = true from by kernel_rfl) t ht) rfl rfl Try.underlying4 rfl rfl hW' (hrel.kept _) hrel.old.2 hrel.frozen (ok_one (by kernel_rfl) rfl (okWide_bool_mk Try.underlying4 _))⟩

theorem over : Rows.segmentKeptRow.holds Try.pinned (OpenSpec.ofChange Rows.segmentKeptSpec) :=
  OpenClaim.holds_of_wide 7 Try.f7 rfl rfl rfl rfl rfl rfl rfl ⟨rfl, rfl, rfl, rfl, rfl⟩ rfl rfl rfl rfl rfl (by kernel_rfl) Try.func7 (by kernel_rfl)
    (of_decide_eq_true (by kernel_rfl)) (by unfold Func.isWrapper; first | (rw [if_pos (by decide +kernel)]; kernel_rfl) | (rw [if_neg (by decide +kernel)]; exact ⟨rfl, rfl⟩))
    (fun os started H enc _ => lifted os started H enc)

theorem proved : Rows.SegmentKeptSaid :=
  over
#print axioms proved
end Go.Proofs.Ytdlogcincelccaa.segmentKept
