/-
  conduitlaw23.RaftSafe: whatever the arguments are, the law answers true and the arguments read behind the call as before.
  No condition.
-/
import Derived.Test.YtghoifolghelnaaGreatRows
import Derived.Test.YtghoifolghelnaaGreatJfRaftSafe
import Derived.Test.YtghoifolghelnaaGreatMg
import Derived.Test.YtghoifolghelnaaGreatSxq
import Derived.Test.YtghoifolghelnaaGreatSxt
import Derived.Test.YtghoifolghelnaaGreatSxm
import Derived.Test.YtghoifolghelnaaGreatSxo
import Derived.WalkKit
import Derived.SizedLaws
set_option linter.unusedSimpArgs false
set_option linter.unusedVariables false
namespace Go.Proofs.YtghoifolghelnaaGreat.raftSafe
open Go.Sx

noncomputable def hooks : List HR := [⟨9, lJj [] (.bool true)⟩, ⟨122, kJn⟩]
theorem hooks_ok : ∀ h ∈ hooks, HRok Tryz.prog h := by
  intro h hh
  simp only [hooks, yQw, List.not_mem_nil, or_false] at hh
  rcases hh with rfl | rfl
  · exact lJi (fun _ _ => hJq aJ2 (by kernel_rfl) (by kernel_rfl) (by kernel_rfl)) rfl rfl (by kernel_rfl) apart9 Tryz.func9 rfl
  · exact sJ4 Tryz.sortPhk0 Tryz.func122 rfl
theorem host {W : World} {n : Nat} : Host Tryz.prog (wJe hooks) W n := hJq hooks_ok (by kernel_rfl) (by kernel_rfl) (by kernel_rfl)
theorem hk_ok : HK (wJe hooks) := by
  refine ⟨fun f a w h1 h2 => ?_, fun a w x h => ?_, fun w => rfl⟩
  · show Bool.rec (motive := fun _ => Option (Option (AV × AW))) (Bool.rec (motive := fun _ => Option (Option (AV × AW))) none _ (Nat.beq f 122)) _ (Nat.beq f 9) = none
    rw [zJ5 h1, zJ5 h2]
  · show (match kJn w a with | some x => some (some x) | none => none) = some (some x)
    rw [h]
theorem mv_of {css : List (List AV)} {cs : List AV} (h : Dt Tryz.prog css 64 cs) : ∃ x : Int × Int × Int × Int, rMv.rd (fun _ => True) (argL css) cs x ∧ True := by
  have q := Dt.ones Tryz.underlying64 h (by kernel_rfl) (by kernel_rfl)
  obtain ⟨c0, _, rfl, g0, c1, _, rfl, g1, c2, _, rfl, g2, c3, _, rfl, g3, rfl⟩ := q
  obtain ⟨y0, e, _⟩ := g0.i64 Tryz.underlying3; cases e
  obtain ⟨y1, e, _⟩ := g1.i64 Tryz.underlying3; cases e
  obtain ⟨y2, e, _⟩ := g2.i64 Tryz.underlying3; cases e
  obtain ⟨y3, e, _⟩ := g3.i64 Tryz.underlying3; cases e
  exact ⟨(y0, y1, y2, y3), rfl, trivial⟩
set_option maxRecDepth 100000 in
theorem law (css : List (List AV)) (avs : List AV) (h : oJ3 Tryz.prog css [3, 57] avs) : wJe hooks 5 avs (argL css) = none ∧ Cl Tryz.prog (wJe hooks) 5 avs (argL css) fun v _ => v = .bool true := by
  obtain ⟨a, _, rfl, h1, b, _, rfl, h2, rfl⟩ := h
  obtain ⟨i1, e, _⟩ := (h1.one (by rw [Tryz.underlying3])).i64 Tryz.underlying3; cases e
  obtain ⟨l, rl, _⟩ := Dt.rdL (r := rMv) Tryz.underlying57 (by kernel_rfl) (fun _ h => mv_of h) (h2.one (by rw [Tryz.underlying57]))
  exact ⟨hk_ok.no _ _ _ (by decide) (by decide), s5 hk_ok Pv.arg rl⟩
end Go.Proofs.YtghoifolghelnaaGreat.raftSafe

namespace Go.Proofs.YtghoifolghelnaaGreat.raftSafe
open Go.ChangeShapes Go.WideShapes Go.ChangeAt Go.RowKit Go.Sx
theorem own : ownKnob Tryz.prog.godebug = none := by kernel_rfl

set_option maxRecDepth 100000 in
theorem lifted (os : Os) (started : os.Started) (H : Type) (enc : TypeId × Value → H) :
    ReturnsInHanded {} Tryz.checked os 5 .any (Rows.raftSafeSpec.pre6 enc Tryz.prog Tryz.f5 Rows.raftSafeRow.domain false) (Rows.raftSafeSpec.post enc Tryz.prog Tryz.f5 false true false false) := by
  refine returnsInHanded_of_change_sized (C := Tryz.checked) own started (by kernel_rfl) Tryz.func5
    (ChangeSpec.witness6 (enc := enc) (C := Tryz.checked) false ⟨#[], #[.int .i64 0, .slice none 0 0], []⟩ 8 (by kernel_rfl) (by kernel_rfl) (by kernel_rfl) (by kernel_rfl)) ?_
  intro W base args ds gs before hval0 hW hcnd hsz0 _
  have hval : ∀ (j : Nat) t v, Tryz.f5.params[j]? = some t → args[j]? = some v → Value.okWide Tryz.prog W .any base t v := hval0
  have hW' := hW
  obtain ⟨p, q, hA0, hV, rfl, hfz, hnd⟩ := hW
  have hA : DataW.TrodAll enc Tryz.prog W 0 (fun _ => true) true Tryz.f5.params.toList args.toList ds p := hA0
  obtain ⟨rfl, rfl⟩ := trodVars_none hV
  rw [show Rows.raftSafeSpec.plain.varTypes Tryz.checked.prog = [] from by kernel_rfl, gQc, gQc] at hsz0
  have hsz : (DataW.weightsEach Tryz.prog Tryz.f5.params.toList ds).all (· ≤ reachBytes) = true := hsz0
  rw [Tryz.params5] at hA hval hsz
  have walk : Calls Tryz.prog 5 args W fun e W' => e = .returned (.bool true) ∧ ∃ w' m', Rel W W.heap.size m' w' W' :=
    walkS (dd := 8) (ts := [3, 57]) host Tryz.func5 rfl (fun t ht => yQv.1 (show ([3, 57] : List TypeId).all (wJg Tryz.prog 8) = true from by kernel_rfl) t ht) law
      (fun j t v h1 h2 => hval j t v (by rw [← yQ4]; exact h1) (by rw [← yQ4]; exact h2)) hA hsz
  refine walk.mono fun e W' ⟨he, w', m', hrel⟩ => ?_
  subst he
  have hlen : ds.length = 2 := dJo hA
  have hfn : ∃ d0 d1, ds = [d0, d1] := by
    match ds, hlen with
    | [d0, d1], _ => exact ⟨d0, d1, rfl⟩
  obtain ⟨d0, d1, rfl⟩ := hfn
  exact ⟨_, rfl, jQb (tb := 4) 6 (fun t ht => yQv.1 (show (Tryz.f5.params.toList).all (bJd Tryz.prog 6) = true from by kernel_rfl) t ht) rfl rfl Tryz.underlying4 rfl rfl hW' (hrel.kept _) hrel.old.2 hrel.frozen (ok_one (by kernel_rfl) rfl (okWide_bool_mk Tryz.underlying4 _))⟩

theorem over : Rows.raftSafeRow.holds Tryz.pinned (OpenSpec.ofChange Rows.raftSafeSpec) :=
  OpenClaim.holds_of_wide 5 Tryz.f5 rfl rfl rfl rfl rfl rfl rfl ⟨rfl, rfl, rfl, rfl, rfl⟩ rfl rfl rfl rfl rfl (by kernel_rfl) Tryz.func5 facts
    (of_decide_eq_true (by kernel_rfl)) (by unfold Func.isWrapper; first | (rw [if_pos (by decide +kernel)]; kernel_rfl) | (rw [if_neg (by decide +kernel)]; exact ⟨rfl, rfl⟩))
    (fun os started H enc _ => lifted os started H enc)

theorem proved : Rows.RaftSafeSaid :=
  over
#print axioms proved
end Go.Proofs.YtghoifolghelnaaGreat.raftSafe
