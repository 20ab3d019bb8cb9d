/-
  conduitlaw24.SnapNone: whatever the arguments are, the law answers true and the arguments read behind the call as before.
  No condition.
-/
import Derived.Test.YtlejeoajnfaloaaGreatDoorRows
import Derived.Test.YtlejeoajnfaloaaGreatDoorJfSnapNone
import Derived.Test.YtlejeoajnfaloaaGreatDoorMa
import Derived.Test.YtlejeoajnfaloaaGreatDoorSxq
import Derived.Test.YtlejeoajnfaloaaGreatDoorSxt
import Derived.Test.YtlejeoajnfaloaaGreatDoorSxm
import Derived.Test.YtlejeoajnfaloaaGreatDoorSxl
import Derived.WalkKit
import Derived.Test.YtlejeoajnfaloaaGreatDoorCards
import Derived.Test.YtlejeoajnfaloaaGreatDoorTie
import Derived.ProofKit
import Derived.OpenShut
import Derived.LaidMore
import Derived.Lay
import Derived.SevenTiedAt
import Derived.Stop.Joined
import Derived.SizedLaws
set_option linter.unusedSimpArgs false
set_option linter.unusedVariables false
namespace Go.Proofs.YtlejeoajnfaloaaGreatDoor.snapNone
open Go.Sx

noncomputable def hooks : List HR := [⟨10, hookApart [] (.bool true)⟩]
theorem hooks_ok : ∀ h ∈ hooks, HRok Tryz.prog h := by
  intro h hh
  simp only [hooks, List.mem_cons, List.not_mem_nil, or_false] at hh
  subst hh
  exact hookApart_ok (fun _ _ => host_hooks hooks0_ok (by kernel_rfl) (by kernel_rfl) (by kernel_rfl)) rfl rfl (by kernel_rfl) apart10 Tryz.func10 rfl
theorem host {W : World} {n : Nat} : Host Tryz.prog (hookOf hooks) W n := host_hooks hooks_ok (by kernel_rfl) (by kernel_rfl) (by kernel_rfl)
theorem hk_ok : HK (hookOf hooks) := by
  refine ⟨fun f a w h1 => ?_, fun w => rfl⟩
  show Bool.rec (motive := fun _ => Option (Option (AV × AW))) none _ (Nat.beq f 10) = none
  rw [beq_ff h1]
set_option maxRecDepth 100000 in
theorem law (css : List (List AV)) (avs : List AV) (h : DtAllS Tryz.prog css [3, 72, 51] avs) : hookOf hooks 5 avs (argL css) = none ∧ Cl Tryz.prog (hookOf hooks) 5 avs (argL css) fun v _ => v = .bool true := by
  obtain ⟨a, _, rfl, h1, b, _, rfl, h2, c, _, rfl, h3, rfl⟩ := h
  obtain ⟨x1, e1, _⟩ := (h1.one (by rw [Tryz.underlying3])).i64 Tryz.underlying3
  cases e1
  obtain ⟨cs, rfl, hag⟩ := DtA.agg Tryz.underlying72 h2
  have h2 := Dt.ones Tryz.underlying72 hag (by kernel_rfl) (by kernel_rfl)
  obtain ⟨c0, _, rfl, g0, c1, _, rfl, g1, c2, _, rfl, g2, c3, _, rfl, g3, c4, _, rfl, g4, c5, _, rfl, g5, c6, _, rfl, g6, c7, _, rfl, g7, c8, _, rfl, g8, c9, _, rfl, g9, c10, _, rfl, g10, c11, _, rfl, g11, rfl⟩ := h2
  obtain ⟨y0, e, _⟩ := Dt.rdS Tryz.underlying9 g0; cases e
  obtain ⟨y1, e⟩ := g1.u8 Tryz.underlying70; cases e
  obtain ⟨y2, e, _⟩ := g2.i64 Tryz.underlying3; cases e
  obtain ⟨y3, e, _⟩ := g3.i64 Tryz.underlying3; cases e
  obtain ⟨y4, e, _⟩ := g4.i64 Tryz.underlying3; cases e
  obtain ⟨y5, e, _⟩ := g5.i64 Tryz.underlying3; cases e
  obtain ⟨y6, e, _⟩ := g6.i64 Tryz.underlying3; cases e
  obtain ⟨y7, e, _⟩ := g7.i64 Tryz.underlying3; cases e
  obtain ⟨y8, e, _⟩ := g8.i64 Tryz.underlying3; cases e
  obtain ⟨y9, e⟩ := Dt.bool1 Tryz.underlying4 g9; cases e
  exact ⟨hk_ok.no _ _ _ (by decide), s5 hk_ok Pv.arg (g10.okSl Tryz.underlying35) (g11.okSl Tryz.underlying51)⟩
end Go.Proofs.YtlejeoajnfaloaaGreatDoor.snapNone

namespace Go.Proofs.YtlejeoajnfaloaaGreatDoor.snapNone
open Go.ChangeShapes Go.WideShapes Go.ChangeAt Go.RowKit Go.Sx
theorem own : ownKnob Tryz.prog.godebug = none := by kernel_rfl

set_option maxRecDepth 100000 in
theorem lifted (os : Os) (started : os.Started) (H : Type) (enc : TypeId × Value → H) :
    ReturnsInHanded {} Tryz.checked os 5 .any (fun w args => (Rows.snapNoneSpec.pre enc Tryz.prog Tryz.f5 [] false w args ∧ laidMetH Tryz.prog Rows.snapNoneRow.laid w) ∧ sizedMet enc Tryz.prog Tryz.f5 (OpenSpec.ofChange Rows.snapNoneSpec) false w args) (Rows.snapNoneSpec.post enc Tryz.prog Tryz.f5 false true false false) := by
  refine returnsInHanded_of_change_and (C := Tryz.checked) (X := fun w _ => laidMetH Tryz.prog Rows.snapNoneRow.laid w) (fun _ _ _ hh h => h.of_heap hh) own started (by kernel_rfl) Tryz.func5
    (ChangeSpec.witness_shaped (enc := enc) (C := Tryz.checked) (os := os) (X := fun w _ => laidMetH Tryz.prog Rows.snapNoneRow.laid w) false (World.laidAll Tryz.prog os Rows.snapNoneRow.laid) #[.int .i64 0, .agg #[.string ⟨#[]⟩, .int .u8 0, .int .i64 0, .int .i64 0, .int .i64 0, .int .i64 0, .int .i64 0, .int .i64 0, .int .i64 0, .bool false, .slice none 0 0, .slice none 0 0], .slice none 0 0] 8 (World.laidAll_os _ _ _)
      (World.shaped_of_ZipB (by kernel_rfl) (by kernel_rfl)) (by kernel_rfl) (by kernel_rfl) (by kernel_rfl)
      (by rw [MakeChecks.laidMetH_plain _ _ _ (by kernel_rfl)]; exact laidMet_laidAll _ (by kernel_rfl) (by kernel_rfl))) ?_
  intro W base args ds gs before hval0 hW hcnd hsz0 hL _
  have hval : ∀ (j : Nat) t v, Tryz.f5.params[j]? = some t → args[j]? = some v → Value.okWide Tryz.prog W .any base t v := hval0
  have hW' := hW
  obtain ⟨p, q, hA0, hV, rfl, hfz, hnd⟩ := hW
  have hA : DataW.TrodAll enc Tryz.prog W 0 (fun _ => true) true Tryz.f5.params.toList args.toList ds p := hA0
  obtain ⟨rfl, rfl⟩ := trodVars_none hV
  rw [show Rows.snapNoneSpec.plain.varTypes Tryz.checked.prog = [] from by kernel_rfl, List.append_nil, List.append_nil] at hsz0
  have hsz : (DataW.weightsEach Tryz.prog Tryz.f5.params.toList ds).all (· ≤ reachBytes) = true := hsz0
  rw [Tryz.params5] at hA hval hsz
  have walk : Calls Tryz.prog 5 args W fun e W' => e = .returned (.bool true) ∧ ∃ w' m', Rel W W.heap.size m' w' W' :=
    walkS (dd := 8) (ts := [3, 72, 51]) host Tryz.func5 rfl (fun t ht => List.all_eq_true.1 (show ([3, 72, 51] : List TypeId).all (flatD Tryz.prog 8) = true from by kernel_rfl) t ht) law
      (fun j t v h1 h2 => hval j t v (by rw [← Array.getElem?_toList]; exact h1) (by rw [← Array.getElem?_toList]; exact h2)) hA hsz
  refine walk.mono fun e W' ⟨he, w', m', hrel⟩ => ?_
  subst he
  have hlen : ds.length = 3 := trodAll_len hA
  have hfn : ∃ d0 d1 d2, ds = [d0, d1, d2] := by
    match ds, hlen with
    | [d0, d1, d2], _ => exact ⟨d0, d1, d2, rfl⟩
  obtain ⟨d0, d1, d2, rfl⟩ := hfn
  exact ⟨_, rfl, post_law (tb := 4) 6 (fun t ht => List.all_eq_true.1 (show (Tryz.f5.params.toList).all (plainT Tryz.prog 6) = true from by kernel_rfl) t ht) rfl rfl Tryz.underlying4 rfl rfl hW' (hrel.kept _) hrel.old.2 hrel.frozen (ok_one (by kernel_rfl) rfl (okWide_bool_mk Tryz.underlying4 _))⟩

theorem over : Rows.snapNoneRow.holds Tryz.pinned (OpenSpec.ofChange Rows.snapNoneSpec) :=
  OpenClaim.holds_of_wide 5 Tryz.f5 rfl rfl rfl rfl rfl rfl rfl ⟨rfl, rfl, rfl, rfl, rfl⟩ rfl rfl rfl rfl rfl (by kernel_rfl) Tryz.func5 facts
    (of_decide_eq_true (by kernel_rfl)) (by unfold Func.isWrapper; first | (rw [if_pos (by decide +kernel)]; kernel_rfl) | (rw [if_neg (by decide +kernel)]; exact ⟨rfl, rfl⟩))
    (fun os started H enc _ => lifted os started H enc)

theorem proved : Rows.SnapNoneCardSaid :=
  Claim7.holds_tied_plain_at .later [] [.data, .data, .data, .data, .sentinel, .sentinel, .pinned] true (true, "22019dd2adaf09fb28451f34a1c821e255d20e31c7bcf409c6c71521092bf7c9") true over (fun _ h => by cases h) (by kernel_rfl) (fun _ h => by cases h) snapNone_row_tie rfl ⟨rfl, rfl⟩ (by kernel_rfl) rfl
    (fun f fn hf hfn => by
      obtain rfl : f = 5 := Option.some.inj ((show Tryz.prog.funcNamed "conduit/conduitlaw24.SnapNone" = some 5 by kernel_rfl).symm.trans hf) |>.symm
      obtain rfl : fn = Tryz.f5 := (Option.some.inj (Tryz.func5.symm.trans hfn)).symm
      exact ⟨by kernel_rfl, fun j t ht => by
        rw [Tryz.params5] at ht
        have hm : t ∈ [3, 72, 51] := by simpa using Array.mem_of_getElem? ht
        have hall : ([3, 72, 51].all fun u => !Tryz.prog.wantsStandIn u) = true := by kernel_rfl
        exact (show Tryz.prog.wantsStandIn t = false by simpa using List.all_eq_true.1 hall t hm)⟩)
    (by kernel_rfl)
#print axioms proved
end Go.Proofs.YtlejeoajnfaloaaGreatDoor.snapNone
