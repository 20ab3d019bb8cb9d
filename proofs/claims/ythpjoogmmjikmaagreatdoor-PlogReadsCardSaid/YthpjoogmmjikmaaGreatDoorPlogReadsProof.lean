/-
  conduitlaw10.PlogReads: whatever the arguments are, the law answers true and the arguments read behind the call as before.
  No condition.
-/
import Derived.Test.YthpjoogmmjikmaaGreatDoorRows
import Derived.Test.YthpjoogmmjikmaaGreatDoorMd
import Derived.Test.YthpjoogmmjikmaaGreatDoorSxq
import Derived.Test.YthpjoogmmjikmaaGreatDoorSxt
import Derived.Test.YthpjoogmmjikmaaGreatDoorSxm
import Derived.Test.YthpjoogmmjikmaaGreatDoorSxo
import Derived.WalkKit
import Derived.Test.YthpjoogmmjikmaaGreatDoorCards
import Derived.Test.YthpjoogmmjikmaaGreatDoorTie
import Derived.ProofKit
import Derived.OpenShut
import Derived.LaidMore
import Derived.Lay
import Derived.SevenTiedAt
import Derived.Stop.Joined
import Derived.SizedLaws
import Derived.Shelf.SortM.Plain
import Derived.Shelf.SortM.SortNone
import Derived.Ground.GgzProg
import Derived.Ground.SlgmProg
set_option linter.unusedSimpArgs false
set_option linter.unusedVariables false
namespace Go.Proofs
open Go.RowKit Go.Maps Go.Sort Go.Shelf
shelf_lay_g SlLaysZ.n7 Ggz 7 at Tryz 74 as Tryz.keyshk0
shelf_lay_g SlLaysZ.n6 Ggz 6 at Tryz 73 as Tryz.sortedhk0
shelf_lay_g SlLaysM.n6 Slgm 6 at Tryz 111 as Tryz.sorthk0
theorem Tryz.sortshk0 (m : Nat) : AnyZ.SortsIn Tryz.prog Tryz.sortedhk0_ren Fence.wide m :=
  ⟨fun blk off cap ss W hH hblk hsz => callsIn_wide.2 (AnyM.slices_Sort_string Tryz.sorthk0 blk off cap ss W hH hblk hsz),
   fun p cap W => callsIn_wide.2 (AnyM.slices_Sort_string_none Tryz.sorthk0 p cap W)⟩
theorem Tryz.contracthk0 : Go.Sx.SortC Tryz.prog Go.Sx.kindS 73 112 9 :=
  Go.Sx.sortC_str (ρ := Tryz.sortedhk0_ren) (ρ' := Tryz.keyshk0_ren) { Tryz.keyshk0 with } Tryz.sortedhk0 Tryz.sortshk0 (enters_of Tryz.func111 (by kernel_rfl) rfl) (enters_of Tryz.func112 (by kernel_rfl) rfl) Tryz.underlying9
shelf_lay_g SlLaysM.n5 Slgm 5 at Tryz 42 as Tryz.sorthk1
theorem Tryz.sortPhk0 : Go.Sx.SortP Tryz.prog 42 :=
  ⟨fun blk off cap ss W h1 h2 h3 => AnyM.slices_Sort_int Tryz.sorthk1 blk off cap ss W h1 h2 h3, fun p cap W => AnyM.slices_Sort_int_none Tryz.sorthk1 p cap W⟩
end Go.Proofs

namespace Go.Proofs.YthpjoogmmjikmaaGreatDoor.plogReads
open Go.Sx

noncomputable def hooks0 : List HR := [⟨73, hookS kindS 73 112⟩]
theorem hooks0_ok : ∀ h ∈ hooks0, HRok Tryz.prog h := by
  intro h hh
  simp only [hooks0, List.mem_cons, List.not_mem_nil, or_false] at hh
  subst hh
  exact hookS_ok kindS_good Tryz.contracthk0 Tryz.func73 rfl
set_option maxRecDepth 100000 in
theorem apart15 : kN Tryz.prog (hookOf hooks0) 100000 (.call 15 [] ⟨1, .nil⟩) (says (.bool true)) = true := by kernel_rfl
noncomputable def hooks : List HR := [⟨15, hookApart [] (.bool true)⟩, ⟨73, hookS kindS 73 112⟩, ⟨42, hookSort⟩]
theorem hooks_ok : ∀ h ∈ hooks, HRok Tryz.prog h := by
  intro h hh
  simp only [hooks, List.mem_cons, List.not_mem_nil, or_false] at hh
  rcases hh with rfl | rfl | rfl
  · exact hookApart_ok (fun _ _ => host_hooks hooks0_ok (by kernel_rfl) (by kernel_rfl) (by kernel_rfl)) rfl rfl (by kernel_rfl) apart15 Tryz.func15 rfl
  · exact hookS_ok kindS_good Tryz.contracthk0 Tryz.func73 rfl
  · exact hookSort_ok Tryz.sortPhk0 Tryz.func42 rfl

theorem host {W : World} {n : Nat} : Host Tryz.prog (hookOf hooks) W n := host_hooks hooks_ok (by kernel_rfl) (by kernel_rfl) (by kernel_rfl)
theorem hk_ok : HK (hookOf hooks) := by
  refine ⟨fun f a w h1 h2 => ?_, fun a w x h => ?_, fun a w x h => ?_, fun w => rfl⟩
  · show Bool.rec (motive := fun _ => Option (Option (AV × AW))) (Bool.rec (motive := fun _ => Option (Option (AV × AW))) (Bool.rec (motive := fun _ => Option (Option (AV × AW))) none _ (Nat.beq f 42)) _ (Nat.beq f 73)) _ (Nat.beq f 15) = none
    rw [beq_ff h1, beq_ff h2.1, beq_ff h2.2]
  · show (match hookS kindS 73 112 w a with | some x => some (some x) | none => none) = some (some x)
    rw [h]
  · show (match hookSort w a with | some x => some (some x) | none => none) = some (some x)
    rw [h]
theorem one_of {P : Program} {css : List (List AV)} {t e : TypeId} {cs : List AV} (hu : P.underlying t = some (.slice e)) (h : Dt P css t cs) : ∃ v, cs = [v] := by
  cases h with
  | int h1 => rw [hu] at h1; cases h1
  | bool h1 => rw [hu] at h1; cases h1
  | str h1 => rw [hu] at h1; cases h1
  | nils _ => exact ⟨_, rfl⟩
  | slice => exact ⟨_, rfl⟩
  | struct h1 => rw [hu] at h1; cases h1
theorem law (css : List (List AV)) (avs : List AV) (h : DtAll Tryz.prog css [3, 22, 3, 3] avs) : hookOf hooks 3 avs (argL css) = none ∧ Cl Tryz.prog (hookOf hooks) 3 avs (argL css) fun v _ => v = .bool true := by
  obtain ⟨a, _, rfl, h1, b, _, rfl, h2, c, _, rfl, h3, e, _, rfl, h4, rfl⟩ := h
  obtain ⟨x1, e1, _⟩ := h1.i64 Tryz.underlying3
  cases e1
  obtain ⟨l, hl, hn, _⟩ := Dt.rdL (r := rL rU) (Q := fun s : List UInt8 => s.length ≤ 140737488351232) (v := b) Tryz.underlying22 (by kernel_rfl) (fun cs hc => by
    obtain ⟨v, rfl⟩ := one_of Tryz.underlying30 hc
    exact Dt.rdB (v := v) Tryz.underlying30 Tryz.underlying5 (by kernel_rfl) (by kernel_rfl) hc) h2
  obtain ⟨x3, e3, _⟩ := h3.i64 Tryz.underlying3
  cases e3
  obtain ⟨x4, e4, _⟩ := h4.i64 Tryz.underlying3
  cases e4
  have hb : Tryz.prog.bytesOf 30 = 24 := by kernel_rfl
  rw [hb] at hn
  have hr : reachBytes = 140737488351232 := rfl
  exact ⟨hk_ok.no _ _ _ (by decide) (by decide), s3 hk_ok Pv.arg hl (by omega)⟩
end Go.Proofs.YthpjoogmmjikmaaGreatDoor.plogReads

namespace Go.Proofs.YthpjoogmmjikmaaGreatDoor.plogReads
open Go.ChangeShapes Go.WideShapes Go.ChangeAt Go.RowKit Go.Sx
theorem own : ownKnob Tryz.prog.godebug = none := by kernel_rfl

set_option maxRecDepth 100000 in
theorem lifted (os : Os) (started : os.Started) (H : Type) (enc : TypeId × Value → H) :
    ReturnsInHanded {} Tryz.checked os 3 .any (fun w args => (Rows.plogReadsSpec.pre enc Tryz.prog Tryz.f3 [] false w args ∧ laidMetH Tryz.prog Rows.plogReadsRow.laid w) ∧ sizedMet enc Tryz.prog Tryz.f3 (OpenSpec.ofChange Rows.plogReadsSpec) false w args) (Rows.plogReadsSpec.post enc Tryz.prog Tryz.f3 false true false false) := by
  refine returnsInHanded_of_change_and (C := Tryz.checked) (X := fun w _ => laidMetH Tryz.prog Rows.plogReadsRow.laid w) (fun _ _ _ hh h => h.of_heap hh) own started (by kernel_rfl) Tryz.func3
    (ChangeSpec.witness_shaped (enc := enc) (C := Tryz.checked) (os := os) (X := fun w _ => laidMetH Tryz.prog Rows.plogReadsRow.laid w) false (World.laidAll Tryz.prog os Rows.plogReadsRow.laid) #[.int .i64 0, .slice none 0 0, .int .i64 0, .int .i64 0] 8 (World.laidAll_os _ _ _)
      (World.shaped_of_ZipB (by kernel_rfl) (by kernel_rfl)) (by kernel_rfl) (by kernel_rfl) (by kernel_rfl)
      (by rw [MakeChecks.laidMetH_plain _ _ _ (by kernel_rfl)]; exact laidMet_laidAll _ (by kernel_rfl) (by kernel_rfl))) ?_
  intro W base args ds gs before hval0 hW hcnd hsz0 hL _
  have hval : ∀ (j : Nat) t v, Tryz.f3.params[j]? = some t → args[j]? = some v → Value.okWide Tryz.prog W .any base t v := hval0
  have hW' := hW
  obtain ⟨p, q, hA0, hV, rfl, hfz, hnd⟩ := hW
  have hA : DataW.TrodAll enc Tryz.prog W 0 (fun _ => true) true Tryz.f3.params.toList args.toList ds p := hA0
  obtain ⟨rfl, rfl⟩ := trodVars_none hV
  rw [show Rows.plogReadsSpec.plain.varTypes Tryz.checked.prog = [] from by kernel_rfl, List.append_nil, List.append_nil] at hsz0
  have hsz : (DataW.weightsEach Tryz.prog Tryz.f3.params.toList ds).all (· ≤ reachBytes) = true := hsz0
  rw [Tryz.params3] at hA hval hsz
  have walk : Calls Tryz.prog 3 args W fun e W' => e = .returned (.bool true) ∧ ∃ w' m', Rel W W.heap.size m' w' W' :=
    walkD (dd := 8) (ts := [3, 22, 3, 3]) host Tryz.func3 rfl (fun t ht => List.all_eq_true.1 (show ([3, 22, 3, 3] : List TypeId).all (okT Tryz.prog 8) = true from by kernel_rfl) t ht) law
      (fun j t v h1 h2 => hval j t v (by rw [← Array.getElem?_toList]; exact h1) (by rw [← Array.getElem?_toList]; exact h2)) hA hsz
  refine walk.mono fun e W' ⟨he, w', m', hrel⟩ => ?_
  subst he
  have hlen : ds.length = 4 := trodAll_len hA
  have hfn : ∃ d0 d1 d2 d3, ds = [d0, d1, d2, d3] := by
    match ds, hlen with
    | [d0, d1, d2, d3], _ => exact ⟨d0, d1, d2, d3, rfl⟩
  obtain ⟨d0, d1, d2, d3, rfl⟩ := hfn
  exact ⟨_, rfl, post_law (tb := 4) 6 (fun t ht => List.all_eq_true.1 (show (Tryz.f3.params.toList).all (plainT Tryz.prog 6) = true from by kernel_rfl) t ht) rfl rfl Tryz.underlying4 rfl rfl hW' (hrel.kept _) hrel.old.2 hrel.frozen (ok_one (by kernel_rfl) rfl (okWide_bool_mk Tryz.underlying4 _))⟩

theorem over : Rows.plogReadsRow.holds Tryz.pinned (OpenSpec.ofChange Rows.plogReadsSpec) :=
  OpenClaim.holds_of_wide 3 Tryz.f3 rfl rfl rfl rfl rfl rfl rfl ⟨rfl, rfl, rfl, rfl, rfl⟩ rfl rfl rfl rfl rfl (by kernel_rfl) Tryz.func3 (by kernel_rfl)
    (of_decide_eq_true (by kernel_rfl)) (by unfold Func.isWrapper; first | (rw [if_pos (by decide +kernel)]; kernel_rfl) | (rw [if_neg (by decide +kernel)]; exact ⟨rfl, rfl⟩))
    (fun os started H enc _ => lifted os started H enc)

theorem proved : Rows.PlogReadsCardSaid :=
  Claim7.holds_tied_plain_at .later [] [.data, .data, .data, .data, .sentinel, .sentinel, .pinned] true (true, "caa593ef779d57136109de5a835d83d81e567412518daf6cc50ed40181169c33") true over (fun _ h => by cases h) (by kernel_rfl) (fun _ h => by cases h) plogReads_row_tie rfl ⟨rfl, rfl⟩ (by kernel_rfl) rfl
    (fun f fn hf hfn => by
      obtain rfl : f = 3 := Option.some.inj ((show Tryz.prog.funcNamed "conduit/conduitlaw10.PlogReads" = some 3 by kernel_rfl).symm.trans hf) |>.symm
      obtain rfl : fn = Tryz.f3 := (Option.some.inj (Tryz.func3.symm.trans hfn)).symm
      exact ⟨by kernel_rfl, fun j t ht => by
        rw [Tryz.params3] at ht
        have hm : t ∈ [3, 22, 3, 3] := by simpa using Array.mem_of_getElem? ht
        have hall : ([3, 22, 3, 3].all fun u => !Tryz.prog.wantsStandIn u) = true := by kernel_rfl
        exact (show Tryz.prog.wantsStandIn t = false by simpa using List.all_eq_true.1 hall t hm)⟩)
    (by kernel_rfl)
#print axioms proved
end Go.Proofs.YthpjoogmmjikmaaGreatDoor.plogReads
