/-
  conduitlaw10.PlogNone: whatever the arguments are, the law answers true and the arguments read behind the call as before.
  No condition.
-/
import Derived.Test.YthpjoogmmjikmaaGreatDoorRows
import Derived.Test.YthpjoogmmjikmaaGreatDoorSxl
import Derived.WalkKit
import Derived.Test.YthpjoogmmjikmaaGreatDoorCards
import Derived.Test.YthpjoogmmjikmaaGreatDoorTie
import Derived.ProofKit
import Derived.OpenShut
import Derived.LaidMore
import Derived.Lay
import Derived.SevenTiedAt
import Derived.Stop.Joined
import Derived.Shelf.SortM.Plain
import Derived.Shelf.SortM.SortNone
import Derived.Ground.GgzProg
import Derived.Ground.SlgmProg
namespace Go.Proofs
open Go.RowKit Go.Maps Go.Sort Go.Shelf
shelf_lay_g SlLaysZ.n7 Ggz 7 at Tryz 74 as Tryz.keyshk0
shelf_lay_g SlLaysZ.n6 Ggz 6 at Tryz 73 as Tryz.sortedhk0
shelf_lay_g SlLaysM.n6 Slgm 6 at Tryz 111 as Tryz.sorthk0
theorem Tryz.sortshk0 (m : Nat) : AnyZ.SortsIn Tryz.prog Tryz.sortedhk0_ren Fence.wide m :=
  ⟨fun blk off cap ss W hH hblk hsz => callsIn_wide.2 (AnyM.slices_Sort_string Tryz.sorthk0 blk off cap ss W hH hblk hsz),
   fun p cap W => callsIn_wide.2 (AnyM.slices_Sort_string_none Tryz.sorthk0 p cap W)⟩
theorem Tryz.contracthk0 : Go.Sx.SortC Tryz.prog Go.Sx.kindS 73 112 9 :=
  Go.Sx.sortC_str (ρ := Tryz.sortedhk0_ren) (ρ' := Tryz.keyshk0_ren) { Tryz.keyshk0 with } Tryz.sortedhk0 Tryz.sortshk0 (enters_of Tryz.func111 (by kernel_rfl) rfl) (enters_of Tryz.func112 (by kernel_rfl) rfl) Tryz.underlying9
end Go.Proofs

namespace Go.Proofs.YthpjoogmmjikmaaGreatDoor.plogNone
open Go.ChangeShapes Go.WideShapes Go.ChangeAt Go.RowKit Go.Sx

noncomputable def hooks : List HR := [⟨73, hookS kindS 73 112⟩]
theorem hooks_ok : ∀ h ∈ hooks, HRok Tryz.prog h := by
  intro h hh
  simp only [hooks, List.mem_cons, List.not_mem_nil, or_false] at hh
  subst hh
  exact hookS_ok kindS_good Tryz.contracthk0 Tryz.func73 rfl

theorem own : ownKnob Tryz.prog.godebug = none := by kernel_rfl

set_option maxRecDepth 100000 in
theorem evn (x0 : Int) : kN Tryz.prog (hookOf hooks) 100000 (.call 5 [.int .i64 x0, .nilslice] (argW 2)) saysTrue = true := by kernel_rfl

set_option maxRecDepth 100000 in
theorem evs (x0 : Int) (l1 c1 : Nat) : kN Tryz.prog (hookOf hooks) 100000 (.call 5 [.int .i64 x0, .slice 2 0 l1 c1 none] (argW 2)) saysTrue = true := by kernel_rfl

theorem evals {avs : List AV} (h : ShapeAll Tryz.prog 1 [3, 30] avs) : kN Tryz.prog (hookOf hooks) 100000 (.call 5 avs (argW 2)) saysTrue = true := by
  obtain ⟨a0, r0, rfl, h0, h⟩ := h
  obtain ⟨a1, r1, rfl, h1, h⟩ := h
  have h : _ = [] := h
  subst h
  cases h0
  case int kk x0 hu =>
    rw [Tryz.underlying3] at hu; cases hu
    cases h1
    case int kk x1 hu =>
      rw [Tryz.underlying30] at hu; cases hu
    case bool x1 hu =>
      rw [Tryz.underlying30] at hu; cases hu
    case str x1 hu =>
      rw [Tryz.underlying30] at hu; cases hu
    case nils e1 hu =>
      exact evn x0
    case slice e1 l1 c1 hu =>
      exact evs x0 l1 c1
  case bool x0 hu =>
    rw [Tryz.underlying3] at hu; cases hu
  case str x0 hu =>
    rw [Tryz.underlying3] at hu; cases hu
  case nils e0 hu =>
    rw [Tryz.underlying3] at hu; cases hu
  case slice e0 l0 c0 hu =>
    rw [Tryz.underlying3] at hu; cases hu

set_option maxRecDepth 100000 in
theorem walk {base : Nat} {H : Type} {enc : TypeId × Value → H} (W : World) {args : Array Value} {ds : List (DataW H)} {ps : List MemPlace}
    (hv : ∀ (j : Nat) (t : TypeId) (v : Value), ([3, 30] : List TypeId)[j]? = some t → args.toList[j]? = some v → Value.okWide Tryz.prog W .any base t v)
    (hd : DataW.TrodAll enc Tryz.prog W 0 (fun _ => true) true [3, 30] args.toList ds ps) :
    Calls Tryz.prog 5 args W fun e W' => e = .returned (.bool true) ∧ ∃ w' m', Rel W W.heap.size m' w' W' := by
  obtain ⟨m0, hm0, hr0⟩ := start_args (W := W)
  obtain ⟨m, avs, hm, _, hvs, hsh⟩ := open_args hm0 hr0 (ts := [3, 30]) (fun t ht => List.all_eq_true.1 (show ([3, 30] : List TypeId).all (flatT Tryz.prog) = true from by kernel_rfl) t ht) hv hd
  exact walkK (host_hooks hooks_ok (by kernel_rfl) (by kernel_rfl) (by kernel_rfl)) (by kernel_rfl) (evals hsh) Tryz.func5 rfl (Rel.args hm) hvs

set_option maxRecDepth 100000 in
theorem lifted (os : Os) (started : os.Started) (H : Type) (enc : TypeId × Value → H) :
    ReturnsInHanded {} Tryz.checked os 5 .any (fun w args => (Rows.plogNoneSpec.pre enc Tryz.prog Tryz.f5 [] false w args ∧ laidMetH Tryz.prog Rows.plogNoneRow.laid w) ∧ sizedMet enc Tryz.prog Tryz.f5 (OpenSpec.ofChange Rows.plogNoneSpec) false w args) (Rows.plogNoneSpec.post enc Tryz.prog Tryz.f5 false true false false) := by
  refine returnsInHanded_of_change_and (C := Tryz.checked) (X := fun w _ => laidMetH Tryz.prog Rows.plogNoneRow.laid w) (fun _ _ _ hh h => h.of_heap hh) own started (by kernel_rfl) Tryz.func5
    (ChangeSpec.witness_shaped (enc := enc) (C := Tryz.checked) (os := os) (X := fun w _ => laidMetH Tryz.prog Rows.plogNoneRow.laid w) false (World.laidAll Tryz.prog os Rows.plogNoneRow.laid) #[.int .i64 0, .slice none 0 0] 8 (World.laidAll_os _ _ _)
      (World.shaped_of_ZipB (by kernel_rfl) (by kernel_rfl)) (by kernel_rfl) (by kernel_rfl) (by kernel_rfl)
      (by rw [MakeChecks.laidMetH_plain _ _ _ (by kernel_rfl)]; exact laidMet_laidAll _ (by kernel_rfl) (by kernel_rfl))) ?_
  intro W base args ds gs before hval0 hW _ _ hL _
  have hval : ∀ (j : Nat) t v, Tryz.f5.params[j]? = some t → args[j]? = some v → Value.okWide Tryz.prog W .any base t v := hval0
  have hW' := hW
  obtain ⟨p, q, hA0, hV, rfl, hfz, hnd⟩ := hW
  have hA : DataW.TrodAll enc Tryz.prog W 0 (fun _ => true) true Tryz.f5.params.toList args.toList ds p := hA0
  obtain ⟨rfl, rfl⟩ := trodVars_none hV
  rw [Tryz.params5] at hA hval
  refine (walk (base := base) W (fun j t v h1 h2 => hval j t v (by rw [← Array.getElem?_toList]; exact h1) (by rw [← Array.getElem?_toList]; exact h2)) hA).mono fun e W' ⟨he, w', m', hrel⟩ => ?_
  subst he
  have hlen : ds.length = 2 := trodAll_len hA
  have hfn : ∃ d0 d1, ds = [d0, d1] := by
    match ds, hlen with
    | [d0, d1], _ => exact ⟨d0, d1, rfl⟩
  obtain ⟨d0, d1, rfl⟩ := hfn
  exact ⟨_, rfl, post_law (tb := 4) 6 (fun t ht => List.all_eq_true.1 (show (Tryz.f5.params.toList).all (plainT Tryz.prog 6) = true from by kernel_rfl) t ht) rfl rfl Tryz.underlying4 rfl rfl hW' (hrel.kept _) hrel.old.2 hrel.frozen (ok_one (by kernel_rfl) rfl (okWide_bool_mk Tryz.underlying4 _))⟩

theorem over : Rows.plogNoneRow.holds Tryz.pinned (OpenSpec.ofChange Rows.plogNoneSpec) :=
  OpenClaim.holds_of_wide 5 Tryz.f5 rfl rfl rfl rfl rfl rfl rfl ⟨rfl, rfl, rfl, rfl, rfl⟩ rfl rfl rfl rfl rfl (by kernel_rfl) Tryz.func5 (by kernel_rfl)
    (of_decide_eq_true (by kernel_rfl)) (by unfold Func.isWrapper; first | (rw [if_pos (by decide +kernel)]; kernel_rfl) | (rw [if_neg (by decide +kernel)]; exact ⟨rfl, rfl⟩))
    (fun os started H enc _ => lifted os started H enc)

theorem proved : Rows.PlogNoneCardSaid :=
  Claim7.holds_tied_plain_at .later [] [.data, .data, .data, .data, .sentinel, .sentinel, .pinned] true (true, "caa593ef779d57136109de5a835d83d81e567412518daf6cc50ed40181169c33") true over (fun _ h => by cases h) (by kernel_rfl) (fun _ h => by cases h) plogNone_row_tie rfl ⟨rfl, rfl⟩ (by kernel_rfl) rfl
    (fun f fn hf hfn => by
      obtain rfl : f = 5 := Option.some.inj ((show Tryz.prog.funcNamed "conduit/conduitlaw10.PlogNone" = some 5 by kernel_rfl).symm.trans hf) |>.symm
      obtain rfl : fn = Tryz.f5 := (Option.some.inj (Tryz.func5.symm.trans hfn)).symm
      exact ⟨by kernel_rfl, fun j t ht => by
        rw [Tryz.params5] at ht
        have hm : t ∈ [3, 30] := by simpa using Array.mem_of_getElem? ht
        have hall : ([3, 30].all fun u => !Tryz.prog.wantsStandIn u) = true := by kernel_rfl
        exact (show Tryz.prog.wantsStandIn t = false by simpa using List.all_eq_true.1 hall t hm)⟩)
    (by kernel_rfl)
#print axioms proved
end Go.Proofs.YthpjoogmmjikmaaGreatDoor.plogNone
