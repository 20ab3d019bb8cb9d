/-
  conduitlaw12.NetPlays: whatever the arguments are, the law answers true and the arguments read behind the call as before.
  No condition.
-/
import Derived.Test.YtingojpcdpelaaaRows
import Derived.Test.YtingojpcdpelaaaZ12
import Derived.Test.YtingojpcdpelaaaSxq
import Derived.Test.YtingojpcdpelaaaSxt
import Derived.Test.YtingojpcdpelaaaSxm
import Derived.Test.YtingojpcdpelaaaSxo
import Derived.WalkKit
import Derived.SizedLaws
import Derived.Shelf.SortM.Plain
import Derived.Shelf.SortM.SortNone
import Derived.Ground.GgzProg
import Derived.Ground.SlgmProg
set_option linter.unusedSimpArgs false
set_option linter.unusedVariables false
namespace Go.Proofs
open Go.RowKit Go.Maps Go.Sort Go.Shelf
shelf_lay_g SlLaysZI.n7 Ggz 7 at Try 36 as Try.keyshk0
shelf_lay_g SlLaysZI.n6 Ggz 6 at Try 35 as Try.sortedhk0
shelf_lay_g SlLaysM.n5 Slgm 5 at Try 43 as Try.sorthk0
theorem Try.sortshk0 (m : Nat) : AnyZI.SortsIn Try.prog Try.sortedhk0_ren Fence.wide m :=
  ⟨fun blk off cap ss W hH hblk hsz => callsIn_wide.2 (AnyM.slices_Sort_int Try.sorthk0 blk off cap ss W hH hblk hsz),
   fun p cap W => callsIn_wide.2 (AnyM.slices_Sort_int_none Try.sorthk0 p cap W)⟩
theorem Try.contracthk0 : Go.Sx.SortC Try.prog Go.Sx.kindI 35 44 3 :=
  Go.Sx.sortC_int (ρ := Try.sortedhk0_ren) (ρ' := Try.keyshk0_ren) { Try.keyshk0 with } Try.sortedhk0 Try.sortshk0 (enters_of Try.func43 (by kernel_rfl) rfl) (enters_of Try.func44 (by kernel_rfl) rfl) Try.underlying3
end Go.Proofs

namespace Go.Proofs.Ytingojpcdpelaaa.netPlays
open Go.Sx

noncomputable def hooks0 : List HR := [⟨35, hookS kindI 35 44⟩]
theorem hooks0_ok : ∀ h ∈ hooks0, HRok Try.prog h := by
  intro h hh
  simp only [hooks0, List.mem_cons, List.not_mem_nil, or_false] at hh
  subst hh
  exact hookS_ok kindI_good Try.contracthk0 Try.func35 rfl
set_option maxRecDepth 100000 in
theorem apart15 : kN Try.prog (hookOf hooks0) 100000 (.call 15 [] ⟨1, .nil⟩) (says (.bool true)) = true := by kernel_rfl
noncomputable def hooks : List HR := [⟨15, hookApart [] (.bool true)⟩, ⟨35, hookS kindI 35 44⟩]
theorem hooks_ok : ∀ h ∈ hooks, HRok Try.prog h := by
  intro h hh
  simp only [hooks, List.mem_cons, List.not_mem_nil, or_false] at hh
  rcases hh with rfl | rfl
  · exact hookApart_ok (fun _ _ => host_hooks hooks0_ok (by kernel_rfl) (by kernel_rfl) (by kernel_rfl)) rfl rfl (by kernel_rfl) apart15 Try.func15 rfl
  · exact hookS_ok kindI_good Try.contracthk0 Try.func35 rfl

theorem host {W : World} {n : Nat} : Host Try.prog (hookOf hooks) W n := host_hooks hooks_ok (by kernel_rfl) (by kernel_rfl) (by kernel_rfl)
theorem hk_ok : HK (hookOf hooks) := by
  refine ⟨fun f a w h1 h2 => ?_, fun a w x h => ?_, fun w => rfl⟩
  · show Bool.rec (motive := fun _ => Option (Option (AV × AW))) (Bool.rec (motive := fun _ => Option (Option (AV × AW))) none _ (Nat.beq f 35)) _ (Nat.beq f 15) = none
    rw [beq_ff h1, beq_ff h2]
  · show (match hookS kindI 35 44 w a with | some x => some (some x) | none => none) = some (some x)
    rw [h]
set_option maxRecDepth 100000 in
theorem ops {css : List (List AV)} {v : AV} (h : Dt Try.prog css 50 [v]) : ∃ l : List Op7, (rL rOp).rd (fun _ => True) (argL css) [v] l ∧ ∀ x ∈ l, x.body.length ≤ 140737488351232 := by
  suffices hsf : ∀ cs, Dt Try.prog css 58 cs → ∃ x : Op7, rOp.rd (fun _ => True) (argL css) cs x ∧ x.body.length ≤ 140737488351232 by
    obtain ⟨l, h1, _, h2⟩ := Dt.rdL (r := rOp) Try.underlying50 (by kernel_rfl) hsf h
    exact ⟨l, h1, h2⟩
  intro cs h
  obtain ⟨hl, hf⟩ := h.fields Try.underlying58
  rw [show Try.prog.cellsOf 58 = 6 from by kernel_rfl] at hl
  match cs, hl with
  | [a, b, c, d, e, f], _ =>
    obtain ⟨n0, h0, _⟩ := (hf 0 _ rfl).i64 Try.underlying3
    obtain ⟨n1, h1, _⟩ := (hf 1 _ rfl).i64 Try.underlying3
    obtain ⟨n2, h2, _⟩ := (hf 2 _ rfl).i64 Try.underlying3
    obtain ⟨n3, h3, _⟩ := (hf 3 _ rfl).i64 Try.underlying3
    obtain ⟨n5, h5, _⟩ := (hf 5 _ rfl).i64 Try.underlying3
    obtain ⟨s, h4, h4'⟩ := Dt.rdB (v := e) Try.underlying27 Try.underlying5 (by kernel_rfl) (by kernel_rfl) (hf 4 _ rfl)
    have e0 : a = .int .i64 n0 := by have h0 : [a] = _ := h0; simpa using h0
    have e1 : b = .int .i64 n1 := by have h1 : [b] = _ := h1; simpa using h1
    have e2 : c = .int .i64 n2 := by have h2 : [c] = _ := h2; simpa using h2
    have e3 : d = .int .i64 n3 := by have h3 : [d] = _ := h3; simpa using h3
    have e5 : f = .int .i64 n5 := by have h5 : [f] = _ := h5; simpa using h5
    exact ⟨⟨n0, n1, n2, n3, s, n5⟩, ⟨e, by rw [e0, e1, e2, e3, e5], h4⟩, h4'⟩
theorem law (css : List (List AV)) (avs : List AV) (h : DtAll Try.prog css [4, 50] avs) : hookOf hooks 7 avs (argL css) = none ∧ Cl Try.prog (hookOf hooks) 7 avs (argL css) fun v _ => v = .bool true := by
  obtain ⟨a, _, rfl, h1, b, _, rfl, h2, rfl⟩ := h
  obtain ⟨l, hl, hb⟩ := ops h2
  obtain ⟨m, rfl⟩ : ∃ m : Bool, a = .bool m := by
    obtain ⟨m, hm⟩ := h1.boolean Try.underlying4
    exact ⟨m, by simpa using hm⟩
  exact ⟨hk_ok.no _ _ _ (by decide) (by decide), s7 hk_ok Pv.arg hl hb⟩
end Go.Proofs.Ytingojpcdpelaaa.netPlays

namespace Go.Proofs.Ytingojpcdpelaaa.netPlays
open Go.ChangeShapes Go.WideShapes Go.ChangeAt Go.RowKit Go.Sx
theorem own : ownKnob Try.prog.godebug = none := by kernel_rfl

set_option maxRecDepth 100000 in
theorem lifted (os : Os) (started : os.Started) (H : Type) (enc : TypeId × Value → H) :
    ReturnsInHanded {} Try.checked os 7 .any (Rows.netPlaysSpec.pre6 enc Try.prog Try.f7 Rows.netPlaysRow.domain false) (Rows.netPlaysSpec.post enc Try.prog Try.f7 false true false false) := by
  refine returnsInHanded_of_change_sized (C := Try.checked) own started (by kernel_rfl) Try.func7
    (ChangeSpec.witness6 (enc := enc) (C := Try.checked) false ⟨#[], #[.bool false, .slice none 0 0], []⟩ 8 (by kernel_rfl) (by kernel_rfl) (by kernel_rfl) (by kernel_rfl)) ?_
  intro W base args ds gs before hval0 hW hcnd hsz0 _
  have hval : ∀ (j : Nat) t v, Try.f7.params[j]? = some t → args[j]? = some v → Value.okWide Try.prog W .any base t v := hval0
  have hW' := hW
  obtain ⟨p, q, hA0, hV, rfl, hfz, hnd⟩ := hW
  have hA : DataW.TrodAll enc Try.prog W 0 (fun _ => true) true Try.f7.params.toList args.toList ds p := hA0
  obtain ⟨rfl, rfl⟩ := trodVars_none hV
  rw [show Rows.netPlaysSpec.plain.varTypes Try.checked.prog = [] from by kernel_rfl, List.append_nil, List.append_nil] at hsz0
  have hsz : (DataW.weightsEach Try.prog Try.f7.params.toList ds).all (· ≤ reachBytes) = true := hsz0
  rw [Try.params7] at hA hval hsz
  have walk : Calls Try.prog 7 args W fun e W' => e = .returned (.bool true) ∧ ∃ w' m', Rel W W.heap.size m' w' W' :=
    walkD (dd := 8) (ts := [4, 50]) host Try.func7 rfl (fun t ht => List.all_eq_true.1 (show ([4, 50] : List TypeId).all (okT Try.prog 8) = true from by kernel_rfl) t ht) law
      (fun j t v h1 h2 => hval j t v (by rw [← Array.getElem?_toList]; exact h1) (by rw [← Array.getElem?_toList]; exact h2)) hA hsz
  refine walk.mono fun e W' ⟨he, w', m', hrel⟩ => ?_
  subst he
  have hlen : ds.length = 2 := trodAll_len hA
  have hfn : ∃ d0 d1, ds = [d0, d1] := by
    match ds, hlen with
    | [d0, d1], _ => exact ⟨d0, d1, rfl⟩
  obtain ⟨d0, d1, rfl⟩ := hfn
  exact ⟨_, rfl, post_law (tb := 4) 6 (fun t ht => List.all_eq_true.1 (show (Try.f7.params.toList).all (plainT Try.prog 6) = true from by kernel_rfl) t ht) rfl rfl Try.underlying4 rfl rfl hW' (hrel.kept _) hrel.old.2 hrel.frozen (ok_one (by kernel_rfl) rfl (okWide_bool_mk Try.underlying4 _))⟩

theorem over : Rows.netPlaysRow.holds Try.pinned (OpenSpec.ofChange Rows.netPlaysSpec) :=
  OpenClaim.holds_of_wide 7 Try.f7 rfl rfl rfl rfl rfl rfl rfl ⟨rfl, rfl, rfl, rfl, rfl⟩ rfl rfl rfl rfl rfl (by kernel_rfl) Try.func7 (by kernel_rfl)
    (of_decide_eq_true (by kernel_rfl)) (by unfold Func.isWrapper; first | (rw [if_pos (by decide +kernel)]; kernel_rfl) | (rw [if_neg (by decide +kernel)]; exact ⟨rfl, rfl⟩))
    (fun os started H enc _ => lifted os started H enc)

theorem proved : Rows.NetPlaysSaid :=
  over
#print axioms proved
end Go.Proofs.Ytingojpcdpelaaa.netPlays
