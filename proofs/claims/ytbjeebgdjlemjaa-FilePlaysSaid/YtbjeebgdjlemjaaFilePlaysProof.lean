/-
  conduitlaw07.FilePlays: whatever the arguments are, the law answers true and the arguments read behind the call as before.
  No condition.
-/
import Derived.Test.YtbjeebgdjlemjaaRows
import Derived.Test.YtbjeebgdjlemjaaMf
import Derived.Test.YtbjeebgdjlemjaaSxq
import Derived.Test.YtbjeebgdjlemjaaSxt
import Derived.Test.YtbjeebgdjlemjaaSxm
import Derived.Test.YtbjeebgdjlemjaaSxl
import Derived.WalkKit
import Derived.SizedLaws
import Derived.Shelf.SortM.Plain
import Derived.Shelf.SortM.SortNone
import Derived.Ground.GgzProg
import Derived.Ground.SlgmProg
set_option linter.unusedSimpArgs false
set_option linter.unusedVariables false
namespace Go.Proofs
open Go.RowKit Go.Maps Go.Sort Go.Shelf
shelf_lay_g SlLaysZ.n7 Ggz 7 at Try 56 as Try.keyshk0
shelf_lay_g SlLaysZ.n6 Ggz 6 at Try 55 as Try.sortedhk0
shelf_lay_g SlLaysM.n6 Slgm 6 at Try 75 as Try.sorthk0
theorem Try.sortshk0 (m : Nat) : AnyZ.SortsIn Try.prog Try.sortedhk0_ren Fence.wide m :=
  ⟨fun blk off cap ss W hH hblk hsz => callsIn_wide.2 (AnyM.slices_Sort_string Try.sorthk0 blk off cap ss W hH hblk hsz),
   fun p cap W => callsIn_wide.2 (AnyM.slices_Sort_string_none Try.sorthk0 p cap W)⟩
theorem Try.contracthk0 : Go.Sx.SortC Try.prog Go.Sx.kindS 55 76 9 :=
  Go.Sx.sortC_str (ρ := Try.sortedhk0_ren) (ρ' := Try.keyshk0_ren) { Try.keyshk0 with } Try.sortedhk0 Try.sortshk0 (enters_of Try.func75 (by kernel_rfl) rfl) (enters_of Try.func76 (by kernel_rfl) rfl) Try.underlying9
end Go.Proofs

namespace Go.Proofs.Ytbjeebgdjlemjaa.filePlays
open Go.Sx

noncomputable def hooks0 : List HR := [⟨55, hookS kindS 55 76⟩]
theorem hooks0_ok : ∀ h ∈ hooks0, HRok Try.prog h := by
  intro h hh
  simp only [hooks0, List.mem_cons, List.not_mem_nil, or_false] at hh
  subst hh
  exact hookS_ok kindS_good Try.contracthk0 Try.func55 rfl
set_option maxRecDepth 100000 in
theorem apart14 : kN Try.prog (hookOf hooks0) 100000 (.call 14 [] ⟨1, .nil⟩) (says (.bool true)) = true := by kernel_rfl
noncomputable def hooks : List HR := [⟨14, hookApart [] (.bool true)⟩, ⟨55, hookS kindS 55 76⟩]
theorem hooks_ok : ∀ h ∈ hooks, HRok Try.prog h := by
  intro h hh
  simp only [hooks, List.mem_cons, List.not_mem_nil, or_false] at hh
  rcases hh with rfl | rfl
  · exact hookApart_ok (fun _ _ => host_hooks hooks0_ok (by kernel_rfl) (by kernel_rfl) (by kernel_rfl)) rfl rfl (by kernel_rfl) apart14 Try.func14 rfl
  · exact hookS_ok kindS_good Try.contracthk0 Try.func55 rfl

theorem host {W : World} {n : Nat} : Host Try.prog (hookOf hooks) W n := host_hooks hooks_ok (by kernel_rfl) (by kernel_rfl) (by kernel_rfl)
theorem hk_ok : HK (hookOf hooks) := by
  refine ⟨fun f a w h1 h2 => ?_, fun a w x h => ?_, fun w => rfl⟩
  · show Bool.rec (motive := fun _ => Option (Option (AV × AW))) (Bool.rec (motive := fun _ => Option (Option (AV × AW))) none _ (Nat.beq f 55)) _ (Nat.beq f 14) = none
    rw [beq_ff h1, beq_ff h2]
  · show (match hookS kindS 55 76 w a with | some x => some (some x) | none => none) = some (some x)
    rw [h]
theorem keeps {css : List (List AV)} {v : AV} (h : Dt Try.prog css 23 [v]) : ∃ l : List Bool, (rL rT).rd (fun _ => True) (argL css) [v] l ∧ l.length < 2 ^ 62 := by
  obtain ⟨l, h1, h2, _⟩ := Dt.rdL (r := rT) (Q := fun _ => True) Try.underlying23 (by kernel_rfl) (fun cs h => by obtain ⟨b, hb⟩ := h.boolean Try.underlying4; exact ⟨b, hb, trivial⟩) h
  rw [show Try.prog.bytesOf 4 = 1 from by kernel_rfl] at h2
  have : reachBytes = 140737488351232 := rfl
  exact ⟨l, h1, by omega⟩
set_option maxRecDepth 100000 in
theorem ops {css : List (List AV)} {v : AV} (h : Dt Try.prog css 57 [v]) : ∃ l : List OpF, (rL rOpF).rd (fun _ => True) (argL css) [v] l ∧ ∀ o ∈ l, o.keep.length < 2 ^ 62 ∧ o.n < 2 ^ 63 := by
  suffices hsf : ∀ cs, Dt Try.prog css 69 cs → ∃ x : OpF, rOpF.rd (fun _ => True) (argL css) cs x ∧ (x.keep.length < 2 ^ 62 ∧ x.n < 2 ^ 63) by
    obtain ⟨l, h1, _, h2⟩ := Dt.rdL (r := rOpF) Try.underlying57 (by kernel_rfl) hsf h
    exact ⟨l, h1, h2⟩
  intro cs h
  obtain ⟨hl, hf⟩ := h.fields Try.underlying69
  rw [show Try.prog.cellsOf 69 = 9 from by kernel_rfl] at hl
  match cs, hl with
  | [a, b, c, d, e, f, g, i, j], _ =>
    obtain ⟨n0, h0, _⟩ := (hf 0 _ rfl).i64 Try.underlying3
    obtain ⟨n1, h1, _⟩ := (hf 1 _ rfl).i64 Try.underlying3
    obtain ⟨s2, h2, _⟩ := (hf 2 _ rfl).rdS Try.underlying9
    obtain ⟨s3, h3, _⟩ := (hf 3 _ rfl).rdS Try.underlying9
    obtain ⟨n4, h4, h4a, h4b⟩ := (hf 4 _ rfl).i64 Try.underlying3
    obtain ⟨n5, h5, _⟩ := (hf 5 _ rfl).i64 Try.underlying3
    obtain ⟨n6, h6⟩ := (hf 6 _ rfl).u8 Try.underlying5
    obtain ⟨n7, h7, _⟩ := (hf 7 _ rfl).i64 Try.underlying3
    obtain ⟨l, h8, h8'⟩ := keeps (v := j) (hf 8 _ rfl)
    have e0 : a = .int .i64 n0 := by have h0 : [a] = _ := h0; simpa using h0
    have e1 : b = .int .i64 n1 := by have h1 : [b] = _ := h1; simpa using h1
    have e2 : c = .str s2 := by have h2 : [c] = _ := h2; simpa using h2
    have e3 : d = .str s3 := by have h3 : [d] = _ := h3; simpa using h3
    have e4 : e = .int .i64 n4 := by have h4 : [e] = _ := h4; simpa using h4
    have e5 : f = .int .i64 n5 := by have h5 : [f] = _ := h5; simpa using h5
    have e6 : g = .int .u8 n6.toNat := by have h6 : [g] = _ := h6; simpa using h6
    have e7 : i = .int .i64 n7 := by have h7 : [i] = _ := h7; simpa using h7
    exact ⟨⟨n0, n1, s2, s3, n4, n5, n6, n7, l⟩, ⟨j, by rw [e0, e1, e2, e3, e4, e5, e6, e7], h8⟩, h8', by show n4 < 2 ^ 63; omega⟩
theorem law (css : List (List AV)) (avs : List AV) (h : DtAll Try.prog css [57] avs) : hookOf hooks 8 avs (argL css) = none ∧ Cl Try.prog (hookOf hooks) 8 avs (argL css) fun v _ => v = .bool true := by
  obtain ⟨a, _, rfl, h1, rfl⟩ := h
  obtain ⟨l, hl, hb⟩ := ops h1
  exact ⟨hk_ok.no _ _ _ (by decide) (by decide), s8 hk_ok Pv.arg hl hb⟩
end Go.Proofs.Ytbjeebgdjlemjaa.filePlays

namespace Go.Proofs.Ytbjeebgdjlemjaa.filePlays
open Go.ChangeShapes Go.WideShapes Go.ChangeAt Go.RowKit Go.Sx
theorem own : ownKnob Try.prog.godebug = none := by kernel_rfl

set_option maxRecDepth 100000 in
theorem lifted (os : Os) (started : os.Started) (H : Type) (enc : TypeId × Value → H) :
    ReturnsInHanded {} Try.checked os 8 .any (Rows.filePlaysSpec.pre6 enc Try.prog Try.f8 Rows.filePlaysRow.domain false) (Rows.filePlaysSpec.post enc Try.prog Try.f8 false true false false) := by
  refine returnsInHanded_of_change_sized (C := Try.checked) own started (by kernel_rfl) Try.func8
    (ChangeSpec.witness6 (enc := enc) (C := Try.checked) false ⟨#[], #[.slice none 0 0], []⟩ 8 (by kernel_rfl) (by kernel_rfl) (by kernel_rfl) (by kernel_rfl)) ?_
  intro W base args ds gs before hval0 hW hcnd hsz0 _
  have hval : ∀ (j : Nat) t v, Try.f8.params[j]? = some t → args[j]? = some v → Value.okWide Try.prog W .any base t v := hval0
  have hW' := hW
  obtain ⟨p, q, hA0, hV, rfl, hfz, hnd⟩ := hW
  have hA : DataW.TrodAll enc Try.prog W 0 (fun _ => true) true Try.f8.params.toList args.toList ds p := hA0
  obtain ⟨rfl, rfl⟩ := trodVars_none hV
  rw [show Rows.filePlaysSpec.plain.varTypes Try.checked.prog = [] from by kernel_rfl, List.append_nil, List.append_nil] at hsz0
  have hsz : (DataW.weightsEach Try.prog Try.f8.params.toList ds).all (· ≤ reachBytes) = true := hsz0
  rw [Try.params8] at hA hval hsz
  have walk : Calls Try.prog 8 args W fun e W' => e = .returned (.bool true) ∧ ∃ w' m', Rel W W.heap.size m' w' W' :=
    walkD (dd := 8) (ts := [57]) host Try.func8 rfl (fun t ht => List.all_eq_true.1 (show ([57] : List TypeId).all (okT Try.prog 8) = true from by kernel_rfl) t ht) law
      (fun j t v h1 h2 => hval j t v (by rw [← Array.getElem?_toList]; exact h1) (by rw [← Array.getElem?_toList]; exact h2)) hA hsz
  refine walk.mono fun e W' ⟨he, w', m', hrel⟩ => ?_
  subst he
  have hlen : ds.length = 1 := trodAll_len hA
  have hfn : ∃ d0, ds = [d0] := by
    match ds, hlen with
    | [d0], _ => exact ⟨d0, rfl⟩
  obtain ⟨d0, rfl⟩ := hfn
  exact ⟨_, rfl, post_law (tb := 4) 6 (fun t ht => List.all_eq_true.1 (show (Try.f8.params.toList).all (plainT Try.prog 6) = true from by kernel_rfl) t ht) rfl rfl Try.underlying4 rfl rfl hW' (hrel.kept _) hrel.old.2 hrel.frozen (ok_one (by kernel_rfl) rfl (okWide_bool_mk Try.underlying4 _))⟩

theorem over : Rows.filePlaysRow.holds Try.pinned (OpenSpec.ofChange Rows.filePlaysSpec) :=
  OpenClaim.holds_of_wide 8 Try.f8 rfl rfl rfl rfl rfl rfl rfl ⟨rfl, rfl, rfl, rfl, rfl⟩ rfl rfl rfl rfl rfl (by kernel_rfl) Try.func8 (by kernel_rfl)
    (of_decide_eq_true (by kernel_rfl)) (by unfold Func.isWrapper; first | (rw [if_pos (by decide +kernel)]; kernel_rfl) | (rw [if_neg (by decide +kernel)]; exact ⟨rfl, rfl⟩))
    (fun os started H enc _ => lifted os started H enc)

theorem proved : Rows.FilePlaysSaid :=
  over
#print axioms proved
end Go.Proofs.Ytbjeebgdjlemjaa.filePlays
