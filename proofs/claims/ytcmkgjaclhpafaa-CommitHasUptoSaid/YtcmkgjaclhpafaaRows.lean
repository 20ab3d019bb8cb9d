/-
  No cell of these rows narrows 'for every input' (looked for: loops, veiled, ifaces, maps, wideKeys, modest, calm, conditions, laid).
  DERIVED. THE GIVEN ROWS OF THIS SEAT. 4 by the template 'for every input the law returns true; each argument reads behind the call as it read before'; 0 by the template 'total and deterministic' (their statements: YtcmkgjaclhpafaaTotals.lean).
  GIVEN WITH THE SEED: the statements are not yours to turn. If you find one false, say at which input.
  Laid BY PROGRAM, IN A SANDBOX (cutbox-rows.mjs): the forced cells as the released guide's own fill.sh prints them over the translation 70f966bfc120abe0… (all of the seat's roots in one cut). By AI agents, Wed Nov 11 2026. No macro, syntax, notation, axiom, sorry.
-/
import Derived.Test.YtcmkgjaclhpafaaChecked
import GoSem.Claim
import GoSem.ClaimJoined
import GoSem.ClaimMapViews
import Derived.JoinedTies
import Derived.KernelRfl
namespace Go.Proofs.Ytcmkgjaclhpafaa
/- THE CELL 'sum', in the pinned program and in every row, IS THE sha256 OF THE DUMP (.gsa) THAT YtcmkgjaclhpafaaProg.lean LOADS. Nothing in Lean hashes anything: it is a label: what it is worth is what the hold of that sum in a sandbox is worth. -/
noncomputable def Try.pinned : Pinned := { name := "ytcmkgjaclhpafaa", sum := "70f966bfc120abe0746a343c6a60b5ecfede866065ad87c256b0075a6d1c07b2", checked := Try.checked }
namespace Rows
def none {H : Type} : Left H := { results := [], args := [] }

/-- 'conduitlaw22.CommitNumbers': WHATEVER THE INPUT: true; the input reads as it did. -/
def commitNumbersSpec : ChangeSpec := { name := "commitNumbers", fn := fun _ => fun
  | [] => { results := [.lit (.bool true)], args := [] }
  | _ => none }
def commitNumbersRow : OpenClaim := { program := "ytcmkgjaclhpafaa", sum := "70f966bfc120abe0746a343c6a60b5ecfede866065ad87c256b0075a6d1c07b2", func := "conduit/conduitlaw22.CommitNumbers", spec := "commitNumbers", unfollowed := true, recurses := true, apart := false }
def CommitNumbersSaid : Prop := commitNumbersRow.holds Try.pinned (OpenSpec.ofChange commitNumbersSpec)

/-- ITS FALSE NEIGHBOUR: 'it returns false'. Refute it at one input. -/
def commitNumbersWrong : ChangeSpec := { name := "commitNumbers", fn := fun _ => fun
  | [] => { results := [.lit (.bool false)], args := [] }
  | _ => none }
def CommitNumbersWrongFalsely : Prop := commitNumbersRow.holds Try.pinned (OpenSpec.ofChange commitNumbersWrong)

/-- 'conduitlaw22.CommitTells': WHATEVER THE INPUT: true; the input reads as it did. -/
def commitTellsSpec : ChangeSpec := { name := "commitTells", fn := fun _ => fun
  | [d1, d2, d3, d4, d5, d6] => { results := [.lit (.bool true)], args := [d1, d2, d3, d4, d5, d6] }
  | _ => none }
def commitTellsRow : OpenClaim := { program := "ytcmkgjaclhpafaa", sum := "70f966bfc120abe0746a343c6a60b5ecfede866065ad87c256b0075a6d1c07b2", func := "conduit/conduitlaw22.CommitTells", spec := "commitTells", unfollowed := true, recurses := true, apart := false }
def CommitTellsSaid : Prop := commitTellsRow.holds Try.pinned (OpenSpec.ofChange commitTellsSpec)

/-- ITS FALSE NEIGHBOUR: 'it returns false'. Refute it at one input. -/
def commitTellsWrong : ChangeSpec := { name := "commitTells", fn := fun _ => fun
  | [d1, d2, d3, d4, d5, d6] => { results := [.lit (.bool false)], args := [d1, d2, d3, d4, d5, d6] }
  | _ => none }
def CommitTellsWrongFalsely : Prop := commitTellsRow.holds Try.pinned (OpenSpec.ofChange commitTellsWrong)

/-- 'conduitlaw22.CommitHas': WHATEVER THE INPUT: true; the input reads as it did. -/
def commitHasSpec : ChangeSpec := { name := "commitHas", fn := fun _ => fun
  | [d1, d2, d3, d4, d5] => { results := [.lit (.bool true)], args := [d1, d2, d3, d4, d5] }
  | _ => none }
def commitHasRow : OpenClaim := { program := "ytcmkgjaclhpafaa", sum := "70f966bfc120abe0746a343c6a60b5ecfede866065ad87c256b0075a6d1c07b2", func := "conduit/conduitlaw22.CommitHas", spec := "commitHas", unfollowed := true, recurses := true, apart := false }
def CommitHasSaid : Prop := commitHasRow.holds Try.pinned (OpenSpec.ofChange commitHasSpec)

/-- ITS FALSE NEIGHBOUR: 'it returns false'. Refute it at one input. -/
def commitHasWrong : ChangeSpec := { name := "commitHas", fn := fun _ => fun
  | [d1, d2, d3, d4, d5] => { results := [.lit (.bool false)], args := [d1, d2, d3, d4, d5] }
  | _ => none }
def CommitHasWrongFalsely : Prop := commitHasRow.holds Try.pinned (OpenSpec.ofChange commitHasWrong)

/-- 'conduitlaw22.CommitRises': WHATEVER THE INPUT: true; the input reads as it did. -/
def commitRisesSpec : ChangeSpec := { name := "commitRises", fn := fun _ => fun
  | [d1, d2, d3] => { results := [.lit (.bool true)], args := [d1, d2, d3] }
  | _ => none }
def commitRisesRow : OpenClaim := { program := "ytcmkgjaclhpafaa", sum := "70f966bfc120abe0746a343c6a60b5ecfede866065ad87c256b0075a6d1c07b2", func := "conduit/conduitlaw22.CommitRises", spec := "commitRises", unfollowed := true, recurses := true, apart := false }
def CommitRisesSaid : Prop := commitRisesRow.holds Try.pinned (OpenSpec.ofChange commitRisesSpec)

/-- ITS FALSE NEIGHBOUR: 'it returns false'. Refute it at one input. -/
def commitRisesWrong : ChangeSpec := { name := "commitRises", fn := fun _ => fun
  | [d1, d2, d3] => { results := [.lit (.bool false)], args := [d1, d2, d3] }
  | _ => none }
def CommitRisesWrongFalsely : Prop := commitRisesRow.holds Try.pinned (OpenSpec.ofChange commitRisesWrong)

/- THE SECOND FORM. 'bulk': how many values and letters a reading holds, each counted each time it is reached (what is shared counts as often as it is met; a slice's spare places count too). A statement '..UptoSaid' is the law's where the arguments, and the package variables that the reading takes, are together of bulk at most 1048576: NARROWER than '..Said'. Prove '..Said' where nothing that the law and all that it calls make is longer than what came in: it says more and counts as full. Else prove '..UptoSaid'. A law counts once. -/
mutual
def uptoBulk {H : Type} : DataW H → Nat
  | .lit (.string bytes) => bytes.length + 1
  | .lit _ => 1
  | .nil => 1
  | .ptr d => uptoBulk d + 1
  | .slice elems spare => uptoBulkAll elems + uptoBulkAll spare + 1
  | .agg parts => uptoBulkAll parts + 1
  | .iface _ d => uptoBulk d + 1
  | .map entries => uptoBulkEntries entries + 1
  | .held _ => 1
def uptoBulkAll {H : Type} : List (DataW H) → Nat
  | [] => 0
  | d :: r => uptoBulk d + uptoBulkAll r
def uptoBulkEntries {H : Type} : List (Lit × DataW H) → Nat
  | [] => 0
  | x :: r => uptoBulkEntry x + uptoBulkEntries r
def uptoBulkEntry {H : Type} : Lit × DataW H → Nat
  | (.string bytes, d) => bytes.length + uptoBulk d + 1
  | (_, d) => uptoBulk d + 1
 end
def uptoSmall : (H : Type) → List (DataW H) → Bool := fun _ ds => decide (uptoBulkAll ds ≤ 1048576)
def OpenSpec.upto (s : _root_.Go.ChangeSpec) : _root_.Go.OpenSpec := { _root_.Go.OpenSpec.ofChange s with cond := some uptoSmall }

/-- 'conduitlaw22.CommitNumbers', WHERE WHAT IT READS IS OF BULK AT MOST 1048576: true; the input reads as it did. -/
def commitNumbersUptoRow : OpenClaim := { program := "ytcmkgjaclhpafaa", sum := "70f966bfc120abe0746a343c6a60b5ecfede866065ad87c256b0075a6d1c07b2", func := "conduit/conduitlaw22.CommitNumbers", spec := "commitNumbers", unfollowed := true, recurses := true, apart := false, narrowed := true }
def CommitNumbersUptoSaid : Prop := commitNumbersUptoRow.holds Try.pinned (OpenSpec.upto commitNumbersSpec)

/-- 'conduitlaw22.CommitTells', WHERE WHAT IT READS IS OF BULK AT MOST 1048576: true; the input reads as it did. -/
def commitTellsUptoRow : OpenClaim := { program := "ytcmkgjaclhpafaa", sum := "70f966bfc120abe0746a343c6a60b5ecfede866065ad87c256b0075a6d1c07b2", func := "conduit/conduitlaw22.CommitTells", spec := "commitTells", unfollowed := true, recurses := true, apart := false, narrowed := true }
def CommitTellsUptoSaid : Prop := commitTellsUptoRow.holds Try.pinned (OpenSpec.upto commitTellsSpec)

/-- 'conduitlaw22.CommitHas', WHERE WHAT IT READS IS OF BULK AT MOST 1048576: true; the input reads as it did. -/
def commitHasUptoRow : OpenClaim := { program := "ytcmkgjaclhpafaa", sum := "70f966bfc120abe0746a343c6a60b5ecfede866065ad87c256b0075a6d1c07b2", func := "conduit/conduitlaw22.CommitHas", spec := "commitHas", unfollowed := true, recurses := true, apart := false, narrowed := true }
def CommitHasUptoSaid : Prop := commitHasUptoRow.holds Try.pinned (OpenSpec.upto commitHasSpec)

/-- 'conduitlaw22.CommitRises', WHERE WHAT IT READS IS OF BULK AT MOST 1048576: true; the input reads as it did. -/
def commitRisesUptoRow : OpenClaim := { program := "ytcmkgjaclhpafaa", sum := "70f966bfc120abe0746a343c6a60b5ecfede866065ad87c256b0075a6d1c07b2", func := "conduit/conduitlaw22.CommitRises", spec := "commitRises", unfollowed := true, recurses := true, apart := false, narrowed := true }
def CommitRisesUptoSaid : Prop := commitRisesUptoRow.holds Try.pinned (OpenSpec.upto commitRisesSpec)

end Rows
end Go.Proofs.Ytcmkgjaclhpafaa
