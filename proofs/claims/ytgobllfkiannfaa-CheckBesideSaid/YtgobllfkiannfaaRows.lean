/-
  No cell of these rows narrows 'for every input' (looked for: loops, veiled, ifaces, maps, wideKeys, modest, calm, conditions, laid).
  DERIVED. THE GIVEN ROWS OF THIS SEAT. 3 by the template 'for every input the law returns true; each argument reads behind the call as it read before'; 0 by the template 'total and deterministic' (their statements: YtgobllfkiannfaaTotals.lean).
  GIVEN WITH THE SEED: the statements are not yours to turn. If you find one false, say at which input.
  Laid BY PROGRAM, IN A SANDBOX (cutbox-rows.mjs): the forced cells as the released guide's own fill.sh prints them over the translation d98b7e3e8337eac4… (all of the seat's roots in one cut). By AI agents, Wed Nov 11 2026. No macro, syntax, notation, axiom, sorry.
-/
import Derived.Test.YtgobllfkiannfaaChecked
import GoSem.Claim
import GoSem.ClaimJoined
import GoSem.ClaimMapViews
import Derived.JoinedTies
import Derived.KernelRfl
namespace Go.Proofs.Ytgobllfkiannfaa
/- THE CELL 'sum', in the pinned program and in every row, IS THE sha256 OF THE DUMP (.gsa) THAT YtgobllfkiannfaaProg.lean LOADS. Nothing in Lean hashes anything: it is a label: what it is worth is what the hold of that sum in a sandbox is worth. -/
noncomputable def Try.pinned : Pinned := { name := "ytgobllfkiannfaa", sum := "d98b7e3e8337eac43871e9c42a5aeb10252df3c87317052201e66ee3b5d328d0", checked := Try.checked }
namespace Rows
def none {H : Type} : Left H := { results := [], args := [] }

/-- 'conduitlaw11.CheckNumbers': WHATEVER THE INPUT: true; the input reads as it did. -/
def checkNumbersSpec : ChangeSpec := { name := "checkNumbers", fn := fun _ => fun
  | [] => { results := [.lit (.bool true)], args := [] }
  | _ => none }
def checkNumbersRow : OpenClaim := { program := "ytgobllfkiannfaa", sum := "d98b7e3e8337eac43871e9c42a5aeb10252df3c87317052201e66ee3b5d328d0", func := "conduit/conduitlaw11.CheckNumbers", spec := "checkNumbers", inPlace := ["sync/atomic.LoadInt64", "sync/atomic.AddInt64", "maps.clone", "sync/atomic.StoreInt64"], unfollowed := true, recurses := true, apart := false }
def CheckNumbersSaid : Prop := checkNumbersRow.holds Try.pinned (OpenSpec.ofChange checkNumbersSpec)

/-- ITS FALSE NEIGHBOUR: 'it returns false'. Refute it at one input. -/
def checkNumbersWrong : ChangeSpec := { name := "checkNumbers", fn := fun _ => fun
  | [] => { results := [.lit (.bool false)], args := [] }
  | _ => none }
def CheckNumbersWrongFalsely : Prop := checkNumbersRow.holds Try.pinned (OpenSpec.ofChange checkNumbersWrong)

/-- 'conduitlaw11.CheckWhole': WHATEVER THE INPUT: true; the input reads as it did. -/
def checkWholeSpec : ChangeSpec := { name := "checkWhole", fn := fun _ => fun
  | [d] => { results := [.lit (.bool true)], args := [d] }
  | _ => none }
def checkWholeRow : OpenClaim := { program := "ytgobllfkiannfaa", sum := "d98b7e3e8337eac43871e9c42a5aeb10252df3c87317052201e66ee3b5d328d0", func := "conduit/conduitlaw11.CheckWhole", spec := "checkWhole", inPlace := ["sync/atomic.StoreInt64", "sync/atomic.LoadInt64", "sync/atomic.AddInt64", "maps.clone"], unfollowed := true, recurses := true, apart := false }
def CheckWholeSaid : Prop := checkWholeRow.holds Try.pinned (OpenSpec.ofChange checkWholeSpec)

/-- ITS FALSE NEIGHBOUR: 'it returns false'. Refute it at one input. -/
def checkWholeWrong : ChangeSpec := { name := "checkWhole", fn := fun _ => fun
  | [d] => { results := [.lit (.bool false)], args := [d] }
  | _ => none }
def CheckWholeWrongFalsely : Prop := checkWholeRow.holds Try.pinned (OpenSpec.ofChange checkWholeWrong)

/-- 'conduitlaw11.CheckBeside': WHATEVER THE INPUT: true; the input reads as it did. -/
def checkBesideSpec : ChangeSpec := { name := "checkBeside", fn := fun _ => fun
  | [d1, d2, d3, d4] => { results := [.lit (.bool true)], args := [d1, d2, d3, d4] }
  | _ => none }
def checkBesideRow : OpenClaim := { program := "ytgobllfkiannfaa", sum := "d98b7e3e8337eac43871e9c42a5aeb10252df3c87317052201e66ee3b5d328d0", func := "conduit/conduitlaw11.CheckBeside", spec := "checkBeside", inPlace := ["sync/atomic.LoadInt64", "sync/atomic.AddInt64", "maps.clone", "sync/atomic.StoreInt64"], unfollowed := true, recurses := true, apart := false }
def CheckBesideSaid : Prop := checkBesideRow.holds Try.pinned (OpenSpec.ofChange checkBesideSpec)

/-- ITS FALSE NEIGHBOUR: 'it returns false'. Refute it at one input. -/
def checkBesideWrong : ChangeSpec := { name := "checkBeside", fn := fun _ => fun
  | [d1, d2, d3, d4] => { results := [.lit (.bool false)], args := [d1, d2, d3, d4] }
  | _ => none }
def CheckBesideWrongFalsely : Prop := checkBesideRow.holds Try.pinned (OpenSpec.ofChange checkBesideWrong)

/- THE SECOND FORM. 'bulk': how many values and letters a reading holds, each counted each time it is reached (what is shared counts as often as it is met; a slice's spare places count too). A statement '..UptoSaid' is the law's where the arguments, and the package variables that the reading takes, are together of bulk at most 1048576: NARROWER than '..Said'. Prove '..Said' where nothing that the law and all that it calls make is longer than what came in: it says more and counts as full. Else prove '..UptoSaid'. A law counts once. -/
mutual
def uptoBulk {H : Type} : DataW H → Nat
  | .lit (.string bytes) => bytes.length + 1
  | .lit _ => 1
  | .nil => 1
  | .ptr d => uptoBulk d + 1
  | .slice elems spare => uptoBulkAll elems + uptoBulkAll spare + 1
  | .agg parts => uptoBulkAll parts + 1
  | .iface _ d => uptoBulk d + 1
  | .map entries => uptoBulkEntries entries + 1
  | .held _ => 1
def uptoBulkAll {H : Type} : List (DataW H) → Nat
  | [] => 0
  | d :: r => uptoBulk d + uptoBulkAll r
def uptoBulkEntries {H : Type} : List (Lit × DataW H) → Nat
  | [] => 0
  | x :: r => uptoBulkEntry x + uptoBulkEntries r
def uptoBulkEntry {H : Type} : Lit × DataW H → Nat
  | (.string bytes, d) => bytes.length + uptoBulk d + 1
  | (_, d) => uptoBulk d + 1
 end
def uptoSmall : (H : Type) → List (DataW H) → Bool := fun _ ds => decide (uptoBulkAll ds ≤ 1048576)
def OpenSpec.upto (s : _root_.Go.ChangeSpec) : _root_.Go.OpenSpec := { _root_.Go.OpenSpec.ofChange s with cond := some uptoSmall }

/-- 'conduitlaw11.CheckNumbers', WHERE WHAT IT READS IS OF BULK AT MOST 1048576: true; the input reads as it did. -/
def checkNumbersUptoRow : OpenClaim := { program := "ytgobllfkiannfaa", sum := "d98b7e3e8337eac43871e9c42a5aeb10252df3c87317052201e66ee3b5d328d0", func := "conduit/conduitlaw11.CheckNumbers", spec := "checkNumbers", inPlace := ["sync/atomic.LoadInt64", "sync/atomic.AddInt64", "maps.clone", "sync/atomic.StoreInt64"], unfollowed := true, recurses := true, apart := false, narrowed := true }
def CheckNumbersUptoSaid : Prop := checkNumbersUptoRow.holds Try.pinned (OpenSpec.upto checkNumbersSpec)

/-- 'conduitlaw11.CheckWhole', WHERE WHAT IT READS IS OF BULK AT MOST 1048576: true; the input reads as it did. -/
def checkWholeUptoRow : OpenClaim := { program := "ytgobllfkiannfaa", sum := "d98b7e3e8337eac43871e9c42a5aeb10252df3c87317052201e66ee3b5d328d0", func := "conduit/conduitlaw11.CheckWhole", spec := "checkWhole", inPlace := ["sync/atomic.StoreInt64", "sync/atomic.LoadInt64", "sync/atomic.AddInt64", "maps.clone"], unfollowed := true, recurses := true, apart := false, narrowed := true }
def CheckWholeUptoSaid : Prop := checkWholeUptoRow.holds Try.pinned (OpenSpec.upto checkWholeSpec)

/-- 'conduitlaw11.CheckBeside', WHERE WHAT IT READS IS OF BULK AT MOST 1048576: true; the input reads as it did. -/
def checkBesideUptoRow : OpenClaim := { program := "ytgobllfkiannfaa", sum := "d98b7e3e8337eac43871e9c42a5aeb10252df3c87317052201e66ee3b5d328d0", func := "conduit/conduitlaw11.CheckBeside", spec := "checkBeside", inPlace := ["sync/atomic.LoadInt64", "sync/atomic.AddInt64", "maps.clone", "sync/atomic.StoreInt64"], unfollowed := true, recurses := true, apart := false, narrowed := true }
def CheckBesideUptoSaid : Prop := checkBesideUptoRow.holds Try.pinned (OpenSpec.upto checkBesideSpec)

end Rows
end Go.Proofs.Ytgobllfkiannfaa
