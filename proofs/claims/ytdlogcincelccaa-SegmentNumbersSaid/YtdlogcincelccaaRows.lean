/-
  No cell of these rows narrows 'for every input' (looked for: loops, veiled, ifaces, maps, wideKeys, modest, calm, conditions, laid).
  DERIVED. THE GIVEN ROWS OF THIS SEAT. 5 by the template 'for every input the law returns true; each argument reads behind the call as it read before'; 0 by the template 'total and deterministic' (their statements: YtdlogcincelccaaTotals.lean).
  GIVEN WITH THE SEED: the statements are not yours to turn. If you find one false, say at which input.
  Laid BY PROGRAM, IN A SANDBOX (cutbox-rows.mjs): the forced cells as the released guide's own fill.sh prints them over the translation 3bcd533eeb6c400b… (all of the seat's roots in one cut). By AI agents, Wed Nov 11 2026. No macro, syntax, notation, axiom, sorry.
-/
import Derived.Test.YtdlogcincelccaaChecked
import GoSem.Claim
import GoSem.ClaimJoined
import GoSem.ClaimMapViews
import Derived.JoinedTies
import Derived.KernelRfl
namespace Go.Proofs.Ytdlogcincelccaa
/- THE CELL 'sum', in the pinned program and in every row, IS THE sha256 OF THE DUMP (.gsa) THAT YtdlogcincelccaaProg.lean LOADS. Nothing in Lean hashes anything: it is a label: what it is worth is what the hold of that sum in a sandbox is worth. -/
noncomputable def Try.pinned : Pinned := { name := "ytdlogcincelccaa", sum := "3bcd533eeb6c400bff5d7ac8a02968fc295df064e1b8315557a47aee8860e8bc", checked := Try.checked }
namespace Rows
def none {H : Type} : Left H := { results := [], args := [] }

/-- 'conduitlaw08.SegmentAny': WHATEVER THE INPUT: true; the input reads as it did. -/
def segmentAnySpec : ChangeSpec := { name := "segmentAny", fn := fun _ => fun
  | [d1, d2] => { results := [.lit (.bool true)], args := [d1, d2] }
  | _ => none }
def segmentAnyRow : OpenClaim := { program := "ytdlogcincelccaa", sum := "3bcd533eeb6c400bff5d7ac8a02968fc295df064e1b8315557a47aee8860e8bc", func := "conduit/conduitlaw08.SegmentAny", spec := "segmentAny", inPlace := ["sync/atomic.LoadInt64", "sync/atomic.AddInt64", "maps.clone", "sync/atomic.StoreInt64"], unfollowed := true, recurses := true, apart := false }
def SegmentAnySaid : Prop := segmentAnyRow.holds Try.pinned (OpenSpec.ofChange segmentAnySpec)

/-- ITS FALSE NEIGHBOUR: 'it returns false'. Refute it at one input. -/
def segmentAnyWrong : ChangeSpec := { name := "segmentAny", fn := fun _ => fun
  | [d1, d2] => { results := [.lit (.bool false)], args := [d1, d2] }
  | _ => none }
def SegmentAnyWrongFalsely : Prop := segmentAnyRow.holds Try.pinned (OpenSpec.ofChange segmentAnyWrong)

/-- 'conduitlaw08.SegmentSpares': WHATEVER THE INPUT: true; the input reads as it did. -/
def segmentSparesSpec : ChangeSpec := { name := "segmentSpares", fn := fun _ => fun
  | [d] => { results := [.lit (.bool true)], args := [d] }
  | _ => none }
def segmentSparesRow : OpenClaim := { program := "ytdlogcincelccaa", sum := "3bcd533eeb6c400bff5d7ac8a02968fc295df064e1b8315557a47aee8860e8bc", func := "conduit/conduitlaw08.SegmentSpares", spec := "segmentSpares", inPlace := ["sync/atomic.LoadInt64", "sync/atomic.AddInt64", "maps.clone", "sync/atomic.StoreInt64"], unfollowed := true, recurses := true, apart := false }
def SegmentSparesSaid : Prop := segmentSparesRow.holds Try.pinned (OpenSpec.ofChange segmentSparesSpec)

/-- ITS FALSE NEIGHBOUR: 'it returns false'. Refute it at one input. -/
def segmentSparesWrong : ChangeSpec := { name := "segmentSpares", fn := fun _ => fun
  | [d] => { results := [.lit (.bool false)], args := [d] }
  | _ => none }
def SegmentSparesWrongFalsely : Prop := segmentSparesRow.holds Try.pinned (OpenSpec.ofChange segmentSparesWrong)

/-- 'conduitlaw08.SegmentNone': WHATEVER THE INPUT: true; the input reads as it did. -/
def segmentNoneSpec : ChangeSpec := { name := "segmentNone", fn := fun _ => fun
  | [d1, d2] => { results := [.lit (.bool true)], args := [d1, d2] }
  | _ => none }
def segmentNoneRow : OpenClaim := { program := "ytdlogcincelccaa", sum := "3bcd533eeb6c400bff5d7ac8a02968fc295df064e1b8315557a47aee8860e8bc", func := "conduit/conduitlaw08.SegmentNone", spec := "segmentNone", inPlace := ["sync/atomic.LoadInt64", "sync/atomic.AddInt64", "maps.clone", "sync/atomic.StoreInt64"], unfollowed := true, recurses := true, apart := false }
def SegmentNoneSaid : Prop := segmentNoneRow.holds Try.pinned (OpenSpec.ofChange segmentNoneSpec)

/-- ITS FALSE NEIGHBOUR: 'it returns false'. Refute it at one input. -/
def segmentNoneWrong : ChangeSpec := { name := "segmentNone", fn := fun _ => fun
  | [d1, d2] => { results := [.lit (.bool false)], args := [d1, d2] }
  | _ => none }
def SegmentNoneWrongFalsely : Prop := segmentNoneRow.holds Try.pinned (OpenSpec.ofChange segmentNoneWrong)

/-- 'conduitlaw08.SegmentNumbers': WHATEVER THE INPUT: true; the input reads as it did. -/
def segmentNumbersSpec : ChangeSpec := { name := "segmentNumbers", fn := fun _ => fun
  | [] => { results := [.lit (.bool true)], args := [] }
  | _ => none }
def segmentNumbersRow : OpenClaim := { program := "ytdlogcincelccaa", sum := "3bcd533eeb6c400bff5d7ac8a02968fc295df064e1b8315557a47aee8860e8bc", func := "conduit/conduitlaw08.SegmentNumbers", spec := "segmentNumbers", inPlace := ["sync/atomic.LoadInt64", "sync/atomic.AddInt64", "maps.clone", "sync/atomic.StoreInt64"], unfollowed := true, recurses := true, apart := false }
def SegmentNumbersSaid : Prop := segmentNumbersRow.holds Try.pinned (OpenSpec.ofChange segmentNumbersSpec)

/-- ITS FALSE NEIGHBOUR: 'it returns false'. Refute it at one input. -/
def segmentNumbersWrong : ChangeSpec := { name := "segmentNumbers", fn := fun _ => fun
  | [] => { results := [.lit (.bool false)], args := [] }
  | _ => none }
def SegmentNumbersWrongFalsely : Prop := segmentNumbersRow.holds Try.pinned (OpenSpec.ofChange segmentNumbersWrong)

/-- 'conduitlaw08.SegmentKept': WHATEVER THE INPUT: true; the input reads as it did. -/
def segmentKeptSpec : ChangeSpec := { name := "segmentKept", fn := fun _ => fun
  | [d] => { results := [.lit (.bool true)], args := [d] }
  | _ => none }
def segmentKeptRow : OpenClaim := { program := "ytdlogcincelccaa", sum := "3bcd533eeb6c400bff5d7ac8a02968fc295df064e1b8315557a47aee8860e8bc", func := "conduit/conduitlaw08.SegmentKept", spec := "segmentKept", inPlace := ["sync/atomic.LoadInt64", "sync/atomic.AddInt64", "sync/atomic.StoreInt64", "maps.clone"], unfollowed := true, recurses := true, apart := false }
def SegmentKeptSaid : Prop := segmentKeptRow.holds Try.pinned (OpenSpec.ofChange segmentKeptSpec)

/-- ITS FALSE NEIGHBOUR: 'it returns false'. Refute it at one input. -/
def segmentKeptWrong : ChangeSpec := { name := "segmentKept", fn := fun _ => fun
  | [d] => { results := [.lit (.bool false)], args := [d] }
  | _ => none }
def SegmentKeptWrongFalsely : Prop := segmentKeptRow.holds Try.pinned (OpenSpec.ofChange segmentKeptWrong)

/- THE SECOND FORM. 'bulk': how many values and letters a reading holds, each counted each time it is reached (what is shared counts as often as it is met; a slice's spare places count too). A statement '..UptoSaid' is the law's where the arguments, and the package variables that the reading takes, are together of bulk at most 1048576: NARROWER than '..Said'. Prove '..Said' where nothing that the law and all that it calls make is longer than what came in: it says more and counts as full. Else prove '..UptoSaid'. A law counts once. -/
mutual
def uptoBulk {H : Type} : DataW H → Nat
  | .lit (.string bytes) => bytes.length + 1
  | .lit _ => 1
  | .nil => 1
  | .ptr d => uptoBulk d + 1
  | .slice elems spare => uptoBulkAll elems + uptoBulkAll spare + 1
  | .agg parts => uptoBulkAll parts + 1
  | .iface _ d => uptoBulk d + 1
  | .map entries => uptoBulkEntries entries + 1
  | .held _ => 1
def uptoBulkAll {H : Type} : List (DataW H) → Nat
  | [] => 0
  | d :: r => uptoBulk d + uptoBulkAll r
def uptoBulkEntries {H : Type} : List (Lit × DataW H) → Nat
  | [] => 0
  | x :: r => uptoBulkEntry x + uptoBulkEntries r
def uptoBulkEntry {H : Type} : Lit × DataW H → Nat
  | (.string bytes, d) => bytes.length + uptoBulk d + 1
  | (_, d) => uptoBulk d + 1
 end
def uptoSmall : (H : Type) → List (DataW H) → Bool := fun _ ds => decide (uptoBulkAll ds ≤ 1048576)
def OpenSpec.upto (s : _root_.Go.ChangeSpec) : _root_.Go.OpenSpec := { _root_.Go.OpenSpec.ofChange s with cond := some uptoSmall }

/-- 'conduitlaw08.SegmentAny', WHERE WHAT IT READS IS OF BULK AT MOST 1048576: true; the input reads as it did. -/
def segmentAnyUptoRow : OpenClaim := { program := "ytdlogcincelccaa", sum := "3bcd533eeb6c400bff5d7ac8a02968fc295df064e1b8315557a47aee8860e8bc", func := "conduit/conduitlaw08.SegmentAny", spec := "segmentAny", inPlace := ["sync/atomic.LoadInt64", "sync/atomic.AddInt64", "maps.clone", "sync/atomic.StoreInt64"], unfollowed := true, recurses := true, apart := false, narrowed := true }
def SegmentAnyUptoSaid : Prop := segmentAnyUptoRow.holds Try.pinned (OpenSpec.upto segmentAnySpec)

/-- 'conduitlaw08.SegmentSpares', WHERE WHAT IT READS IS OF BULK AT MOST 1048576: true; the input reads as it did. -/
def segmentSparesUptoRow : OpenClaim := { program := "ytdlogcincelccaa", sum := "3bcd533eeb6c400bff5d7ac8a02968fc295df064e1b8315557a47aee8860e8bc", func := "conduit/conduitlaw08.SegmentSpares", spec := "segmentSpares", inPlace := ["sync/atomic.LoadInt64", "sync/atomic.AddInt64", "maps.clone", "sync/atomic.StoreInt64"], unfollowed := true, recurses := true, apart := false, narrowed := true }
def SegmentSparesUptoSaid : Prop := segmentSparesUptoRow.holds Try.pinned (OpenSpec.upto segmentSparesSpec)

/-- 'conduitlaw08.SegmentNone', WHERE WHAT IT READS IS OF BULK AT MOST 1048576: true; the input reads as it did. -/
def segmentNoneUptoRow : OpenClaim := { program := "ytdlogcincelccaa", sum := "3bcd533eeb6c400bff5d7ac8a02968fc295df064e1b8315557a47aee8860e8bc", func := "conduit/conduitlaw08.SegmentNone", spec := "segmentNone", inPlace := ["sync/atomic.LoadInt64", "sync/atomic.AddInt64", "maps.clone", "sync/atomic.StoreInt64"], unfollowed := true, recurses := true, apart := false, narrowed := true }
def SegmentNoneUptoSaid : Prop := segmentNoneUptoRow.holds Try.pinned (OpenSpec.upto segmentNoneSpec)

/-- 'conduitlaw08.SegmentNumbers', WHERE WHAT IT READS IS OF BULK AT MOST 1048576: true; the input reads as it did. -/
def segmentNumbersUptoRow : OpenClaim := { program := "ytdlogcincelccaa", sum := "3bcd533eeb6c400bff5d7ac8a02968fc295df064e1b8315557a47aee8860e8bc", func := "conduit/conduitlaw08.SegmentNumbers", spec := "segmentNumbers", inPlace := ["sync/atomic.LoadInt64", "sync/atomic.AddInt64", "maps.clone", "sync/atomic.StoreInt64"], unfollowed := true, recurses := true, apart := false, narrowed := true }
def SegmentNumbersUptoSaid : Prop := segmentNumbersUptoRow.holds Try.pinned (OpenSpec.upto segmentNumbersSpec)

/-- 'conduitlaw08.SegmentKept', WHERE WHAT IT READS IS OF BULK AT MOST 1048576: true; the input reads as it did. -/
def segmentKeptUptoRow : OpenClaim := { program := "ytdlogcincelccaa", sum := "3bcd533eeb6c400bff5d7ac8a02968fc295df064e1b8315557a47aee8860e8bc", func := "conduit/conduitlaw08.SegmentKept", spec := "segmentKept", inPlace := ["sync/atomic.LoadInt64", "sync/atomic.AddInt64", "sync/atomic.StoreInt64", "maps.clone"], unfollowed := true, recurses := true, apart := false, narrowed := true }
def SegmentKeptUptoSaid : Prop := segmentKeptUptoRow.holds Try.pinned (OpenSpec.upto segmentKeptSpec)

end Rows
end Go.Proofs.Ytdlogcincelccaa
