/-
  No cell of these rows narrows 'for every input' (looked for: loops, veiled, ifaces, maps, wideKeys, modest, calm, conditions, laid).
  DERIVED. THE GIVEN ROWS OF THIS SEAT. 7 by the template 'for every input the law returns true; each argument reads behind the call as it read before'; 0 by the template 'total and deterministic' (their statements: YtbjeebgdjlemjaaTotals.lean).
  GIVEN WITH THE SEED: the statements are not yours to turn. If you find one false, say at which input.
  Laid BY PROGRAM, IN A SANDBOX (cutbox-rows.mjs): the forced cells as the released guide's own fill.sh prints them over the translation c78edcf19537f0a2… (all of the seat's roots in one cut). By AI agents, Wed Nov 11 2026. No macro, syntax, notation, axiom, sorry.
-/
import Derived.Test.YtbjeebgdjlemjaaChecked
import GoSem.Claim
import GoSem.ClaimJoined
import GoSem.ClaimMapViews
import Derived.JoinedTies
import Derived.KernelRfl
namespace Go.Proofs.Ytbjeebgdjlemjaa
/- THE CELL 'sum', in the pinned program and in every row, IS THE sha256 OF THE DUMP (.gsa) THAT YtbjeebgdjlemjaaProg.lean LOADS. Nothing in Lean hashes anything: it is a label: what it is worth is what the hold of that sum in a sandbox is worth. -/
noncomputable def Try.pinned : Pinned := { name := "ytbjeebgdjlemjaa", sum := "c78edcf19537f0a24a25e904d23ffcf733564b32e97da3ef8db3632dc59dc9e6", checked := Try.checked }
namespace Rows
def none {H : Type} : Left H := { results := [], args := [] }

/-- 'conduitlaw07.FileWhole': WHATEVER THE INPUT: true; the input reads as it did. -/
def fileWholeSpec : ChangeSpec := { name := "fileWhole", fn := fun _ => fun
  | [d1, d2, d3, d4] => { results := [.lit (.bool true)], args := [d1, d2, d3, d4] }
  | _ => none }
def fileWholeRow : OpenClaim := { program := "ytbjeebgdjlemjaa", sum := "c78edcf19537f0a24a25e904d23ffcf733564b32e97da3ef8db3632dc59dc9e6", func := "conduit/conduitlaw07.FileWhole", spec := "fileWhole", inPlace := ["sync/atomic.LoadInt64", "sync/atomic.AddInt64", "maps.clone", "sync/atomic.StoreInt64"], unfollowed := true, recurses := true, apart := false }
def FileWholeSaid : Prop := fileWholeRow.holds Try.pinned (OpenSpec.ofChange fileWholeSpec)

/-- ITS FALSE NEIGHBOUR: 'it returns false'. Refute it at one input. -/
def fileWholeWrong : ChangeSpec := { name := "fileWhole", fn := fun _ => fun
  | [d1, d2, d3, d4] => { results := [.lit (.bool false)], args := [d1, d2, d3, d4] }
  | _ => none }
def FileWholeWrongFalsely : Prop := fileWholeRow.holds Try.pinned (OpenSpec.ofChange fileWholeWrong)

/-- 'conduitlaw07.FileSynced': WHATEVER THE INPUT: true; the input reads as it did. -/
def fileSyncedSpec : ChangeSpec := { name := "fileSynced", fn := fun _ => fun
  | [d1, d2, d3, d4] => { results := [.lit (.bool true)], args := [d1, d2, d3, d4] }
  | _ => none }
def fileSyncedRow : OpenClaim := { program := "ytbjeebgdjlemjaa", sum := "c78edcf19537f0a24a25e904d23ffcf733564b32e97da3ef8db3632dc59dc9e6", func := "conduit/conduitlaw07.FileSynced", spec := "fileSynced", inPlace := ["sync/atomic.LoadInt64", "sync/atomic.AddInt64", "maps.clone", "sync/atomic.StoreInt64"], unfollowed := true, recurses := true, apart := false }
def FileSyncedSaid : Prop := fileSyncedRow.holds Try.pinned (OpenSpec.ofChange fileSyncedSpec)

/-- ITS FALSE NEIGHBOUR: 'it returns false'. Refute it at one input. -/
def fileSyncedWrong : ChangeSpec := { name := "fileSynced", fn := fun _ => fun
  | [d1, d2, d3, d4] => { results := [.lit (.bool false)], args := [d1, d2, d3, d4] }
  | _ => none }
def FileSyncedWrongFalsely : Prop := fileSyncedRow.holds Try.pinned (OpenSpec.ofChange fileSyncedWrong)

/-- 'conduitlaw07.FileSpares': WHATEVER THE INPUT: true; the input reads as it did. -/
def fileSparesSpec : ChangeSpec := { name := "fileSpares", fn := fun _ => fun
  | [d] => { results := [.lit (.bool true)], args := [d] }
  | _ => none }
def fileSparesRow : OpenClaim := { program := "ytbjeebgdjlemjaa", sum := "c78edcf19537f0a24a25e904d23ffcf733564b32e97da3ef8db3632dc59dc9e6", func := "conduit/conduitlaw07.FileSpares", spec := "fileSpares", inPlace := ["sync/atomic.LoadInt64", "sync/atomic.AddInt64", "maps.clone", "sync/atomic.StoreInt64"], unfollowed := true, recurses := true, apart := false }
def FileSparesSaid : Prop := fileSparesRow.holds Try.pinned (OpenSpec.ofChange fileSparesSpec)

/-- ITS FALSE NEIGHBOUR: 'it returns false'. Refute it at one input. -/
def fileSparesWrong : ChangeSpec := { name := "fileSpares", fn := fun _ => fun
  | [d] => { results := [.lit (.bool false)], args := [d] }
  | _ => none }
def FileSparesWrongFalsely : Prop := fileSparesRow.holds Try.pinned (OpenSpec.ofChange fileSparesWrong)

/-- 'conduitlaw07.FileCrashes': WHATEVER THE INPUT: true; the input reads as it did. -/
def fileCrashesSpec : ChangeSpec := { name := "fileCrashes", fn := fun _ => fun
  | [d1, d2] => { results := [.lit (.bool true)], args := [d1, d2] }
  | _ => none }
def fileCrashesRow : OpenClaim := { program := "ytbjeebgdjlemjaa", sum := "c78edcf19537f0a24a25e904d23ffcf733564b32e97da3ef8db3632dc59dc9e6", func := "conduit/conduitlaw07.FileCrashes", spec := "fileCrashes", inPlace := ["sync/atomic.LoadInt64", "sync/atomic.AddInt64", "maps.clone", "sync/atomic.StoreInt64"], unfollowed := true, recurses := true, apart := false }
def FileCrashesSaid : Prop := fileCrashesRow.holds Try.pinned (OpenSpec.ofChange fileCrashesSpec)

/-- ITS FALSE NEIGHBOUR: 'it returns false'. Refute it at one input. -/
def fileCrashesWrong : ChangeSpec := { name := "fileCrashes", fn := fun _ => fun
  | [d1, d2] => { results := [.lit (.bool false)], args := [d1, d2] }
  | _ => none }
def FileCrashesWrongFalsely : Prop := fileCrashesRow.holds Try.pinned (OpenSpec.ofChange fileCrashesWrong)

/-- 'conduitlaw07.FileNumbers': WHATEVER THE INPUT: true; the input reads as it did. -/
def fileNumbersSpec : ChangeSpec := { name := "fileNumbers", fn := fun _ => fun
  | [] => { results := [.lit (.bool true)], args := [] }
  | _ => none }
def fileNumbersRow : OpenClaim := { program := "ytbjeebgdjlemjaa", sum := "c78edcf19537f0a24a25e904d23ffcf733564b32e97da3ef8db3632dc59dc9e6", func := "conduit/conduitlaw07.FileNumbers", spec := "fileNumbers", inPlace := ["sync/atomic.LoadInt64", "sync/atomic.AddInt64", "maps.clone", "sync/atomic.StoreInt64"], unfollowed := true, recurses := true, apart := false }
def FileNumbersSaid : Prop := fileNumbersRow.holds Try.pinned (OpenSpec.ofChange fileNumbersSpec)

/-- ITS FALSE NEIGHBOUR: 'it returns false'. Refute it at one input. -/
def fileNumbersWrong : ChangeSpec := { name := "fileNumbers", fn := fun _ => fun
  | [] => { results := [.lit (.bool false)], args := [] }
  | _ => none }
def FileNumbersWrongFalsely : Prop := fileNumbersRow.holds Try.pinned (OpenSpec.ofChange fileNumbersWrong)

/-- 'conduitlaw07.FilePlays': WHATEVER THE INPUT: true; the input reads as it did. -/
def filePlaysSpec : ChangeSpec := { name := "filePlays", fn := fun _ => fun
  | [d] => { results := [.lit (.bool true)], args := [d] }
  | _ => none }
def filePlaysRow : OpenClaim := { program := "ytbjeebgdjlemjaa", sum := "c78edcf19537f0a24a25e904d23ffcf733564b32e97da3ef8db3632dc59dc9e6", func := "conduit/conduitlaw07.FilePlays", spec := "filePlays", inPlace := ["maps.clone", "sync/atomic.LoadInt64", "sync/atomic.StoreInt64", "sync/atomic.AddInt64"], unfollowed := true, recurses := true, apart := false }
def FilePlaysSaid : Prop := filePlaysRow.holds Try.pinned (OpenSpec.ofChange filePlaysSpec)

/-- ITS FALSE NEIGHBOUR: 'it returns false'. Refute it at one input. -/
def filePlaysWrong : ChangeSpec := { name := "filePlays", fn := fun _ => fun
  | [d] => { results := [.lit (.bool false)], args := [d] }
  | _ => none }
def FilePlaysWrongFalsely : Prop := filePlaysRow.holds Try.pinned (OpenSpec.ofChange filePlaysWrong)

/-- 'conduitlaw07.FileNone': WHATEVER THE INPUT: true; the input reads as it did. -/
def fileNoneSpec : ChangeSpec := { name := "fileNone", fn := fun _ => fun
  | [d1, d2, d3, d4] => { results := [.lit (.bool true)], args := [d1, d2, d3, d4] }
  | _ => none }
def fileNoneRow : OpenClaim := { program := "ytbjeebgdjlemjaa", sum := "c78edcf19537f0a24a25e904d23ffcf733564b32e97da3ef8db3632dc59dc9e6", func := "conduit/conduitlaw07.FileNone", spec := "fileNone", inPlace := ["sync/atomic.LoadInt64", "sync/atomic.AddInt64", "sync/atomic.StoreInt64", "maps.clone"], unfollowed := true, recurses := true, apart := false }
def FileNoneSaid : Prop := fileNoneRow.holds Try.pinned (OpenSpec.ofChange fileNoneSpec)

/-- ITS FALSE NEIGHBOUR: 'it returns false'. Refute it at one input. -/
def fileNoneWrong : ChangeSpec := { name := "fileNone", fn := fun _ => fun
  | [d1, d2, d3, d4] => { results := [.lit (.bool false)], args := [d1, d2, d3, d4] }
  | _ => none }
def FileNoneWrongFalsely : Prop := fileNoneRow.holds Try.pinned (OpenSpec.ofChange fileNoneWrong)

/- THE SECOND FORM. 'bulk': how many values and letters a reading holds, each counted each time it is reached (what is shared counts as often as it is met; a slice's spare places count too). A statement '..UptoSaid' is the law's where the arguments, and the package variables that the reading takes, are together of bulk at most 1048576: NARROWER than '..Said'. Prove '..Said' where nothing that the law and all that it calls make is longer than what came in: it says more and counts as full. Else prove '..UptoSaid'. A law counts once. -/
mutual
def uptoBulk {H : Type} : DataW H → Nat
  | .lit (.string bytes) => bytes.length + 1
  | .lit _ => 1
  | .nil => 1
  | .ptr d => uptoBulk d + 1
  | .slice elems spare => uptoBulkAll elems + uptoBulkAll spare + 1
  | .agg parts => uptoBulkAll parts + 1
  | .iface _ d => uptoBulk d + 1
  | .map entries => uptoBulkEntries entries + 1
  | .held _ => 1
def uptoBulkAll {H : Type} : List (DataW H) → Nat
  | [] => 0
  | d :: r => uptoBulk d + uptoBulkAll r
def uptoBulkEntries {H : Type} : List (Lit × DataW H) → Nat
  | [] => 0
  | x :: r => uptoBulkEntry x + uptoBulkEntries r
def uptoBulkEntry {H : Type} : Lit × DataW H → Nat
  | (.string bytes, d) => bytes.length + uptoBulk d + 1
  | (_, d) => uptoBulk d + 1
 end
def uptoSmall : (H : Type) → List (DataW H) → Bool := fun _ ds => decide (uptoBulkAll ds ≤ 1048576)
def OpenSpec.upto (s : _root_.Go.ChangeSpec) : _root_.Go.OpenSpec := { _root_.Go.OpenSpec.ofChange s with cond := some uptoSmall }

/-- 'conduitlaw07.FileWhole', WHERE WHAT IT READS IS OF BULK AT MOST 1048576: true; the input reads as it did. -/
def fileWholeUptoRow : OpenClaim := { program := "ytbjeebgdjlemjaa", sum := "c78edcf19537f0a24a25e904d23ffcf733564b32e97da3ef8db3632dc59dc9e6", func := "conduit/conduitlaw07.FileWhole", spec := "fileWhole", inPlace := ["sync/atomic.LoadInt64", "sync/atomic.AddInt64", "maps.clone", "sync/atomic.StoreInt64"], unfollowed := true, recurses := true, apart := false, narrowed := true }
def FileWholeUptoSaid : Prop := fileWholeUptoRow.holds Try.pinned (OpenSpec.upto fileWholeSpec)

/-- 'conduitlaw07.FileSynced', WHERE WHAT IT READS IS OF BULK AT MOST 1048576: true; the input reads as it did. -/
def fileSyncedUptoRow : OpenClaim := { program := "ytbjeebgdjlemjaa", sum := "c78edcf19537f0a24a25e904d23ffcf733564b32e97da3ef8db3632dc59dc9e6", func := "conduit/conduitlaw07.FileSynced", spec := "fileSynced", inPlace := ["sync/atomic.LoadInt64", "sync/atomic.AddInt64", "maps.clone", "sync/atomic.StoreInt64"], unfollowed := true, recurses := true, apart := false, narrowed := true }
def FileSyncedUptoSaid : Prop := fileSyncedUptoRow.holds Try.pinned (OpenSpec.upto fileSyncedSpec)

/-- 'conduitlaw07.FileSpares', WHERE WHAT IT READS IS OF BULK AT MOST 1048576: true; the input reads as it did. -/
def fileSparesUptoRow : OpenClaim := { program := "ytbjeebgdjlemjaa", sum := "c78edcf19537f0a24a25e904d23ffcf733564b32e97da3ef8db3632dc59dc9e6", func := "conduit/conduitlaw07.FileSpares", spec := "fileSpares", inPlace := ["sync/atomic.LoadInt64", "sync/atomic.AddInt64", "maps.clone", "sync/atomic.StoreInt64"], unfollowed := true, recurses := true, apart := false, narrowed := true }
def FileSparesUptoSaid : Prop := fileSparesUptoRow.holds Try.pinned (OpenSpec.upto fileSparesSpec)

/-- 'conduitlaw07.FileCrashes', WHERE WHAT IT READS IS OF BULK AT MOST 1048576: true; the input reads as it did. -/
def fileCrashesUptoRow : OpenClaim := { program := "ytbjeebgdjlemjaa", sum := "c78edcf19537f0a24a25e904d23ffcf733564b32e97da3ef8db3632dc59dc9e6", func := "conduit/conduitlaw07.FileCrashes", spec := "fileCrashes", inPlace := ["sync/atomic.LoadInt64", "sync/atomic.AddInt64", "maps.clone", "sync/atomic.StoreInt64"], unfollowed := true, recurses := true, apart := false, narrowed := true }
def FileCrashesUptoSaid : Prop := fileCrashesUptoRow.holds Try.pinned (OpenSpec.upto fileCrashesSpec)

/-- 'conduitlaw07.FileNumbers', WHERE WHAT IT READS IS OF BULK AT MOST 1048576: true; the input reads as it did. -/
def fileNumbersUptoRow : OpenClaim := { program := "ytbjeebgdjlemjaa", sum := "c78edcf19537f0a24a25e904d23ffcf733564b32e97da3ef8db3632dc59dc9e6", func := "conduit/conduitlaw07.FileNumbers", spec := "fileNumbers", inPlace := ["sync/atomic.LoadInt64", "sync/atomic.AddInt64", "maps.clone", "sync/atomic.StoreInt64"], unfollowed := true, recurses := true, apart := false, narrowed := true }
def FileNumbersUptoSaid : Prop := fileNumbersUptoRow.holds Try.pinned (OpenSpec.upto fileNumbersSpec)

/-- 'conduitlaw07.FilePlays', WHERE WHAT IT READS IS OF BULK AT MOST 1048576: true; the input reads as it did. -/
def filePlaysUptoRow : OpenClaim := { program := "ytbjeebgdjlemjaa", sum := "c78edcf19537f0a24a25e904d23ffcf733564b32e97da3ef8db3632dc59dc9e6", func := "conduit/conduitlaw07.FilePlays", spec := "filePlays", inPlace := ["maps.clone", "sync/atomic.LoadInt64", "sync/atomic.StoreInt64", "sync/atomic.AddInt64"], unfollowed := true, recurses := true, apart := false, narrowed := true }
def FilePlaysUptoSaid : Prop := filePlaysUptoRow.holds Try.pinned (OpenSpec.upto filePlaysSpec)

/-- 'conduitlaw07.FileNone', WHERE WHAT IT READS IS OF BULK AT MOST 1048576: true; the input reads as it did. -/
def fileNoneUptoRow : OpenClaim := { program := "ytbjeebgdjlemjaa", sum := "c78edcf19537f0a24a25e904d23ffcf733564b32e97da3ef8db3632dc59dc9e6", func := "conduit/conduitlaw07.FileNone", spec := "fileNone", inPlace := ["sync/atomic.LoadInt64", "sync/atomic.AddInt64", "sync/atomic.StoreInt64", "maps.clone"], unfollowed := true, recurses := true, apart := false, narrowed := true }
def FileNoneUptoSaid : Prop := fileNoneUptoRow.holds Try.pinned (OpenSpec.upto fileNoneSpec)

end Rows
end Go.Proofs.Ytbjeebgdjlemjaa
