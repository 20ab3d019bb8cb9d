/-
 The disk of chapter 7: what it is purely, how it lies in memory.
 No condition beyond those that each theorem names.
-/
import Derived.Test.YtlejeoajnfaloaaGreatDoorSxt
set_option linter.unusedVariables false
set_option linter.unusedSimpArgs false
/-! The disk of chapter 7: what it is purely, and how it lies in memory. -/
namespace Go.Sx
abbrev Byts := List UInt8
structure Stp where
 what : Int
 file : Int
 n : Int
 data : Byts
 name : Byts
 to : Byts
structure FS where
 names : List (Byts × Int)
 files : Int → List Byts
end Go.Sx
/-! The disk of chapter 7, whole: purely, and in memory. -/
namespace Go.Sx
structure Dsk where
 safe : FS
 now : FS
 steps : List Stp
 last : Int
 down : Bool
 arm : Int
 fault : Int
 wth : Int
end Go.Sx
/-! The disk in memory: steps are added, states are turned. -/
namespace Go.Sx
end Go.Sx
/-! What stays true of a disk, purely. -/
namespace Go.Sx
end Go.Sx
/-! The disk of chapter 7 as blocks of one's own. -/
set_option linter.unusedVariables false
namespace Go.Sx
structure DI where
 n1 : Nat
 f1 : Nat
 n2 : Nat
 f2 : Nat
 fs : Nat
 so : Ob
 sv : AV
 e1 : List (AV × AV)
 e2 : List (AV × AV)
end Go.Sx
