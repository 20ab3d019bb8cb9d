/-
 The disk of chapter 7: a crash.
 No condition beyond those that each theorem names.
-/
import Derived.Test.YthpjoogmmjikmaaGreatDoorSxw
set_option linter.unusedVariables false
set_option linter.unusedSimpArgs false
/-! The disk in memory: its block is built anew; other objects turn; ranges over maps. -/
namespace Go.Sx
section
variable {X : List Nat} {w w' : AW} {D n1 f1 n2 f2 : Nat} {sv : AV} {d : Dsk}
end
/-! ### Crashes -/
def keepL (keep : List Bool) : Nat → List Stp → FS → FS
 | _, [], s => s
 | i, x :: r, s => keepL keep (i + 1) r (if keep.getD i false then s.does x else s)
end Go.Sx
