/-
 The disk of chapter 7: a crash.
 No condition beyond those that each theorem names.
-/
import Derived.Test.YtlejeoajnfaloaaGreatDoorSxw
set_option linter.unusedVariables false
set_option linter.unusedSimpArgs false
/-! The disk in memory: its block is built anew; other objects turn; ranges over maps. -/
namespace Go.Sx
end Go.Sx
