/-
 Ranges over functions of two values,as formulas.
 No condition beyond those that each theorem names.
-/
import Derived.Test.YtghoifolghelnaaGreatSxn
set_option linter.unusedVariables false
set_option linter.unusedSimpArgs false
/-! Ranges over functions of two values, at a function's own level, as formulas. -/
namespace Go.Sx
end Go.Sx
