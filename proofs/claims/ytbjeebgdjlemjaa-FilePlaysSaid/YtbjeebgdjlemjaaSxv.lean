/-
 The sorted keys of one's own map.
 No condition beyond those that each theorem names.
-/
import Derived.Test.YtbjeebgdjlemjaaSxo
set_option linter.unusedVariables false
set_option linter.unusedSimpArgs false
/-! The sorted keys of one's own map; lists that are risen. -/
set_option linter.unusedVariables false
namespace Go.Sx
end Go.Sx
