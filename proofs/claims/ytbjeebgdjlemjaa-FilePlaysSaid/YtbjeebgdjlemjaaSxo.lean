/-
 A slice of numbers sorted in its place,from the shelf,as a hook.
 No condition beyond those that each theorem names.
-/
import Derived.Test.YtbjeebgdjlemjaaSxm
set_option linter.unusedVariables false
set_option linter.unusedSimpArgs false
/-! slices.Sort of numbers, in its place, from the shelf, as a hook. -/
namespace Go.Sx
open Go.RowKit Go.Maps Go.Sort Go.Shelf Go.ChangeShapes Go.WideShapes
end Go.Sx
