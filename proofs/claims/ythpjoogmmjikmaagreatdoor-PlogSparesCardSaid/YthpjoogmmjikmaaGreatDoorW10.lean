/-
  Frames and files of a segment, purely.
  No condition beyond those that each theorem names.
-/
import Derived.Test.YthpjoogmmjikmaaGreatDoorX10
set_option linter.unusedSimpArgs false
open Go.Sx
set_option linter.unusedVariables false
set_option linter.unusedSimpArgs false
namespace Go.Proofs.YthpjoogmmjikmaaGreatDoor
end Go.Proofs.YthpjoogmmjikmaaGreatDoor
