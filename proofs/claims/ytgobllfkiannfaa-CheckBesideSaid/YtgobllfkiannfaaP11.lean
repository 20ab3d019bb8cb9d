/-
  A segment's file through Open, Append, Sync and a crash.
  No condition beyond those that each theorem names.
-/
import Derived.Test.YtgobllfkiannfaaL11
import Derived.Test.YtgobllfkiannfaaK11
set_option linter.unusedSimpArgs false
open Go.Sx
set_option linter.unusedVariables false
set_option linter.unusedSimpArgs false
namespace Go.Proofs.Ytgobllfkiannfaa
end Go.Proofs.Ytgobllfkiannfaa
