/-
 The sorted keys of one's own map.
 No condition beyond those that each theorem names.
-/
import Derived.Test.YthpjoogmmjikmaaGreatDoorSxo
set_option linter.unusedVariables false
set_option linter.unusedSimpArgs false
/-! The sorted keys of one's own map; lists that are risen. -/
set_option linter.unusedVariables false
namespace Go.Sx
section
variable {α : Type} {key : α → Int} {r : Rp α} {A B : Nat → Prop} {I : List Nat} {w0 w : AW} {L : Obs}
end
end Go.Sx
