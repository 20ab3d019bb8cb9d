/-
  Crash of the disk, over memory, with its own blocks.
  No condition beyond those that each theorem names.
-/
import Derived.Test.YthpjoogmmjikmaaGreatDoorV10
set_option linter.unusedSimpArgs false
open Go.Sx
set_option linter.unusedVariables false
namespace Go.Proofs.YthpjoogmmjikmaaGreatDoor
section
variable {hk : Hook} {A B : Nat → Prop} {I : List Nat} {w0 w w' : AW} {D : Nat} {i i' : DI} {d d' : Dsk} {k k' : Nat} {L L' : Obs} {K : AV → AW → Prop}
end
end Go.Proofs.YthpjoogmmjikmaaGreatDoor
