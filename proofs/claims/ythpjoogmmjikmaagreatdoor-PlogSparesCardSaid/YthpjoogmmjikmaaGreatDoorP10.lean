/-
  A segment's file through Open, Append, Sync and a crash.
  No condition beyond those that each theorem names.
-/
import Derived.Test.YthpjoogmmjikmaaGreatDoorL10
import Derived.Test.YthpjoogmmjikmaaGreatDoorK10
set_option linter.unusedSimpArgs false
open Go.Sx
set_option linter.unusedVariables false
set_option linter.unusedSimpArgs false
namespace Go.Proofs.YthpjoogmmjikmaaGreatDoor
theorem open_none {nm : Byts} : openD nm Dsk.none = (Dsk.none, 0) := by
  unfold openD
  have : Dsk.none.read nm = ([], 70) := rfl
  rw [this]
  simp only []
  rw [if_neg (by simp)]
  have : (clean (kept []) == ([] : Byts)) = true := by rfl
  rw [this, if_pos rfl]
end Go.Proofs.YthpjoogmmjikmaaGreatDoor
