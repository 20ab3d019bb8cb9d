/-
 Bytes, numbers and rows that grow behind, wherever they lie; bytes cut; calls of what lies outside.
 No condition beyond those that each theorem names.
-/
import Derived.Test.YtlejeoajnfaloaaGreatDoorSxq
set_option linter.unusedVariables false
set_option linter.unusedSimpArgs false
/-! Bytes that grow behind, wherever they lie. -/
namespace Go.Sx
theorem ld_fr {w w' : AW} {b o : Nat} {v : AV} (h : ld w b o = some v) (hm : Mem w) (hf : Fr w.size w w') : ld w' b o = some v := by
 unfold ld at h ⊢
 cases hc : w.cells? b with
 | none => rw [hc] at h; cases h
 | some c => rw [hc] at h; rw [hf.cells hm hc (Nat.le_refl _)]; exact h
end Go.Sx
/-! Numbers that grow behind and are written. -/
namespace Go.Sx
end Go.Sx
/-! Rows of any cells that grow behind; byte blocks that stay; maps in memory. -/
namespace Go.Sx
end Go.Sx
/-! Calls of what lies outside the program. -/
namespace Go.Sx
end Go.Sx
