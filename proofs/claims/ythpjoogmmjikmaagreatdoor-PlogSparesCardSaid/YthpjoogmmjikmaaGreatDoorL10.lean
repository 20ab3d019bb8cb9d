/-
  told, SameLists, Count, over memory.
  No condition beyond those that each theorem names.
-/
import Derived.Test.YthpjoogmmjikmaaGreatDoorM10
set_option linter.unusedSimpArgs false
open Go.Sx
set_option linter.unusedVariables false
set_option linter.unusedSimpArgs false
namespace Go.Proofs.YthpjoogmmjikmaaGreatDoor
section
variable {hk : Hook} {A B : Nat → Prop} {I : List Nat} {w0 w w' : AW} {D S : Nat} {i i' : DI} {d d' : Dsk} {k k' : Nat} {L L' : Obs} {K : AV → AW → Prop} {nm bs : Byts} {E : List Nat} {bv ev : AV} {br : Bool} {ef : Nat} {eo : Ob}
theorem s58 (hh : HK hk) (h3 : ld w S 3 = some ev) (he : Rs w 1 E.length ev (cst E)) (hK : K (.int .i64 (E.length : Nat)) w) : Cl Tryz.prog hk 58 [.ptr S 0] w K := by
  apply in58 (hh.no _ _ _ (by decide) (by decide))
  unfold F58
  refine ⟨false, by kernel_rfl, ifT_f ?_⟩
  simp only [onP]
  exact onM_s h3 ⟨_, he.len, hK⟩
end
end Go.Proofs.YthpjoogmmjikmaaGreatDoor
