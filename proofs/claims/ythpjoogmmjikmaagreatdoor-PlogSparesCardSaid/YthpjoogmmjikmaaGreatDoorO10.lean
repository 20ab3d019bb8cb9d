/-
  Open of a file that is not there.
  No condition beyond those that each theorem names.
-/
import Derived.Test.YthpjoogmmjikmaaGreatDoorH10
set_option linter.unusedSimpArgs false
open Go.Sx
set_option linter.unusedVariables false
set_option linter.unusedSimpArgs false
namespace Go.Proofs.YthpjoogmmjikmaaGreatDoor
section
variable {hk : Hook} {A B : Nat → Prop} {I : List Nat} {w0 w w' : AW} {D S : Nat} {i i' : DI} {d d' : Dsk} {k k' : Nat} {L L' : Obs} {K : AV → AW → Prop} {nm bs : Byts} {es : List Int} {bv ev : AV} {br : Bool} {ef : Nat} {eo : Ob}
theorem s87o {v : AV} {fr : Int} (hh : HK hk) (st : Ow A I w0 w L) (hv : okCell v = true) (hK : ∀ c1 c2 w', Ow A I w0 w' ((c1, .row [.int .i64 fr]) :: (c2, .row [v]) :: L) → Xt (ids L) w (c1 :: c2 :: ids L) w' → K (.func 128 [] [.ptr c1 0, .ptr c2 0]) w') : Cl Tryz.prog hk 87 [v, .int .i64 fr] w K := by
  apply in87 (hh.no _ _ _ (by decide) (by decide))
  unfold F87
  exact gd_t hv (st.new' fun c2 w3 st3 x3 => st3.new' fun c1 w5 st5 x5 => hK c1 c2 w5 st5 (x3.trans x5))
end
end Go.Proofs.YthpjoogmmjikmaaGreatDoor
