/- SnapNone: what the row says of the program's form, limb by limb. No condition. -/
import Derived.Test.YtlejeoajnfaloaaGreatDoorRows
import Derived.Test.YtlejeoajnfaloaaGreatDoorChecked
import Derived.JoinedOf
import Derived.KernelRfl
namespace Go.Proofs.YtlejeoajnfaloaaGreatDoor.snapNone
open Go.ChangeShapes Go.WideShapes
theorem limb0 : (Rows.snapNoneRow.wf (OpenSpec.ofChange Rows.snapNoneSpec)) = true := by kernel_rfl
theorem limb1 : (laidOutB Tryz.checked.prog) = true := by kernel_rfl
theorem limb2 : (mapsRowed Tryz.checked.prog) = true := by kernel_rfl
theorem limb3 : (Tryz.f5.params.all (Tryz.checked.prog.readableRec ·)) = true := by kernel_rfl
theorem limb4 : (namedTie Tryz.checked.prog Rows.snapNoneRow.named Rows.snapNoneSpec.vars) = true := by kernel_rfl
theorem limb5 : ((Rows.snapNoneRow.stops == [])) = true := by kernel_rfl
theorem limb6 : ((Tryz.checked.prog.stops == [])) = true := by kernel_rfl
theorem limb7 : ((Rows.snapNoneRow.knobs == [])) = true := by kernel_rfl
theorem limb8 : ((Tryz.checked.prog.stopKnobs == [])) = true := by kernel_rfl
theorem limb9 : ((Rows.snapNoneRow.inPlace == Tryz.checked.prog.inPlace 5)) = true := by kernel_rfl
theorem limb10 : ((Rows.snapNoneRow.unfollowed == Tryz.checked.prog.unfollowed 5)) = true := by kernel_rfl
theorem limb11 : ((Rows.snapNoneRow.recurses == Tryz.checked.prog.recurses 5)) = true := by kernel_rfl
theorem limb12 : ((Rows.snapNoneRow.named == Tryz.checked.prog.varsNamed 5)) = true := by kernel_rfl
theorem limb13 : ((Rows.snapNoneRow.maps == (Tryz.f5.params.toList ++ Rows.snapNoneSpec.plain.varTypes Tryz.checked.prog).any (Tryz.checked.prog.mapsRec ·))) = true := by kernel_rfl
theorem limb14 : ((Rows.snapNoneRow.ifaces == (Tryz.f5.params.toList ++ Rows.snapNoneSpec.plain.varTypes Tryz.checked.prog).any (Tryz.checked.prog.ifacesRec ·))) = true := by kernel_rfl
theorem limb15 : ((Rows.snapNoneRow.mapsOut == Tryz.checked.prog.mapsAmong Tryz.f5.resultTypes.toList)) = true := by kernel_rfl
theorem limb16 : ((Rows.snapNoneRow.loops == (Tryz.f5.params.toList ++ Rows.snapNoneSpec.plain.varTypes Tryz.checked.prog).any (Tryz.checked.prog.loopsFrom ·))) = true := by kernel_rfl
theorem limb17 : ((Rows.snapNoneRow.wideKeys == (Tryz.f5.params.toList ++ Rows.snapNoneSpec.plain.varTypes Tryz.checked.prog ++ Tryz.f5.resultTypes.toList).any (Tryz.checked.prog.wideKeysFrom ·))) = true := by kernel_rfl
theorem limb18 : (Rows.snapNoneSpec.vars.all (Tryz.checked.prog.varReadable ·)) = true := by kernel_rfl
theorem limb19 : (Tryz.f5.resultTypes.all (fun t => Tryz.checked.prog.readableRec t && decide (t < Tryz.checked.prog.types.size))) = true := by kernel_rfl
theorem limb20 : ((Rows.snapNoneRow.ifacesOut == Tryz.f5.resultTypes.toList.any (Tryz.checked.prog.ifacesRec ·))) = true := by kernel_rfl
theorem limb21 : ((Rows.snapNoneRow.loopsOut == Tryz.f5.resultTypes.toList.any (Tryz.checked.prog.loopsFrom ·))) = true := by kernel_rfl
theorem limb22 : ((Rows.snapNoneRow.plainKeys == Tryz.checked.prog.plainKeys)) = true := by kernel_rfl
theorem limb23 : (Rows.snapNoneRow.shortTexts.isNone) = true := by kernel_rfl
theorem limb24 : (Tryz.checked.prog.stopsHeard) = true := by kernel_rfl
theorem limb25 : (Tryz.checked.prog.mayEnter) = true := by kernel_rfl
theorem limb26 : ((Rows.snapNoneRow.lifted == Tryz.checked.prog.liftsFinal)) = true := by kernel_rfl
theorem limb27 : ((Tryz.checked.prog.make == some Rows.snapNoneRow.make)) = true := by kernel_rfl
theorem limb28 : ((Rows.snapNoneRow.kinds == (if Rows.snapNoneRow.domain.isEmpty then [] else Tryz.f5.params.toList.map fun t => match Tryz.checked.prog.underlying t with | some (.int k) => some k | _ => none))) = true := by kernel_rfl
theorem limb29 : ((Rows.snapNoneRow.pinned == Rows.snapNoneRow.pinnedBy)) = true := by kernel_rfl
theorem limb30 : ((Rows.snapNoneRow.veiled == (Tryz.f5.params.toList ++ Rows.snapNoneSpec.plain.varTypes Tryz.checked.prog ++ Tryz.f5.resultTypes.toList).any (Tryz.checked.prog.veiledRec ·))) = true := by kernel_rfl
theorem limb31 : (Rows.snapNoneRow.veiledFits Tryz.checked.prog Tryz.f5.params.toList (Tryz.f5.params.toList ++ Rows.snapNoneSpec.plain.varTypes Tryz.checked.prog ++ Tryz.f5.resultTypes.toList)) = true := by kernel_rfl
theorem and2 {a b : Bool} (h1 : a = true) (h2 : b = true) : (a && b) = true := by rw [h1, h2]; rfl
set_option maxRecDepth 100000 in
theorem facts : joinedFacts Tryz.checked.prog 5 Tryz.f5 Rows.snapNoneSpec Rows.snapNoneRow = true := by
  unfold joinedFacts
  exact (and2 (and2 (and2 (and2 (and2 (and2 (and2 (and2 (and2 (and2 (and2 (and2 (and2 (and2 (and2 (and2 (and2 (and2 (and2 (and2 (and2 (and2 (and2 (and2 (and2 (and2 (and2 (and2 (and2 (and2 (and2 limb0 limb1) limb2) limb3) limb4) limb5) limb6) limb7) limb8) limb9) limb10) limb11) limb12) limb13) limb14) limb15) limb16) limb17) limb18) limb19) limb20) limb21) limb22) limb23) limb24) limb25) limb26) limb27) limb28) limb29) limb30) limb31)
end Go.Proofs.YtlejeoajnfaloaaGreatDoor.snapNone
