/- RaftRight: what the row says of the program's form, limb by limb. No condition. -/
import Derived.Test.YtghoifolghelnaaGreatRows
import Derived.Test.YtghoifolghelnaaGreatChecked
import Derived.JoinedOf
import Derived.KernelRfl
namespace Go.Proofs.YtghoifolghelnaaGreat.raftRight
open Go.ChangeShapes Go.WideShapes
theorem limb0 : (Rows.raftRightRow.wf (OpenSpec.ofChange Rows.raftRightSpec)) = true := by kernel_rfl
theorem limb1 : (laidOutB Tryz.checked.prog) = true := by kernel_rfl
theorem limb2 : (mapsRowed Tryz.checked.prog) = true := by kernel_rfl
theorem limb3 : (Tryz.f3.params.all (Tryz.checked.prog.readableRec ·)) = true := by kernel_rfl
theorem limb4 : (namedTie Tryz.checked.prog Rows.raftRightRow.named Rows.raftRightSpec.vars) = true := by kernel_rfl
theorem limb5 : ((Rows.raftRightRow.stops == [])) = true := by kernel_rfl
theorem limb6 : ((Tryz.checked.prog.stops == [])) = true := by kernel_rfl
theorem limb7 : ((Rows.raftRightRow.knobs == [])) = true := by kernel_rfl
theorem limb8 : ((Tryz.checked.prog.stopKnobs == [])) = true := by kernel_rfl
theorem limb9 : ((Rows.raftRightRow.inPlace == Tryz.checked.prog.inPlace 3)) = true := by kernel_rfl
theorem limb10 : ((Rows.raftRightRow.unfollowed == Tryz.checked.prog.unfollowed 3)) = true := by kernel_rfl
theorem limb11 : ((Rows.raftRightRow.recurses == Tryz.checked.prog.recurses 3)) = true := by kernel_rfl
theorem limb12 : ((Rows.raftRightRow.named == Tryz.checked.prog.varsNamed 3)) = true := by kernel_rfl
theorem limb13 : ((Rows.raftRightRow.maps == (Tryz.f3.params.toList ++ Rows.raftRightSpec.plain.varTypes Tryz.checked.prog).any (Tryz.checked.prog.mapsRec ·))) = true := by kernel_rfl
theorem limb14 : ((Rows.raftRightRow.ifaces == (Tryz.f3.params.toList ++ Rows.raftRightSpec.plain.varTypes Tryz.checked.prog).any (Tryz.checked.prog.ifacesRec ·))) = true := by kernel_rfl
theorem limb15 : ((Rows.raftRightRow.mapsOut == Tryz.checked.prog.mapsAmong Tryz.f3.resultTypes.toList)) = true := by kernel_rfl
theorem limb16 : ((Rows.raftRightRow.loops == (Tryz.f3.params.toList ++ Rows.raftRightSpec.plain.varTypes Tryz.checked.prog).any (Tryz.checked.prog.loopsFrom ·))) = true := by kernel_rfl
theorem limb17 : ((Rows.raftRightRow.wideKeys == (Tryz.f3.params.toList ++ Rows.raftRightSpec.plain.varTypes Tryz.checked.prog ++ Tryz.f3.resultTypes.toList).any (Tryz.checked.prog.wideKeysFrom ·))) = true := by kernel_rfl
theorem limb18 : (Rows.raftRightSpec.vars.all (Tryz.checked.prog.varReadable ·)) = true := by kernel_rfl
theorem limb19 : (Tryz.f3.resultTypes.all (fun t => Tryz.checked.prog.readableRec t && decide (t < Tryz.checked.prog.types.size))) = true := by kernel_rfl
theorem limb20 : ((Rows.raftRightRow.ifacesOut == Tryz.f3.resultTypes.toList.any (Tryz.checked.prog.ifacesRec ·))) = true := by kernel_rfl
theorem limb21 : ((Rows.raftRightRow.loopsOut == Tryz.f3.resultTypes.toList.any (Tryz.checked.prog.loopsFrom ·))) = true := by kernel_rfl
theorem limb22 : ((Rows.raftRightRow.plainKeys == Tryz.checked.prog.plainKeys)) = true := by kernel_rfl
theorem limb23 : (Rows.raftRightRow.shortTexts.isNone) = true := by kernel_rfl
theorem limb24 : (Tryz.checked.prog.stopsHeard) = true := by kernel_rfl
theorem limb25 : (Tryz.checked.prog.mayEnter) = true := by kernel_rfl
theorem limb26 : ((Rows.raftRightRow.lifted == Tryz.checked.prog.liftsFinal)) = true := by kernel_rfl
theorem limb27 : ((Tryz.checked.prog.make == some Rows.raftRightRow.make)) = true := by kernel_rfl
theorem limb28 : ((Rows.raftRightRow.kinds == (if Rows.raftRightRow.domain.isEmpty then [] else Tryz.f3.params.toList.map fun t => match Tryz.checked.prog.underlying t with | some (.int k) => some k | _ => none))) = true := by kernel_rfl
theorem limb29 : ((Rows.raftRightRow.pinned == Rows.raftRightRow.pinnedBy)) = true := by kernel_rfl
theorem limb30 : ((Rows.raftRightRow.veiled == (Tryz.f3.params.toList ++ Rows.raftRightSpec.plain.varTypes Tryz.checked.prog ++ Tryz.f3.resultTypes.toList).any (Tryz.checked.prog.veiledRec ·))) = true := by kernel_rfl
theorem limb31 : (Rows.raftRightRow.veiledFits Tryz.checked.prog Tryz.f3.params.toList (Tryz.f3.params.toList ++ Rows.raftRightSpec.plain.varTypes Tryz.checked.prog ++ Tryz.f3.resultTypes.toList)) = true := by kernel_rfl
theorem and2 {a b : Bool} (h1 : a = true) (h2 : b = true) : (a && b) = true := by rw [h1, h2]; rfl
set_option maxRecDepth 100000 in
theorem facts : joinedFacts Tryz.checked.prog 3 Tryz.f3 Rows.raftRightSpec Rows.raftRightRow = true := by
  unfold joinedFacts
  exact (and2 (and2 (and2 (and2 (and2 (and2 (and2 (and2 (and2 (and2 (and2 (and2 (and2 (and2 (and2 (and2 (and2 (and2 (and2 (and2 (and2 (and2 (and2 (and2 (and2 (and2 (and2 (and2 (and2 (and2 (and2 limb0 limb1) limb2) limb3) limb4) limb5) limb6) limb7) limb8) limb9) limb10) limb11) limb12) limb13) limb14) limb15) limb16) limb17) limb18) limb19) limb20) limb21) limb22) limb23) limb24) limb25) limb26) limb27) limb28) limb29) limb30) limb31)
end Go.Proofs.YtghoifolghelnaaGreat.raftRight
