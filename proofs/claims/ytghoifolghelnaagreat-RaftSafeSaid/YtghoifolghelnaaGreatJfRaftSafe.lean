/- RaftSafe: what the row says of the program's form, limb by limb. No condition. -/
import Derived.Test.YtghoifolghelnaaGreatRows
import Derived.Test.YtghoifolghelnaaGreatChecked
import Derived.JoinedOf
import Derived.KernelRfl
namespace Go.Proofs.YtghoifolghelnaaGreat.raftSafe
open Go.ChangeShapes Go.WideShapes
theorem limb0 : (Rows.raftSafeRow.wf (OpenSpec.ofChange Rows.raftSafeSpec)) = true := by kernel_rfl
theorem limb1 : (laidOutB Tryz.checked.prog) = true := by kernel_rfl
theorem limb2 : (mapsRowed Tryz.checked.prog) = true := by kernel_rfl
theorem limb3 : (Tryz.f5.params.all (Tryz.checked.prog.readableRec ·)) = true := by kernel_rfl
theorem limb4 : (namedTie Tryz.checked.prog Rows.raftSafeRow.named Rows.raftSafeSpec.vars) = true := by kernel_rfl
theorem limb5 : ((Rows.raftSafeRow.stops == [])) = true := by kernel_rfl
theorem limb6 : ((Tryz.checked.prog.stops == [])) = true := by kernel_rfl
theorem limb7 : ((Rows.raftSafeRow.knobs == [])) = true := by kernel_rfl
theorem limb8 : ((Tryz.checked.prog.stopKnobs == [])) = true := by kernel_rfl
theorem limb9 : ((Rows.raftSafeRow.inPlace == Tryz.checked.prog.inPlace 5)) = true := by kernel_rfl
theorem limb10 : ((Rows.raftSafeRow.unfollowed == Tryz.checked.prog.unfollowed 5)) = true := by kernel_rfl
theorem limb11 : ((Rows.raftSafeRow.recurses == Tryz.checked.prog.recurses 5)) = true := by kernel_rfl
theorem limb12 : ((Rows.raftSafeRow.named == Tryz.checked.prog.varsNamed 5)) = true := by kernel_rfl
theorem limb13 : ((Rows.raftSafeRow.maps == (Tryz.f5.params.toList ++ Rows.raftSafeSpec.plain.varTypes Tryz.checked.prog).any (Tryz.checked.prog.mapsRec ·))) = true := by kernel_rfl
theorem limb14 : ((Rows.raftSafeRow.ifaces == (Tryz.f5.params.toList ++ Rows.raftSafeSpec.plain.varTypes Tryz.checked.prog).any (Tryz.checked.prog.ifacesRec ·))) = true := by kernel_rfl
theorem limb15 : ((Rows.raftSafeRow.mapsOut == Tryz.checked.prog.mapsAmong Tryz.f5.resultTypes.toList)) = true := by kernel_rfl
theorem limb16 : ((Rows.raftSafeRow.loops == (Tryz.f5.params.toList ++ Rows.raftSafeSpec.plain.varTypes Tryz.checked.prog).any (Tryz.checked.prog.loopsFrom ·))) = true := by kernel_rfl
theorem limb17 : ((Rows.raftSafeRow.wideKeys == (Tryz.f5.params.toList ++ Rows.raftSafeSpec.plain.varTypes Tryz.checked.prog ++ Tryz.f5.resultTypes.toList).any (Tryz.checked.prog.wideKeysFrom ·))) = true := by kernel_rfl
theorem limb18 : (Rows.raftSafeSpec.vars.all (Tryz.checked.prog.varReadable ·)) = true := by kernel_rfl
theorem limb19 : (Tryz.f5.resultTypes.all (fun t => Tryz.checked.prog.readableRec t && decide (t < Tryz.checked.prog.types.size))) = true := by kernel_rfl
theorem limb20 : ((Rows.raftSafeRow.ifacesOut == Tryz.f5.resultTypes.toList.any (Tryz.checked.prog.ifacesRec ·))) = true := by kernel_rfl
theorem limb21 : ((Rows.raftSafeRow.loopsOut == Tryz.f5.resultTypes.toList.any (Tryz.checked.prog.loopsFrom ·))) = true := by kernel_rfl
theorem limb22 : ((Rows.raftSafeRow.plainKeys == Tryz.checked.prog.plainKeys)) = true := by kernel_rfl
theorem limb23 : (Rows.raftSafeRow.shortTexts.isNone) = true := by kernel_rfl
theorem limb24 : (Tryz.checked.prog.stopsHeard) = true := by kernel_rfl
theorem limb25 : (Tryz.checked.prog.mayEnter) = true := by kernel_rfl
theorem limb26 : ((Rows.raftSafeRow.lifted == Tryz.checked.prog.liftsFinal)) = true := by kernel_rfl
theorem limb27 : ((Tryz.checked.prog.make == some Rows.raftSafeRow.make)) = true := by kernel_rfl
theorem limb28 : ((Rows.raftSafeRow.kinds == (if Rows.raftSafeRow.domain.isEmpty then [] else Tryz.f5.params.toList.map fun t => match Tryz.checked.prog.underlying t with | some (.int k) => some k | _ => none))) = true := by kernel_rfl
theorem limb29 : ((Rows.raftSafeRow.pinned == Rows.raftSafeRow.pinnedBy)) = true := by kernel_rfl
theorem limb30 : ((Rows.raftSafeRow.veiled == (Tryz.f5.params.toList ++ Rows.raftSafeSpec.plain.varTypes Tryz.checked.prog ++ Tryz.f5.resultTypes.toList).any (Tryz.checked.prog.veiledRec ·))) = true := by kernel_rfl
theorem limb31 : (Rows.raftSafeRow.veiledFits Tryz.checked.prog Tryz.f5.params.toList (Tryz.f5.params.toList ++ Rows.raftSafeSpec.plain.varTypes Tryz.checked.prog ++ Tryz.f5.resultTypes.toList)) = true := by kernel_rfl
theorem and2 {a b : Bool} (h1 : a = true) (h2 : b = true) : (a && b) = true := by rw [h1, h2]; rfl
set_option maxRecDepth 100000 in
theorem facts : joinedFacts Tryz.checked.prog 5 Tryz.f5 Rows.raftSafeSpec Rows.raftSafeRow = true := by
  unfold joinedFacts
  exact (and2 (and2 (and2 (and2 (and2 (and2 (and2 (and2 (and2 (and2 (and2 (and2 (and2 (and2 (and2 (and2 (and2 (and2 (and2 (and2 (and2 (and2 (and2 (and2 (and2 (and2 (and2 (and2 (and2 (and2 (and2 limb0 limb1) limb2) limb3) limb4) limb5) limb6) limb7) limb8) limb9) limb10) limb11) limb12) limb13) limb14) limb15) limb16) limb17) limb18) limb19) limb20) limb21) limb22) limb23) limb24) limb25) limb26) limb27) limb28) limb29) limb30) limb31)
end Go.Proofs.YtghoifolghelnaaGreat.raftSafe
