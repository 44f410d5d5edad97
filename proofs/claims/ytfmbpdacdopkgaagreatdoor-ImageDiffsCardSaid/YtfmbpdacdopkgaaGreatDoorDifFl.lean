/- Closed facts for the card. Conditions: none. -/
import Derived.Test.YtfmbpdacdopkgaaGreatDoorCards
import Derived.Test.YtfmbpdacdopkgaaGreatDoorTie
import Derived.JoinedCond
import Derived.KernelRfl
namespace Go.Proofs.YtfmbpdacdopkgaaGreatDoor
set_option maxRecDepth 100000
open Go
theorem fact_k1 : (Rows.imageDiffsRow.wf (OpenSpec.ofChange (OpenSpec.ofChange Rows.imageDiffsSpec).bare)) = true := by kernel_rfl
theorem fact_k2 : (laidOutB Tryz.pinned.checked.prog) = true := by kernel_rfl
theorem fact_k3 : (mapsRowed Tryz.pinned.checked.prog) = true := by kernel_rfl
theorem fact_k4 : (Tryz.f5.params.all (Tryz.pinned.checked.prog.readableRec ·)) = true := by kernel_rfl
theorem fact_k5 : (namedTie Tryz.pinned.checked.prog Rows.imageDiffsRow.named (OpenSpec.ofChange Rows.imageDiffsSpec).bare.vars) = true := by kernel_rfl
theorem fact_k6 : ((Rows.imageDiffsRow.stops == [])) = true := by kernel_rfl
theorem fact_k7 : ((Tryz.pinned.checked.prog.stops == [])) = true := by kernel_rfl
theorem fact_k8 : ((Rows.imageDiffsRow.knobs == [])) = true := by kernel_rfl
theorem fact_k9 : ((Tryz.pinned.checked.prog.stopKnobs == [])) = true := by kernel_rfl
theorem fact_k14 : ((Rows.imageDiffsRow.maps == (Tryz.f5.params.toList ++ (OpenSpec.ofChange Rows.imageDiffsSpec).bare.plain.varTypes Tryz.pinned.checked.prog).any (Tryz.pinned.checked.prog.mapsRec ·))) = true := by kernel_rfl
theorem fact_k15 : ((Rows.imageDiffsRow.ifaces == (Tryz.f5.params.toList ++ (OpenSpec.ofChange Rows.imageDiffsSpec).bare.plain.varTypes Tryz.pinned.checked.prog).any (Tryz.pinned.checked.prog.ifacesRec ·))) = true := by kernel_rfl
theorem fact_k16 : ((Rows.imageDiffsRow.mapsOut == Tryz.pinned.checked.prog.mapsAmong Tryz.f5.resultTypes.toList)) = true := by kernel_rfl
theorem fact_k17 : ((Rows.imageDiffsRow.loops == (Tryz.f5.params.toList ++ (OpenSpec.ofChange Rows.imageDiffsSpec).bare.plain.varTypes Tryz.pinned.checked.prog).any (Tryz.pinned.checked.prog.loopsFrom ·))) = true := by kernel_rfl
theorem fact_k18 : ((Rows.imageDiffsRow.wideKeys == (Tryz.f5.params.toList ++ (OpenSpec.ofChange Rows.imageDiffsSpec).bare.plain.varTypes Tryz.pinned.checked.prog ++ Tryz.f5.resultTypes.toList).any (Tryz.pinned.checked.prog.wideKeysFrom ·))) = true := by kernel_rfl
theorem fact_k19 : ((OpenSpec.ofChange Rows.imageDiffsSpec).bare.vars.all (Tryz.pinned.checked.prog.varReadable ·)) = true := by kernel_rfl
theorem fact_k20 : (Tryz.f5.resultTypes.all (fun t => Tryz.pinned.checked.prog.readableRec t && decide (t < Tryz.pinned.checked.prog.types.size))) = true := by kernel_rfl
theorem fact_k21 : ((Rows.imageDiffsRow.ifacesOut == Tryz.f5.resultTypes.toList.any (Tryz.pinned.checked.prog.ifacesRec ·))) = true := by kernel_rfl
theorem fact_k22 : ((Rows.imageDiffsRow.loopsOut == Tryz.f5.resultTypes.toList.any (Tryz.pinned.checked.prog.loopsFrom ·))) = true := by kernel_rfl
theorem fact_k23 : ((Rows.imageDiffsRow.plainKeys == Tryz.pinned.checked.prog.plainKeys)) = true := by kernel_rfl
theorem fact_k24 : (Rows.imageDiffsRow.shortTexts.isNone) = true := by kernel_rfl
theorem fact_k25 : (Tryz.pinned.checked.prog.stopsHeard) = true := by kernel_rfl
theorem fact_k26 : (Tryz.pinned.checked.prog.mayEnter) = true := by kernel_rfl
theorem fact_k27 : ((Rows.imageDiffsRow.lifted == Tryz.pinned.checked.prog.liftsFinal)) = true := by kernel_rfl
theorem fact_k28 : ((Tryz.pinned.checked.prog.make == some Rows.imageDiffsRow.make)) = true := by kernel_rfl
theorem fact_k29 : ((Rows.imageDiffsRow.kinds == (if Rows.imageDiffsRow.domain.isEmpty then [] else Tryz.f5.params.toList.map fun t => match Tryz.pinned.checked.prog.underlying t with | some (.int k) => some k | _ => none))) = true := by kernel_rfl
theorem fact_k30 : ((Rows.imageDiffsRow.pinned == Rows.imageDiffsRow.pinnedBy)) = true := by kernel_rfl
theorem fact_k31 : ((Rows.imageDiffsRow.veiled == (Tryz.f5.params.toList ++ (OpenSpec.ofChange Rows.imageDiffsSpec).bare.plain.varTypes Tryz.pinned.checked.prog ++ Tryz.f5.resultTypes.toList).any (Tryz.pinned.checked.prog.veiledRec ·))) = true := by kernel_rfl
theorem fact_k32 : (Rows.imageDiffsRow.veiledFits Tryz.pinned.checked.prog Tryz.f5.params.toList (Tryz.f5.params.toList ++ (OpenSpec.ofChange Rows.imageDiffsSpec).bare.plain.varTypes Tryz.pinned.checked.prog ++ Tryz.f5.resultTypes.toList)) = true := by kernel_rfl
end Go.Proofs.YtfmbpdacdopkgaaGreatDoor
