/- Closed facts for the card. Conditions: none. -/
import Derived.Test.YtfmbpdacdopkgaaGreatDoorCards
import Derived.Test.YtfmbpdacdopkgaaGreatDoorTie
import Derived.JoinedCond
import Derived.KernelRfl
namespace Go.Proofs.YtfmbpdacdopkgaaGreatDoor
set_option maxRecDepth 100000
open Go
theorem fact_k1 : (Rows.imageScansRow.wf (OpenSpec.ofChange (OpenSpec.ofChange Rows.imageScansSpec).bare)) = true := by kernel_rfl
theorem fact_k2 : (laidOutB Tryz.pinned.checked.prog) = true := by kernel_rfl
theorem fact_k3 : (mapsRowed Tryz.pinned.checked.prog) = true := by kernel_rfl
theorem fact_k4 : (Tryz.f4.params.all (Tryz.pinned.checked.prog.readableRec ·)) = true := by kernel_rfl
theorem fact_k5 : (namedTie Tryz.pinned.checked.prog Rows.imageScansRow.named (OpenSpec.ofChange Rows.imageScansSpec).bare.vars) = true := by kernel_rfl
theorem fact_k6 : ((Rows.imageScansRow.stops == [])) = true := by kernel_rfl
theorem fact_k7 : ((Tryz.pinned.checked.prog.stops == [])) = true := by kernel_rfl
theorem fact_k8 : ((Rows.imageScansRow.knobs == [])) = true := by kernel_rfl
theorem fact_k9 : ((Tryz.pinned.checked.prog.stopKnobs == [])) = true := by kernel_rfl
theorem fact_k14 : ((Rows.imageScansRow.maps == (Tryz.f4.params.toList ++ (OpenSpec.ofChange Rows.imageScansSpec).bare.plain.varTypes Tryz.pinned.checked.prog).any (Tryz.pinned.checked.prog.mapsRec ·))) = true := by kernel_rfl
theorem fact_k15 : ((Rows.imageScansRow.ifaces == (Tryz.f4.params.toList ++ (OpenSpec.ofChange Rows.imageScansSpec).bare.plain.varTypes Tryz.pinned.checked.prog).any (Tryz.pinned.checked.prog.ifacesRec ·))) = true := by kernel_rfl
theorem fact_k16 : ((Rows.imageScansRow.mapsOut == Tryz.pinned.checked.prog.mapsAmong Tryz.f4.resultTypes.toList)) = true := by kernel_rfl
theorem fact_k17 : ((Rows.imageScansRow.loops == (Tryz.f4.params.toList ++ (OpenSpec.ofChange Rows.imageScansSpec).bare.plain.varTypes Tryz.pinned.checked.prog).any (Tryz.pinned.checked.prog.loopsFrom ·))) = true := by kernel_rfl
theorem fact_k18 : ((Rows.imageScansRow.wideKeys == (Tryz.f4.params.toList ++ (OpenSpec.ofChange Rows.imageScansSpec).bare.plain.varTypes Tryz.pinned.checked.prog ++ Tryz.f4.resultTypes.toList).any (Tryz.pinned.checked.prog.wideKeysFrom ·))) = true := by kernel_rfl
theorem fact_k19 : ((OpenSpec.ofChange Rows.imageScansSpec).bare.vars.all (Tryz.pinned.checked.prog.varReadable ·)) = true := by kernel_rfl
theorem fact_k20 : (Tryz.f4.resultTypes.all (fun t => Tryz.pinned.checked.prog.readableRec t && decide (t < Tryz.pinned.checked.prog.types.size))) = true := by kernel_rfl
theorem fact_k21 : ((Rows.imageScansRow.ifacesOut == Tryz.f4.resultTypes.toList.any (Tryz.pinned.checked.prog.ifacesRec ·))) = true := by kernel_rfl
theorem fact_k22 : ((Rows.imageScansRow.loopsOut == Tryz.f4.resultTypes.toList.any (Tryz.pinned.checked.prog.loopsFrom ·))) = true := by kernel_rfl
theorem fact_k23 : ((Rows.imageScansRow.plainKeys == Tryz.pinned.checked.prog.plainKeys)) = true := by kernel_rfl
theorem fact_k24 : (Rows.imageScansRow.shortTexts.isNone) = true := by kernel_rfl
theorem fact_k25 : (Tryz.pinned.checked.prog.stopsHeard) = true := by kernel_rfl
theorem fact_k26 : (Tryz.pinned.checked.prog.mayEnter) = true := by kernel_rfl
theorem fact_k27 : ((Rows.imageScansRow.lifted == Tryz.pinned.checked.prog.liftsFinal)) = true := by kernel_rfl
theorem fact_k28 : ((Tryz.pinned.checked.prog.make == some Rows.imageScansRow.make)) = true := by kernel_rfl
theorem fact_k29 : ((Rows.imageScansRow.kinds == (if Rows.imageScansRow.domain.isEmpty then [] else Tryz.f4.params.toList.map fun t => match Tryz.pinned.checked.prog.underlying t with | some (.int k) => some k | _ => none))) = true := by kernel_rfl
theorem fact_k30 : ((Rows.imageScansRow.pinned == Rows.imageScansRow.pinnedBy)) = true := by kernel_rfl
theorem fact_k31 : ((Rows.imageScansRow.veiled == (Tryz.f4.params.toList ++ (OpenSpec.ofChange Rows.imageScansSpec).bare.plain.varTypes Tryz.pinned.checked.prog ++ Tryz.f4.resultTypes.toList).any (Tryz.pinned.checked.prog.veiledRec ·))) = true := by kernel_rfl
theorem fact_k32 : (Rows.imageScansRow.veiledFits Tryz.pinned.checked.prog Tryz.f4.params.toList (Tryz.f4.params.toList ++ (OpenSpec.ofChange Rows.imageScansSpec).bare.plain.varTypes Tryz.pinned.checked.prog ++ Tryz.f4.resultTypes.toList)) = true := by kernel_rfl
end Go.Proofs.YtfmbpdacdopkgaaGreatDoor
