/- Closed facts for the card. Conditions: none. -/
import Derived.Test.YtfmbpdacdopkgaaGreatDoorCards
import Derived.Test.YtfmbpdacdopkgaaGreatDoorTie
import Derived.JoinedCond
import Derived.KernelRfl
namespace Go.Proofs.YtfmbpdacdopkgaaGreatDoor
set_option maxRecDepth 100000
open Go
theorem fact_k1 : (Rows.imageSlotsRow.wf (OpenSpec.ofChange (OpenSpec.ofChange Rows.imageSlotsSpec).bare)) = true := by kernel_rfl
theorem fact_k2 : (laidOutB Tryz.pinned.checked.prog) = true := by kernel_rfl
theorem fact_k3 : (mapsRowed Tryz.pinned.checked.prog) = true := by kernel_rfl
theorem fact_k4 : (Tryz.f6.params.all (Tryz.pinned.checked.prog.readableRec ·)) = true := by kernel_rfl
theorem fact_k5 : (namedTie Tryz.pinned.checked.prog Rows.imageSlotsRow.named (OpenSpec.ofChange Rows.imageSlotsSpec).bare.vars) = true := by kernel_rfl
theorem fact_k6 : ((Rows.imageSlotsRow.stops == [])) = true := by kernel_rfl
theorem fact_k7 : ((Tryz.pinned.checked.prog.stops == [])) = true := by kernel_rfl
theorem fact_k8 : ((Rows.imageSlotsRow.knobs == [])) = true := by kernel_rfl
theorem fact_k9 : ((Tryz.pinned.checked.prog.stopKnobs == [])) = true := by kernel_rfl
theorem fact_k14 : ((Rows.imageSlotsRow.maps == (Tryz.f6.params.toList ++ (OpenSpec.ofChange Rows.imageSlotsSpec).bare.plain.varTypes Tryz.pinned.checked.prog).any (Tryz.pinned.checked.prog.mapsRec ·))) = true := by kernel_rfl
theorem fact_k15 : ((Rows.imageSlotsRow.ifaces == (Tryz.f6.params.toList ++ (OpenSpec.ofChange Rows.imageSlotsSpec).bare.plain.varTypes Tryz.pinned.checked.prog).any (Tryz.pinned.checked.prog.ifacesRec ·))) = true := by kernel_rfl
theorem fact_k16 : ((Rows.imageSlotsRow.mapsOut == Tryz.pinned.checked.prog.mapsAmong Tryz.f6.resultTypes.toList)) = true := by kernel_rfl
theorem fact_k17 : ((Rows.imageSlotsRow.loops == (Tryz.f6.params.toList ++ (OpenSpec.ofChange Rows.imageSlotsSpec).bare.plain.varTypes Tryz.pinned.checked.prog).any (Tryz.pinned.checked.prog.loopsFrom ·))) = true := by kernel_rfl
theorem fact_k18 : ((Rows.imageSlotsRow.wideKeys == (Tryz.f6.params.toList ++ (OpenSpec.ofChange Rows.imageSlotsSpec).bare.plain.varTypes Tryz.pinned.checked.prog ++ Tryz.f6.resultTypes.toList).any (Tryz.pinned.checked.prog.wideKeysFrom ·))) = true := by kernel_rfl
theorem fact_k19 : ((OpenSpec.ofChange Rows.imageSlotsSpec).bare.vars.all (Tryz.pinned.checked.prog.varReadable ·)) = true := by kernel_rfl
theorem fact_k20 : (Tryz.f6.resultTypes.all (fun t => Tryz.pinned.checked.prog.readableRec t && decide (t < Tryz.pinned.checked.prog.types.size))) = true := by kernel_rfl
theorem fact_k21 : ((Rows.imageSlotsRow.ifacesOut == Tryz.f6.resultTypes.toList.any (Tryz.pinned.checked.prog.ifacesRec ·))) = true := by kernel_rfl
theorem fact_k22 : ((Rows.imageSlotsRow.loopsOut == Tryz.f6.resultTypes.toList.any (Tryz.pinned.checked.prog.loopsFrom ·))) = true := by kernel_rfl
theorem fact_k23 : ((Rows.imageSlotsRow.plainKeys == Tryz.pinned.checked.prog.plainKeys)) = true := by kernel_rfl
theorem fact_k24 : (Rows.imageSlotsRow.shortTexts.isNone) = true := by kernel_rfl
theorem fact_k25 : (Tryz.pinned.checked.prog.stopsHeard) = true := by kernel_rfl
theorem fact_k26 : (Tryz.pinned.checked.prog.mayEnter) = true := by kernel_rfl
theorem fact_k27 : ((Rows.imageSlotsRow.lifted == Tryz.pinned.checked.prog.liftsFinal)) = true := by kernel_rfl
theorem fact_k28 : ((Tryz.pinned.checked.prog.make == some Rows.imageSlotsRow.make)) = true := by kernel_rfl
theorem fact_k29 : ((Rows.imageSlotsRow.kinds == (if Rows.imageSlotsRow.domain.isEmpty then [] else Tryz.f6.params.toList.map fun t => match Tryz.pinned.checked.prog.underlying t with | some (.int k) => some k | _ => none))) = true := by kernel_rfl
theorem fact_k30 : ((Rows.imageSlotsRow.pinned == Rows.imageSlotsRow.pinnedBy)) = true := by kernel_rfl
theorem fact_k31 : ((Rows.imageSlotsRow.veiled == (Tryz.f6.params.toList ++ (OpenSpec.ofChange Rows.imageSlotsSpec).bare.plain.varTypes Tryz.pinned.checked.prog ++ Tryz.f6.resultTypes.toList).any (Tryz.pinned.checked.prog.veiledRec ·))) = true := by kernel_rfl
theorem fact_k32 : (Rows.imageSlotsRow.veiledFits Tryz.pinned.checked.prog Tryz.f6.params.toList (Tryz.f6.params.toList ++ (OpenSpec.ofChange Rows.imageSlotsSpec).bare.plain.varTypes Tryz.pinned.checked.prog ++ Tryz.f6.resultTypes.toList)) = true := by kernel_rfl
end Go.Proofs.YtfmbpdacdopkgaaGreatDoor
