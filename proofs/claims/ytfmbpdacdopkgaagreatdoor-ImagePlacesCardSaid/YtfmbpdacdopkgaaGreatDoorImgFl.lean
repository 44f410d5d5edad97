/- Closed facts for the card. Conditions: none. -/
import Derived.Test.YtfmbpdacdopkgaaGreatDoorCards
import Derived.Test.YtfmbpdacdopkgaaGreatDoorTie
import Derived.JoinedCond
import Derived.KernelRfl
namespace Go.Proofs.YtfmbpdacdopkgaaGreatDoor
set_option maxRecDepth 100000
open Go
theorem fact_k1 : (Rows.imagePlacesRow.wf (OpenSpec.ofChange (OpenSpec.ofChange Rows.imagePlacesSpec).bare)) = true := by kernel_rfl
theorem fact_k2 : (laidOutB Tryz.pinned.checked.prog) = true := by kernel_rfl
theorem fact_k3 : (mapsRowed Tryz.pinned.checked.prog) = true := by kernel_rfl
theorem fact_k4 : (Tryz.f3.params.all (Tryz.pinned.checked.prog.readableRec ·)) = true := by kernel_rfl
theorem fact_k5 : (namedTie Tryz.pinned.checked.prog Rows.imagePlacesRow.named (OpenSpec.ofChange Rows.imagePlacesSpec).bare.vars) = true := by kernel_rfl
theorem fact_k6 : ((Rows.imagePlacesRow.stops == [])) = true := by kernel_rfl
theorem fact_k7 : ((Tryz.pinned.checked.prog.stops == [])) = true := by kernel_rfl
theorem fact_k8 : ((Rows.imagePlacesRow.knobs == [])) = true := by kernel_rfl
theorem fact_k9 : ((Tryz.pinned.checked.prog.stopKnobs == [])) = true := by kernel_rfl
theorem fact_k14 : ((Rows.imagePlacesRow.maps == (Tryz.f3.params.toList ++ (OpenSpec.ofChange Rows.imagePlacesSpec).bare.plain.varTypes Tryz.pinned.checked.prog).any (Tryz.pinned.checked.prog.mapsRec ·))) = true := by kernel_rfl
theorem fact_k15 : ((Rows.imagePlacesRow.ifaces == (Tryz.f3.params.toList ++ (OpenSpec.ofChange Rows.imagePlacesSpec).bare.plain.varTypes Tryz.pinned.checked.prog).any (Tryz.pinned.checked.prog.ifacesRec ·))) = true := by kernel_rfl
theorem fact_k16 : ((Rows.imagePlacesRow.mapsOut == Tryz.pinned.checked.prog.mapsAmong Tryz.f3.resultTypes.toList)) = true := by kernel_rfl
theorem fact_k17 : ((Rows.imagePlacesRow.loops == (Tryz.f3.params.toList ++ (OpenSpec.ofChange Rows.imagePlacesSpec).bare.plain.varTypes Tryz.pinned.checked.prog).any (Tryz.pinned.checked.prog.loopsFrom ·))) = true := by kernel_rfl
theorem fact_k18 : ((Rows.imagePlacesRow.wideKeys == (Tryz.f3.params.toList ++ (OpenSpec.ofChange Rows.imagePlacesSpec).bare.plain.varTypes Tryz.pinned.checked.prog ++ Tryz.f3.resultTypes.toList).any (Tryz.pinned.checked.prog.wideKeysFrom ·))) = true := by kernel_rfl
theorem fact_k19 : ((OpenSpec.ofChange Rows.imagePlacesSpec).bare.vars.all (Tryz.pinned.checked.prog.varReadable ·)) = true := by kernel_rfl
theorem fact_k20 : (Tryz.f3.resultTypes.all (fun t => Tryz.pinned.checked.prog.readableRec t && decide (t < Tryz.pinned.checked.prog.types.size))) = true := by kernel_rfl
theorem fact_k21 : ((Rows.imagePlacesRow.ifacesOut == Tryz.f3.resultTypes.toList.any (Tryz.pinned.checked.prog.ifacesRec ·))) = true := by kernel_rfl
theorem fact_k22 : ((Rows.imagePlacesRow.loopsOut == Tryz.f3.resultTypes.toList.any (Tryz.pinned.checked.prog.loopsFrom ·))) = true := by kernel_rfl
theorem fact_k23 : ((Rows.imagePlacesRow.plainKeys == Tryz.pinned.checked.prog.plainKeys)) = true := by kernel_rfl
theorem fact_k24 : (Rows.imagePlacesRow.shortTexts.isNone) = true := by kernel_rfl
theorem fact_k25 : (Tryz.pinned.checked.prog.stopsHeard) = true := by kernel_rfl
theorem fact_k26 : (Tryz.pinned.checked.prog.mayEnter) = true := by kernel_rfl
theorem fact_k27 : ((Rows.imagePlacesRow.lifted == Tryz.pinned.checked.prog.liftsFinal)) = true := by kernel_rfl
theorem fact_k28 : ((Tryz.pinned.checked.prog.make == some Rows.imagePlacesRow.make)) = true := by kernel_rfl
theorem fact_k29 : ((Rows.imagePlacesRow.kinds == (if Rows.imagePlacesRow.domain.isEmpty then [] else Tryz.f3.params.toList.map fun t => match Tryz.pinned.checked.prog.underlying t with | some (.int k) => some k | _ => none))) = true := by kernel_rfl
theorem fact_k30 : ((Rows.imagePlacesRow.pinned == Rows.imagePlacesRow.pinnedBy)) = true := by kernel_rfl
theorem fact_k31 : ((Rows.imagePlacesRow.veiled == (Tryz.f3.params.toList ++ (OpenSpec.ofChange Rows.imagePlacesSpec).bare.plain.varTypes Tryz.pinned.checked.prog ++ Tryz.f3.resultTypes.toList).any (Tryz.pinned.checked.prog.veiledRec ·))) = true := by kernel_rfl
theorem fact_k32 : (Rows.imagePlacesRow.veiledFits Tryz.pinned.checked.prog Tryz.f3.params.toList (Tryz.f3.params.toList ++ (OpenSpec.ofChange Rows.imagePlacesSpec).bare.plain.varTypes Tryz.pinned.checked.prog ++ Tryz.f3.resultTypes.toList)) = true := by kernel_rfl
end Go.Proofs.YtfmbpdacdopkgaaGreatDoor
