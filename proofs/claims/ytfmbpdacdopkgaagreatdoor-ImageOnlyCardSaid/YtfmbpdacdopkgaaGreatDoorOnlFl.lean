/- Closed facts for the card. Conditions: none. -/
import Derived.Test.YtfmbpdacdopkgaaGreatDoorCards
import Derived.Test.YtfmbpdacdopkgaaGreatDoorTie
import Derived.JoinedCond
import Derived.KernelRfl
namespace Go.Proofs.YtfmbpdacdopkgaaGreatDoor
set_option maxRecDepth 100000
open Go
theorem fact_k1 : (Rows.imageOnlyRow.wf (OpenSpec.ofChange (OpenSpec.ofChange Rows.imageOnlySpec).bare)) = true := by kernel_rfl
theorem fact_k2 : (laidOutB Tryz.pinned.checked.prog) = true := by kernel_rfl
theorem fact_k3 : (mapsRowed Tryz.pinned.checked.prog) = true := by kernel_rfl
theorem fact_k4 : (Tryz.f7.params.all (Tryz.pinned.checked.prog.readableRec ·)) = true := by kernel_rfl
theorem fact_k5 : (namedTie Tryz.pinned.checked.prog Rows.imageOnlyRow.named (OpenSpec.ofChange Rows.imageOnlySpec).bare.vars) = true := by kernel_rfl
theorem fact_k6 : ((Rows.imageOnlyRow.stops == [])) = true := by kernel_rfl
theorem fact_k7 : ((Tryz.pinned.checked.prog.stops == [])) = true := by kernel_rfl
theorem fact_k8 : ((Rows.imageOnlyRow.knobs == [])) = true := by kernel_rfl
theorem fact_k9 : ((Tryz.pinned.checked.prog.stopKnobs == [])) = true := by kernel_rfl
theorem fact_k14 : ((Rows.imageOnlyRow.maps == (Tryz.f7.params.toList ++ (OpenSpec.ofChange Rows.imageOnlySpec).bare.plain.varTypes Tryz.pinned.checked.prog).any (Tryz.pinned.checked.prog.mapsRec ·))) = true := by kernel_rfl
theorem fact_k15 : ((Rows.imageOnlyRow.ifaces == (Tryz.f7.params.toList ++ (OpenSpec.ofChange Rows.imageOnlySpec).bare.plain.varTypes Tryz.pinned.checked.prog).any (Tryz.pinned.checked.prog.ifacesRec ·))) = true := by kernel_rfl
theorem fact_k16 : ((Rows.imageOnlyRow.mapsOut == Tryz.pinned.checked.prog.mapsAmong Tryz.f7.resultTypes.toList)) = true := by kernel_rfl
theorem fact_k17 : ((Rows.imageOnlyRow.loops == (Tryz.f7.params.toList ++ (OpenSpec.ofChange Rows.imageOnlySpec).bare.plain.varTypes Tryz.pinned.checked.prog).any (Tryz.pinned.checked.prog.loopsFrom ·))) = true := by kernel_rfl
theorem fact_k18 : ((Rows.imageOnlyRow.wideKeys == (Tryz.f7.params.toList ++ (OpenSpec.ofChange Rows.imageOnlySpec).bare.plain.varTypes Tryz.pinned.checked.prog ++ Tryz.f7.resultTypes.toList).any (Tryz.pinned.checked.prog.wideKeysFrom ·))) = true := by kernel_rfl
theorem fact_k19 : ((OpenSpec.ofChange Rows.imageOnlySpec).bare.vars.all (Tryz.pinned.checked.prog.varReadable ·)) = true := by kernel_rfl
theorem fact_k20 : (Tryz.f7.resultTypes.all (fun t => Tryz.pinned.checked.prog.readableRec t && decide (t < Tryz.pinned.checked.prog.types.size))) = true := by kernel_rfl
theorem fact_k21 : ((Rows.imageOnlyRow.ifacesOut == Tryz.f7.resultTypes.toList.any (Tryz.pinned.checked.prog.ifacesRec ·))) = true := by kernel_rfl
theorem fact_k22 : ((Rows.imageOnlyRow.loopsOut == Tryz.f7.resultTypes.toList.any (Tryz.pinned.checked.prog.loopsFrom ·))) = true := by kernel_rfl
theorem fact_k23 : ((Rows.imageOnlyRow.plainKeys == Tryz.pinned.checked.prog.plainKeys)) = true := by kernel_rfl
theorem fact_k24 : (Rows.imageOnlyRow.shortTexts.isNone) = true := by kernel_rfl
theorem fact_k25 : (Tryz.pinned.checked.prog.stopsHeard) = true := by kernel_rfl
theorem fact_k26 : (Tryz.pinned.checked.prog.mayEnter) = true := by kernel_rfl
theorem fact_k27 : ((Rows.imageOnlyRow.lifted == Tryz.pinned.checked.prog.liftsFinal)) = true := by kernel_rfl
theorem fact_k28 : ((Tryz.pinned.checked.prog.make == some Rows.imageOnlyRow.make)) = true := by kernel_rfl
theorem fact_k29 : ((Rows.imageOnlyRow.kinds == (if Rows.imageOnlyRow.domain.isEmpty then [] else Tryz.f7.params.toList.map fun t => match Tryz.pinned.checked.prog.underlying t with | some (.int k) => some k | _ => none))) = true := by kernel_rfl
theorem fact_k30 : ((Rows.imageOnlyRow.pinned == Rows.imageOnlyRow.pinnedBy)) = true := by kernel_rfl
theorem fact_k31 : ((Rows.imageOnlyRow.veiled == (Tryz.f7.params.toList ++ (OpenSpec.ofChange Rows.imageOnlySpec).bare.plain.varTypes Tryz.pinned.checked.prog ++ Tryz.f7.resultTypes.toList).any (Tryz.pinned.checked.prog.veiledRec ·))) = true := by kernel_rfl
theorem fact_k32 : (Rows.imageOnlyRow.veiledFits Tryz.pinned.checked.prog Tryz.f7.params.toList (Tryz.f7.params.toList ++ (OpenSpec.ofChange Rows.imageOnlySpec).bare.plain.varTypes Tryz.pinned.checked.prog ++ Tryz.f7.resultTypes.toList)) = true := by kernel_rfl
end Go.Proofs.YtfmbpdacdopkgaaGreatDoor
