/- A closed fact for the card. Conditions: none. -/
import Derived.Test.YtfmbpdacdopkgaaGreatDoorOnlY
namespace Go.Proofs.YtfmbpdacdopkgaaGreatDoor
set_option maxRecDepth 100000
open Go Go.Ai
open Go.ChangeShapes Go.WideShapes Go.ChangeAt Go.RowKit
theorem fact_rest (os : Os) : (((laidWorld os).forCall (fun _ _ => 0) ⟨#[], wArgs, []⟩).heap.toList.drop Tryz.checked.prog.globals.size).take ((begin Tryz.checked.prog (fun _ _ => 0) default).world.heap.size - Tryz.checked.prog.globals.size) =
      (begin Tryz.checked.prog (fun _ _ => 0) default).world.heap.toList.drop Tryz.checked.prog.globals.size := by kernel_rfl
theorem fact_wide (os : Os) : Input.okWideB Tryz.checked.prog ((laidWorld os).forCall (fun _ _ => 0) ⟨#[], wArgs, []⟩) 7 ⟨#[], wArgs, []⟩ = true := by kernel_rfl
theorem fact_init : Tryz.checked.prog.inits.idxOf? 7 = none := by kernel_rfl
end Go.Proofs.YtfmbpdacdopkgaaGreatDoor
