/- A closed fact for the card. Conditions: none. -/
import Derived.Test.YtfmbpdacdopkgaaGreatDoorOnlY
namespace Go.Proofs.YtfmbpdacdopkgaaGreatDoor
set_option maxRecDepth 100000
open Go Go.Ai
open Go.ChangeShapes Go.WideShapes Go.ChangeAt Go.RowKit
theorem fact_looks : true = Tryz.pinned.checked.prog.looks [] := by kernel_rfl
end Go.Proofs.YtfmbpdacdopkgaaGreatDoor
