/- A closed fact for the card. Conditions: none. -/
import Derived.Test.YtfmbpdacdopkgaaGreatDoorOnlY
namespace Go.Proofs.YtfmbpdacdopkgaaGreatDoor
set_option maxRecDepth 100000
open Go Go.Ai
open Go.ChangeShapes Go.WideShapes Go.ChangeAt Go.RowKit
theorem fact_named : Tryz.prog.funcNamed "winch/winchlaw19.ImageOnly" = some 7 := by kernel_rfl
end Go.Proofs.YtfmbpdacdopkgaaGreatDoor
