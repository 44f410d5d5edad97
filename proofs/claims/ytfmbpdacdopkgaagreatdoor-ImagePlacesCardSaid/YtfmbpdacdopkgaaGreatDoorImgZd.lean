/- A closed fact for the card. Conditions: none. -/
import Derived.Test.YtfmbpdacdopkgaaGreatDoorImgY1
namespace Go.Proofs.YtfmbpdacdopkgaaGreatDoor
set_option maxRecDepth 100000
open Go Go.Ai
open Go.ChangeShapes Go.WideShapes Go.ChangeAt Go.RowKit
theorem fact_named : Tryz.prog.funcNamed "winch/winchlaw19.ImagePlaces" = some 3 := by kernel_rfl
theorem fact_stand : Tryz.prog.wantsStandIn 9 = false ∧ Tryz.prog.wantsStandIn 22 = false := ⟨by kernel_rfl, by kernel_rfl⟩
end Go.Proofs.YtfmbpdacdopkgaaGreatDoor
