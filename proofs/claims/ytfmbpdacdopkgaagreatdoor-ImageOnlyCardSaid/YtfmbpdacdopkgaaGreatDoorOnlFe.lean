/- A closed fact for the card. Conditions: none. -/
import Derived.Test.YtfmbpdacdopkgaaGreatDoorCards
import Derived.Test.YtfmbpdacdopkgaaGreatDoorTie
import Derived.JoinedCond
import Derived.KernelRfl
namespace Go.Proofs.YtfmbpdacdopkgaaGreatDoor
set_option maxRecDepth 100000
open Go

theorem fact_goes : false = Rows.imageOnlyRow.goesBy Tryz.pinned.checked.prog := by kernel_rfl
end Go.Proofs.YtfmbpdacdopkgaaGreatDoor
