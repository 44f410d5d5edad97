/- A closed fact for the card. Conditions: none. -/
import Derived.Test.YtfmbpdacdopkgaaGreatDoorCards
import Derived.Test.YtfmbpdacdopkgaaGreatDoorTie
import Derived.JoinedCond
import Derived.KernelRfl
namespace Go.Proofs.YtfmbpdacdopkgaaGreatDoor
set_option maxRecDepth 100000
open Go
theorem fact_main : Tryz.pinned.checked.prog.mainIs = some (true, "b4112e3a2af30c3e665ec4e56c57d1224ad1db0fa0ef1e0ebd9f2f9ea86f62d4".toList) := by kernel_rfl
end Go.Proofs.YtfmbpdacdopkgaaGreatDoor
