/- Closed facts for the card. Conditions: none. -/
import Derived.Test.YtfmbpdacdopkgaaGreatDoorCards
import Derived.Test.YtfmbpdacdopkgaaGreatDoorTie
import Derived.JoinedCond
import Derived.KernelRfl
namespace Go.Proofs.YtfmbpdacdopkgaaGreatDoor
set_option maxRecDepth 100000
open Go
theorem fact_k12 : ((Rows.imageOnlyRow.recurses == Tryz.pinned.checked.prog.recurses 7)) = true := by kernel_rfl
end Go.Proofs.YtfmbpdacdopkgaaGreatDoor
