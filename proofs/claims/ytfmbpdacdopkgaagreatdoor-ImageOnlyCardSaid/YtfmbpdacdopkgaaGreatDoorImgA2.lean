/- A part of the proof. Conditions: none. -/
import Derived.Test.YtfmbpdacdopkgaaGreatDoorImgA
namespace Go.Proofs.YtfmbpdacdopkgaaGreatDoor
open Go Go.Ai
set_option maxRecDepth 100000
theorem awake_eval : isTrue ((evalK E0 100000 60).call 12 [] ⟨.nil, 0⟩) = true := by kernel_rfl
end Go.Proofs.YtfmbpdacdopkgaaGreatDoor
