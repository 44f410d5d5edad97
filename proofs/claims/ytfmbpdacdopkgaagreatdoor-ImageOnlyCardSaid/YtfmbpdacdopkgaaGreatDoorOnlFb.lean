/- A closed fact for the card. Conditions: none. -/
import Derived.Test.YtfmbpdacdopkgaaGreatDoorCards
import Derived.Test.YtfmbpdacdopkgaaGreatDoorTie
import Derived.JoinedCond
import Derived.KernelRfl
namespace Go.Proofs.YtfmbpdacdopkgaaGreatDoor
set_option maxRecDepth 100000
open Go
theorem fact_inst : Tryz.f7.isInstance Tryz.pinned.checked.prog Rows.imageOnlyRow.origin Rows.imageOnlyRow.targs := of_decide_eq_true (by kernel_rfl)
theorem fact_wrap : Tryz.f7.isWrapper Tryz.pinned.checked.prog Rows.imageOnlyRow.wrapper Rows.imageOnlyRow.mainSum := by unfold Func.isWrapper; first | (rw [if_pos (by decide +kernel)]; kernel_rfl) | (rw [if_neg (by decide +kernel)]; exact ⟨rfl, rfl⟩)
end Go.Proofs.YtfmbpdacdopkgaaGreatDoor
