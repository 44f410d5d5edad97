/- The card of ImageOnly: for every input the call returns true, and each argument reads behind it as it read before. Conditions: none beyond the card's own. -/
import Derived.Test.YtfmbpdacdopkgaaGreatDoorOnlY
import Derived.Test.YtfmbpdacdopkgaaGreatDoorOnlZa
import Derived.Test.YtfmbpdacdopkgaaGreatDoorOnlZb
import Derived.Test.YtfmbpdacdopkgaaGreatDoorOnlZc
import Derived.Test.YtfmbpdacdopkgaaGreatDoorOnlZd
import Derived.Test.YtfmbpdacdopkgaaGreatDoorOnlFb
import Derived.Test.YtfmbpdacdopkgaaGreatDoorOnlFc2
import Derived.Test.YtfmbpdacdopkgaaGreatDoorOnlFd
import Derived.Test.YtfmbpdacdopkgaaGreatDoorOnlFe
import Derived.Test.YtfmbpdacdopkgaaGreatDoorOnlFl
import Derived.Test.YtfmbpdacdopkgaaGreatDoorOnlFk10
import Derived.Test.YtfmbpdacdopkgaaGreatDoorOnlFk11
import Derived.Test.YtfmbpdacdopkgaaGreatDoorOnlFk12
import Derived.Test.YtfmbpdacdopkgaaGreatDoorOnlFk13
namespace Go.Proofs.YtfmbpdacdopkgaaGreatDoor
set_option maxRecDepth 100000
open Go Go.Ai
open Go.ChangeShapes Go.WideShapes Go.ChangeAt Go.RowKit

theorem and_t {a b : Bool} (ha : a = true) (hb : b = true) : (a && b) = true := by rw [ha, hb]; rfl

theorem fact_closed : joinedFacts Tryz.pinned.checked.prog 7 Tryz.f7 (OpenSpec.ofChange Rows.imageOnlySpec).bare Rows.imageOnlyRow = true := by
  unfold joinedFacts
  exact and_t (and_t (and_t (and_t (and_t (and_t (and_t (and_t (and_t (and_t (and_t (and_t (and_t (and_t (and_t (and_t (and_t (and_t (and_t (and_t (and_t (and_t (and_t (and_t (and_t (and_t (and_t (and_t (and_t (and_t (and_t (fact_k1) fact_k2) fact_k3) fact_k4) fact_k5) fact_k6) fact_k7) fact_k8) fact_k9) fact_k10) fact_k11) fact_k12) fact_k13) fact_k14) fact_k15) fact_k16) fact_k17) fact_k18) fact_k19) fact_k20) fact_k21) fact_k22) fact_k23) fact_k24) fact_k25) fact_k26) fact_k27) fact_k28) fact_k29) fact_k30) fact_k31) fact_k32

theorem lifted (os : Os) (started : os.Started) (H : Type) (enc : TypeId × Value → H) (F : Stop.Interp) :
    ReturnsInHanded {} Tryz.checked os 7 .any ((OpenSpec.ofChange Rows.imageOnlySpec).preRow enc Tryz.prog Tryz.f7 Rows.imageOnlyRow.domain false Rows.imageOnlyRow.laid) (((OpenSpec.ofChange Rows.imageOnlySpec).at F).post enc Tryz.prog Tryz.f7 false true false false) := by
  obtain ⟨x, hx⟩ := Option.isSome_iff_exists.1 (reads os enc)
  refine returnsInHanded_of_row (C := Tryz.checked) (s := OpenSpec.ofChange Rows.imageOnlySpec) own started fact_init Tryz.func7
    (witness_row_atRef (enc := enc) (C := Tryz.checked) false (laidWorld os) wArgs rfl (fact_vars os) (fact_rest os) (fact_wide os)
      (OpenSpec.preRow_of_cond 8 hx rfl (fun k hk => by cases hk) (by kernel_rfl) (laid_met os))) ?_
  intro W base args ds gs before hval hW _ _ hsz _ _ _
  exact contract H enc W args ds gs before base hval hW hsz

theorem said : Rows.ImageOnlySaid :=
  OpenClaim.holds_of_cond 7 Tryz.f7 rfl rfl rfl rfl rfl rfl rfl ⟨rfl, rfl, rfl, rfl, rfl⟩ rfl rfl rfl rfl rfl fact_named Tryz.func7 fact_closed fact_inst fact_wrap
    (fun os started H enc _ F => by rw [OpenClaim.pre_eq_preRow]; exact lifted os started H enc F)

theorem plain (f : FuncId) (fn : Func) (hf : Tryz.pinned.checked.prog.funcNamed "winch/winchlaw19.ImageOnly" = some f) (hfn : Tryz.pinned.checked.prog.funcs[f]? = some fn) :
    true = Tryz.pinned.checked.prog.looks [] ∧ ∀ (j : Nat) t, fn.params[j]? = some t → Tryz.pinned.checked.prog.wantsStandIn t = false := by
  obtain rfl : f = 7 := Option.some.inj (fact_named.symm.trans hf) |>.symm
  obtain rfl : fn = Tryz.f7 := (Option.some.inj (Tryz.func7.symm.trans hfn)).symm
  refine ⟨fact_looks, fun j t ht => ?_⟩
  rw [Tryz.params7] at ht
  have : t = 34 ∨ t = 37 ∨ t = 40 := by simpa using Array.mem_of_getElem? ht
  rcases this with rfl | rfl | rfl
  · exact fact_stand.1
  · exact fact_stand.2.1
  · exact fact_stand.2.2

/-- **The card.** -/
theorem imageOnly_card : Rows.ImageOnlyCardSaid :=
  Claim7.holds_tied_plain_at .later [] _ _ _ _ said (fun _ h => by cases h) fact_wf (fun _ h => by cases h) imageOnly_row_tie rfl ⟨rfl, rfl⟩ fact_main rfl plain fact_goes
end Go.Proofs.YtfmbpdacdopkgaaGreatDoor
