/- The environment of the program; the examples come out. Conditions: none. -/
import Derived.Test.YtfmbpdacdopkgaaGreatDoorAiClose
import Derived.Test.YtfmbpdacdopkgaaGreatDoorProg
import Derived.KernelRfl
namespace Go.Proofs.YtfmbpdacdopkgaaGreatDoor
open Go Go.Ai
open Go.RowKit (Below)

noncomputable def ext (f : FuncId) : Option (List AV → Option AV) := if f = 276 then some (extA Tryz.prog Extern.BytealgIndexByte.indexByte) else none

noncomputable def E0 : Env := envOf Tryz.prog (fun _ => none) (fun _ => none) ext

theorem order : Tryz.prog.follows .mixedOrders = true := by kernel_rfl
theorem noNum : (Tryz.prog.funcs.all fun fn => !(fn.name == "runtime.NumGoroutine")) = true := by kernel_rfl

theorem ext_spec (w : World) : ∀ f X args x, ext f = some X → X args = some x → ∀ (ρ : Asg) (w' : World) (cargs : Array Value), VRels w ρ args cargs.toList → ∃ y, (callFunc f cargs).run Tryz.prog w' = .ok (.value y) w' ∧ VRel w ρ x y := by
  intro f X args x h hx ρ w' cargs hv
  unfold ext at h
  split at h
  · rename_i hf
    subst hf
    cases h
    exact ext_ok Tryz.func276 (by kernel_rfl) rfl (by kernel_rfl) (by kernel_rfl) hx ρ w' cargs hv
  · cases h
end Go.Proofs.YtfmbpdacdopkgaaGreatDoor
