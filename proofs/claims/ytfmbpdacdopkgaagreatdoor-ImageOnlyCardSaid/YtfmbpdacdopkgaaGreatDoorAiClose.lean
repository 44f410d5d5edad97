/- The abstract interpreter: an environment out of a program; contracts out of evaluations. Conditions: none. -/
import Derived.Test.YtfmbpdacdopkgaaGreatDoorAiDraw4
namespace Go.Ai
open Go.RowKit (Below)

theorem start_inv (w : World) : Inv w (fun _ _ => none) ⟨.nil, 0⟩ w :=
  ⟨Below.refl _ _, (fun o x e => by simp [St.get, Tr.get] at e), (fun o cs g m e => by simp [St.get, Tr.get] at e), (fun o o' x x' k k' L L' e => by simp [St.get, Tr.get] at e),
    fun o _ => ⟨rfl, fun _ => rfl⟩, (fun o k L e => by cases e), (fun o k L e => by cases e)⟩

def fnOf (P : Program) (f : FuncId) : Option Func :=
  match P.funcs[f]? with
  | some fn => match fn.body with
    | some _ => some fn
    | none => none
  | none => none

/-- The environment of a program. -/
def envOf (P : Program) (glob : Nat → Option (List AV)) (sum ext : FuncId → Option (List AV → Option AV)) : Env :=
  { P := P, und := P.underlying, inf := P.info?, fn := fnOf P, glob := glob, sum := sum, ext := ext }

theorem env_ok {P : Program} {glob : Nat → Option (List AV)} {sum ext : FuncId → Option (List AV → Option AV)} {w : World} (ho : P.follows .mixedOrders = true) (hN : (P.funcs.all fun fn => !(fn.name == "runtime.NumGoroutine")) = true)
    (hg : ∀ g cs, glob g = some cs → CRel w (fun _ _ => none) g 0 cs)
    (hs : ∀ f S args x, sum f = some S → S args = some x → ∀ ρ σ w' (cargs : Array Value), Inv w ρ σ w' → VRels w ρ args cargs.toList → Calls P f cargs w' fun e w₂ => ∃ y, e = .returned y ∧ VRel w ρ x y ∧ Below w'.heap.size w' w₂)
    (he : ∀ f X args x, ext f = some X → X args = some x → ∀ (ρ : Asg) (w' : World) (cargs : Array Value), VRels w ρ args cargs.toList → ∃ y, (callFunc f cargs).run P w' = .ok (.value y) w' ∧ VRel w ρ x y) :
    EnvOk (envOf P glob sum ext) w where
  und _ _ h := h
  inf _ _ h := h
  fn f fn h := by
    have h : fnOf P f = some fn := h
    unfold fnOf at h
    split at h
    · rename_i fn' hf
      split at h
      · rename_i c hc
        cases h
        refine ⟨hf, by rw [hc]; rfl, ?_⟩
        have := Array.all_eq_true_iff_forall_mem.1 hN _ (Array.mem_of_getElem? hf)
        simpa using this
      · cases h
    · cases h
  glob := hg
  order := ho
  ext := he
  sum := hs

/-- A function of the model's own. -/
theorem ext_ok {P : Program} {f : FuncId} {fn : Func} {e : Array Value → Sem Value} {w0 : World} (hf : P.funcs[f]? = some fn) (hn : (fn.name == "runtime.NumGoroutine") = false) (hb : fn.body = none) (h1 : (Extern.findNext fn).isNone = true) (h2 : Extern.find fn = some e)
    {args : List AV} {x : AV} (hx : extA P e args = some x) (ρ : Asg) (w : World) (cargs : Array Value) (hv : VRels w0 ρ args cargs.toList) : ∃ y, (callFunc f cargs).run P w = .ok (.value y) w ∧ VRel w0 ρ x y := by
  unfold extA at hx
  split at hx
  · rename_i l hl
    simp only [Option.map_eq_some_iff] at hx
    obtain ⟨y, hy, rfl⟩ := hx
    refine ⟨y, ?_, .v y⟩
    have hc : cargs = l.toArray := by
      have := VRels.exact hv hl
      rw [← this]
    have h1' : Extern.findNext fn = none := by
      cases h : Extern.findNext fn with
      | none => rfl
      | some g => rw [h] at h1; cases h1
    have hrun := run_runA (P := P) w hy
    rw [← hc] at hrun
    simp only [callFunc, Sem.run_bind, run_program, Result.andThen_ok, hf, hn, hb, Option.isNone_none, if_true, Bool.false_eq_true, if_false, h1', h2]
    simp [mark, Sem.run, Result.andThen, hrun]
  · cases hx

/-- What an evaluation from the start tells. -/
theorem calls_of_eval {E : Env} {W : World} (hE : EnvOk E W) (hex : ∀ f S, E.sum f = some S → ∃ fn, E.fn f = some fn) {N n : Nat} {f : FuncId} {args : List AV} {cargs : Array Value} {x : AV} {σ : St}
    (h : (evalK E N n).call f args ⟨.nil, 0⟩ = some (.ret x, σ)) (hv : VRels W (fun _ _ => none) args cargs.toList) :
    Calls E.P f cargs W fun e w' => ∃ y ρ, e = .returned y ∧ VRel W ρ x y ∧ Inv W ρ σ w' ∧ Below W.heap.size W w' :=
  ((eval_ok hE hex N n).call f args _ _ h _ W cargs (start_inv W) hv).mono fun e w' he => by
    obtain ⟨ρ, hst, y, hy, hr⟩ := he
    exact ⟨y, ρ, hy, hr, hst.inv, hst.inv.below⟩

/-- It has come out true. -/
def isTrue : Option (AEnd × St) → Bool
  | some (.ret (.v (.bool b)), _) => b
  | _ => false

theorem calls_true {E : Env} {W : World} (hE : EnvOk E W) (hex : ∀ f S, E.sum f = some S → ∃ fn, E.fn f = some fn) {N n : Nat} {f : FuncId} {args : List AV} {cargs : Array Value}
    (h : isTrue ((evalK E N n).call f args ⟨.nil, 0⟩) = true) (hv : VRels W (fun _ _ => none) args cargs.toList) :
    Calls E.P f cargs W fun e w' => e = .returned (.bool true) ∧ Below W.heap.size W w' := by
  unfold isTrue at h
  split at h
  · rename_i b σ hr
    subst h
    exact (calls_of_eval hE hex hr hv).mono fun e w' ⟨y, ρ, hy, hv, _, hb⟩ => by cases hv; exact ⟨hy, hb⟩
  · cases h
end Go.Ai
