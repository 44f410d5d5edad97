/- Contracts of the small functions: the slots, their texts, the examples. Conditions: none. -/
import Derived.Test.YtfmbpdacdopkgaaGreatDoorImgP
import Derived.Test.YtfmbpdacdopkgaaGreatDoorImgQ
import Derived.Test.YtfmbpdacdopkgaaGreatDoorImgT
import Derived.Lib.AtoiAll
namespace Go.Proofs.YtfmbpdacdopkgaaGreatDoor
set_option maxRecDepth 100000
open Go Go.Ai
open Go.RowKit (Below)

/-- Is there a slot? -/
def isP (a n : Int) : Bool := decide (1 ≤ a) && decide (a ≤ 3) && decide (0 ≤ n) && decide (n < 64)

theorem isP_true {a n : Int} (h : isP a n = true) : 1 ≤ a ∧ a ≤ 3 ∧ 0 ≤ n ∧ n < 64 := by
  simp [isP] at h; omega

theorem place36 {K : Kont} {E : Env} {N : Nat} {σ : St} {a : AFr} {x n : Int} (hn : a.n = 19) (h0 : a.get 0 = .i x) (h1 : a.get 1 = .i n) :
    ∃ a', codeA K E N none (fAt Tryz.f36 []) a σ = some (.ret, a', σ) ∧ a'.get 4 = .b (isP x n) ∧ a'.df = a.df := by
  simp only [fAt, cAt, Tryz.f36]
  by_cases c1 : 1 ≤ x <;> by_cases c2 : x ≤ 3 <;> by_cases c3 : 0 ≤ n <;> by_cases c4 : n < 64 <;>
    simp [code_region, code_seq, code_ret, opsA, oneA, wantedA, opA, kindOf, readA, uponA, AFr.put, get_set, n_set, hn, opd, h0, h1, cmp_geq, cmp_leq, cmp_lss, df_set, isP, c1, c2, c3, c4]

theorem place11 {K : Kont} {E : Env} {N : Nat} {σ : St} {a : AFr} {x n : Int} (hn : a.n = 19) (h0 : a.get 0 = .i x) (h1 : a.get 1 = .i n) :
    ∃ a', codeA K E N none (fAt Tryz.f11 []) a σ = some (.ret, a', σ) ∧ a'.get 4 = .b (isP x n) ∧ a'.df = a.df := by
  simp only [fAt, cAt, Tryz.f11]
  by_cases c1 : 1 ≤ x <;> by_cases c2 : x ≤ 3 <;> by_cases c3 : 0 ≤ n <;> by_cases c4 : n < 64 <;>
    simp [code_region, code_seq, code_ret, opsA, oneA, wantedA, opA, kindOf, readA, uponA, AFr.put, get_set, n_set, hn, opd, h0, h1, cmp_geq, cmp_leq, cmp_lss, df_set, isP, c1, c2, c3, c4]

theorem E0_ok (w : World) : EnvOk E0 w :=
  env_ok order noNum (fun _ _ h => by cases h) (fun _ _ _ _ h => by cases h) (ext_spec w)
theorem E0_ex : ∀ f S, E0.sum f = some S → ∃ fn, E0.fn f = some fn := fun _ _ h => by cases h

theorem fn0 {P : Program} {glob : Nat → Option (List AV)} {sum ext : FuncId → Option (List AV → Option AV)} {f : FuncId} {fn : Func} (h : P.funcs[f]? = some fn) (hb : fn.body.isSome = true) : (envOf P glob sum ext).fn f = some fn := by
  show fnOf P f = some fn
  unfold fnOf
  rw [h]
  simp only
  cases hc : fn.body with
  | none => rw [hc] at hb; cases hb
  | some c => rfl

/-- A contract: it returns this, and makes new things alone. -/
def Gives (f : FuncId) (args : Array Value) (w : World) (y : Value) : Prop := Calls Tryz.prog f args w fun e w' => e = .returned y ∧ Below w.heap.size w w'

theorem gives_of {E : Env} {w : World} (hp : E.P = Tryz.prog) (hE : EnvOk E w) (hex : ∀ f S, E.sum f = some S → ∃ fn, E.fn f = some fn) {N n : Nat} {f : FuncId} {args : List AV} {cargs : Array Value} {x : AV} {y : Value} {σ : St}
    (h : callBody (evalK E N n) E N f args ⟨.nil, 0⟩ = some (.ret x, σ)) (hv : VRels w (fun _ _ => none) args cargs.toList) (hx : ∀ ρ z, VRel w ρ x z → z = y) : Gives f cargs w y := by
  have := calls_of_eval (n := n + 1) hE hex h hv
  rw [hp] at this
  exact this.mono fun e w' ⟨z, ρ, he, hr, _, hb⟩ => ⟨by rw [he, hx ρ z hr], hb⟩

theorem v_inv {w : World} {x : Value} : ∀ ρ z, VRel w ρ (.v x) z → z = x := fun ρ z h => by cases h; rfl

theorem gives36 (w : World) (x n : Int) : Gives 36 #[.int .i64 x, .int .i64 n] w (.bool (isP x n)) := by
  have hn : (frame0 Tryz.f36 [.i x, .i n]).n = 19 := rfl
  obtain ⟨a', h1, h2, h3⟩ := place36 (K := evalK E0 10 0) (E := E0) (N := 10) (σ := ⟨.nil, 0⟩) (a := frame0 Tryz.f36 [.i x, .i n]) hn rfl rfl
  refine gives_of (N := 10) (n := 0) rfl (E0_ok w) E0_ex (call_ret (fn0 Tryz.func36 rfl) rfl h1 (by rw [h3]; rfl) (x := .b (isP x n)) ?_) (.cons (.v _) (.cons (.v _) .nil)) v_inv
  simp [resultA, resultsA, Tryz.f36, h2]

theorem gives11 (w : World) (x n : Int) : Gives 11 #[.int .i64 x, .int .i64 n] w (.bool (isP x n)) := by
  have hn : (frame0 Tryz.f11 [.i x, .i n]).n = 19 := rfl
  obtain ⟨a', h1, h2, h3⟩ := place11 (K := evalK E0 10 0) (E := E0) (N := 10) (σ := ⟨.nil, 0⟩) (a := frame0 Tryz.f11 [.i x, .i n]) hn rfl rfl
  refine gives_of (N := 10) (n := 0) rfl (E0_ok w) E0_ex (call_ret (fn0 Tryz.func11 rfl) rfl h1 (by rw [h3]; rfl) (x := .b (isP x n)) ?_) (.cons (.v _) (.cons (.v _) .nil)) v_inv
  simp [resultA, resultsA, Tryz.f11, h2]

theorem all2 {p : Nat → Nat → Bool} (h : ((List.range 3).all fun i => (List.range 64).all fun j => p i j) = true) {a n : Nat} (h1 : 1 ≤ a) (h2 : a ≤ 3) (h3 : n < 64) : p (a - 1) n = true := by
  rw [List.all_eq_true] at h
  have := h (a - 1) (by simp; omega)
  rw [List.all_eq_true] at this
  exact this n (by simpa using h3)

theorem gives_str {f : FuncId} {args : List AV} {cargs : Array Value} {u : List UInt8} {n : Nat} (h : strIs ((evalK E0 1000 (n + 1)).call f args start) u = true) (w : World) (hv : VRels w (fun _ _ => none) args cargs.toList) : Gives f cargs w (.string ⟨u.toArray⟩) := by
  cases hr : (evalK E0 1000 (n + 1)).call f args start with
  | none => rw [hr] at h; cases h
  | some r =>
    rw [hr] at h
    obtain ⟨e, σ⟩ := r
    cases e with
    | panic x => cases h
    | ret x =>
      cases x with
      | v x =>
        cases x with
        | string v =>
          have hu : v = ⟨u.toArray⟩ := by
            obtain ⟨⟨l⟩⟩ := v
            simp [strIs] at h
            rw [h]
          rw [hu] at hr
          exact gives_of (N := 1000) (n := n) rfl (E0_ok w) E0_ex hr hv v_inv
        | _ => cases h
      | _ => cases h

theorem strErr_spec {r : Option (AEnd × St)} {u : List UInt8} {f : Int} (h : strErrIs r u f = true) : ∃ σ, r = some (.ret (.tup [.v (.string ⟨u.toArray⟩), .i f]), σ) := by
  match r, h with
  | some (.ret (.tup [.v (.string v), .v (.int .i64 e)]), σ), h =>
    simp [strErrIs] at h
    refine ⟨σ, ?_⟩
    obtain ⟨⟨l⟩⟩ := v
    simp at h
    rw [h.1, h.2]

theorem gives13 (w : World) {a n : Nat} (h1 : 1 ≤ a) (h2 : a ≤ 3) (h3 : n < 64) : Gives 13 #[.int .i64 (a : Int), .int .i64 (n : Int)] w (.string (txt a n)) := by
  have h := all2 (p := p13) all13 h1 h2 h3
  unfold p13 at h
  rw [show a - 1 + 1 = a by omega] at h
  exact gives_str (n := 19) h w (.cons (.v _) (.cons (.v _) .nil))

theorem gives37 (w : World) {n : Nat} (h3 : n < 64) : Gives 37 #[.int .i64 (n : Int)] w (.string ⟨(dig n).toArray⟩) := by
  have h := all37
  rw [List.all_eq_true] at h
  have h := h n (by simpa using h3)
  unfold p37 at h
  exact gives_str (n := 19) h w (.cons (.v _) .nil)

theorem gives10 (w : World) {a n : Nat} (h1 : 1 ≤ a) (h2 : a ≤ 3) (h3 : n < 64) : Gives 10 #[.int .i64 (a : Int), .int .i64 (n : Int)] w (.tuple #[.string (txt a n), .int .i64 0]) := by
  have h := all2 (p := p10) all10 h1 h2 h3
  unfold p10 at h
  rw [show a - 1 + 1 = a by omega] at h
  have key : ∃ σ, (evalK E0 1000 20).call 10 [.i (a : Int), .i (n : Int)] start = some (.ret (.tup [.v (.string (txt a n)), .i 0]), σ) := by
    generalize (evalK E0 1000 20).call 10 [.i (a : Int), .i (n : Int)] start = r at h
    obtain ⟨σ, hr⟩ := strErr_spec h
    exact ⟨σ, by rw [hr]; rfl⟩
  obtain ⟨σ, hr⟩ := key
  refine gives_of (N := 1000) (n := 19) rfl (E0_ok w) E0_ex hr (.cons (.v _) (.cons (.v _) .nil)) fun ρ z hz => ?_
  cases hz with
  | tup hz =>
    rename_i c
    have := VRels.exact (z := [.string (txt a n), .int .i64 0]) hz (by simp [AV.exacts?, AV.exact?])
    obtain ⟨l⟩ := c
    simp at this
    rw [this]
end Go.Proofs.YtfmbpdacdopkgaaGreatDoor
