/- Contracts: Atoi, Parse, the reference's Parse, Text. Conditions: the two sentinels of strconv hold errors. -/
import Derived.Test.YtfmbpdacdopkgaaGreatDoorImgU
import Derived.Test.YtfmbpdacdopkgaaGreatDoorImgShelf
namespace Go.Proofs.YtfmbpdacdopkgaaGreatDoor
set_option maxRecDepth 100000
open Go Go.Ai
open Go.RowKit (Below)

/-- The two sentinels hold errors. -/
def Vars (w : World) : Prop := (∃ tp p, w.var? Tryz.prog "strconv.ErrSyntax" = some #[.iface tp p]) ∧ ∃ tp p, w.var? Tryz.prog "strconv.ErrRange" = some #[.iface tp p]

theorem var_below {P : Program} {n : String} {cs : Array Value} {W w : World} (hb : Below W.heap.size W w) (h : W.var? P n = some cs) : w.var? P n = some cs := by
  unfold World.var? at *
  cases hg : P.globalNamed n with
  | none => rw [hg] at h; cases h
  | some g =>
    rw [hg] at h
    simp only [Option.bind_some] at h ⊢
    have hlt : g < W.heap.size := by
      rcases Nat.lt_or_ge g W.heap.size with k | k
      · exact k
      · rw [Array.getElem?_eq_none k] at h; cases h
    rw [hb.block g hlt]
    exact h

theorem Vars.below {W w : World} (hb : Below W.heap.size W w) (h : Vars W) : Vars w := by
  obtain ⟨⟨a, b, h1⟩, c, d, h2⟩ := h
  exact ⟨⟨a, b, var_below hb h1⟩, c, d, var_below hb h2⟩

def S35 : List AV → Option AV
  | [.v (.string s)] => if s.size ≤ 281474976710656 then (match Lib.atoiAll s.data.toList with
    | .ok v => some (.tup [.i v, .v .nilIface])
    | _ => some (.tup [.top, .ifc 144 .top])) else none
  | _ => none
def S36 : List AV → Option AV
  | [.v (.int .i64 a), .v (.int .i64 n)] => some (.b (isP a n))
  | _ => none
def S37 : List AV → Option AV
  | [.v (.int .i64 n)] => if 0 ≤ n ∧ n < 64 then some (.v (.string ⟨(dig n.toNat).toArray⟩)) else none
  | _ => none
def S13 : List AV → Option AV
  | [.v (.int .i64 a), .v (.int .i64 n)] => if isP a n then some (.v (.string (txt a.toNat n.toNat))) else none
  | _ => none

noncomputable def sumA (f : FuncId) : Option (List AV → Option AV) := if f = 35 then some S35 else if f = 36 then some S36 else if f = 37 then some S37 else if f = 13 then some S13 else none
noncomputable def E1 : Env := envOf Tryz.prog (fun _ => none) sumA ext

/-- A contract, told of a summary. -/
def SumOk (W : World) (f : FuncId) (S : List AV → Option AV) : Prop :=
  ∀ args x, S args = some x → ∀ (ρ : Asg) (σ : St) (w : World) (cargs : Array Value), Inv W ρ σ w → VRels W ρ args cargs.toList →
    Calls Tryz.prog f cargs w fun e w' => ∃ y, e = .returned y ∧ VRel W ρ x y ∧ Below w.heap.size w w'

theorem one_str {W : World} {ρ : Asg} {cargs : Array Value} {s : ByteArray} (h : VRels W ρ [.v (.string s)] cargs.toList) : cargs = #[.string s] := by
  have := VRels.exact (z := [.string s]) h rfl
  obtain ⟨l⟩ := cargs; simp at this; rw [this]
theorem two_int {W : World} {ρ : Asg} {cargs : Array Value} {a b : Int} (h : VRels W ρ [.v (.int .i64 a), .v (.int .i64 b)] cargs.toList) : cargs = #[.int .i64 a, .int .i64 b] := by
  have := VRels.exact (z := [.int .i64 a, .int .i64 b]) h rfl
  obtain ⟨l⟩ := cargs; simp at this; rw [this]
theorem one_int {W : World} {ρ : Asg} {cargs : Array Value} {a : Int} (h : VRels W ρ [.v (.int .i64 a)] cargs.toList) : cargs = #[.int .i64 a] := by
  have := VRels.exact (z := [.int .i64 a]) h rfl
  obtain ⟨l⟩ := cargs; simp at this; rw [this]

theorem bytesWorld_below' (w : World) (e : TypeId) (s : ByteArray) : Below w.heap.size w (Lib.bytesWorld w e s) := Lib.bytesWorld_below w e s

theorem sum35 {W : World} (hV : Vars W) : SumOk W 35 S35 := by
  intro args x hx ρ σ w cargs hI hv
  match args, hx with
  | [.v (.string s)], hx =>
    obtain rfl := one_str hv
    simp only [S35] at hx
    split at hx
    · rename_i hlim
      have hV' := hV.below hI.below
      rcases hat : Lib.atoiAll s.data.toList with v | _ | _
      · rw [hat] at hx
        cases hx
        refine (Any.strconv_Atoi_ok Tryz.laysC172 s (by omega) v hat w).mono fun e w' ⟨he, hw⟩ => ⟨_, he, .tup (.cons (.v _) (.cons (.v _) .nil)), ?_⟩
        rcases hw with rfl | ⟨t, rfl⟩
        · exact Below.refl _ _
        · exact bytesWorld_below' _ _ _
      · rw [hat] at hx
        cases hx
        obtain ⟨⟨tp, p, h1⟩, _⟩ := hV'
        exact (Any.strconv_Atoi_syntax_var Tryz.laysC172 s hlim hat tp p w h1).mono fun e w' ⟨N, he, _, _, hb⟩ => ⟨_, he, .tup (.cons (.top _) (.cons (.ifc (.top _)) .nil)), hb⟩
      · rw [hat] at hx
        cases hx
        obtain ⟨_, tp, p, h1⟩ := hV'
        exact (Any.strconv_Atoi_range_var Tryz.laysC172 s hlim hat tp p w h1).mono fun e w' ⟨N, he, _, _, hb⟩ => ⟨_, he, .tup (.cons (.top _) (.cons (.ifc (.top _)) .nil)), hb⟩
    · cases hx

theorem sum36 {W : World} : SumOk W 36 S36 := by
  intro args x hx ρ σ w cargs hI hv
  match args, hx with
  | [.v (.int .i64 a), .v (.int .i64 n)], hx =>
    obtain rfl := two_int hv
    cases hx
    exact (gives36 w a n).mono fun e w' ⟨he, hb⟩ => ⟨_, he, .v _, hb⟩

theorem sum37 {W : World} : SumOk W 37 S37 := by
  intro args x hx ρ σ w cargs hI hv
  match args, hx with
  | [.v (.int .i64 n)], hx =>
    obtain rfl := one_int hv
    simp only [S37] at hx
    split at hx
    · rename_i hn
      cases hx
      have := gives37 w (n := n.toNat) (by omega)
      rw [show ((n.toNat : Nat) : Int) = n by omega] at this
      exact this.mono fun e w' ⟨he, hb⟩ => ⟨_, he, .v _, hb⟩
    · cases hx

theorem sum13 {W : World} : SumOk W 13 S13 := by
  intro args x hx ρ σ w cargs hI hv
  match args, hx with
  | [.v (.int .i64 a), .v (.int .i64 n)], hx =>
    obtain rfl := two_int hv
    simp only [S13] at hx
    split at hx
    · rename_i hn
      have hn := isP_true hn
      cases hx
      have := gives13 w (a := a.toNat) (n := n.toNat) (by omega) (by omega) (by omega)
      rw [show ((n.toNat : Nat) : Int) = n by omega, show ((a.toNat : Nat) : Int) = a by omega] at this
      exact this.mono fun e w' ⟨he, hb⟩ => ⟨_, he, .v _, hb⟩
    · cases hx

theorem E1_ok {w : World} (hV : Vars w) : EnvOk E1 w := by
  refine env_ok order noNum (fun _ _ h => by cases h) (fun f S args x hS hx ρ σ w' cargs hI hv => ?_) (ext_spec w)
  unfold sumA at hS
  split at hS
  · rename_i h; subst h; cases hS; exact sum35 hV args x hx ρ σ w' cargs hI hv
  · split at hS
    · rename_i h; subst h; cases hS; exact sum36 args x hx ρ σ w' cargs hI hv
    · split at hS
      · rename_i h; subst h; cases hS; exact sum37 args x hx ρ σ w' cargs hI hv
      · split at hS
        · rename_i h; subst h; cases hS; exact sum13 args x hx ρ σ w' cargs hI hv
        · cases hS

theorem E1_ex : ∀ f S, E1.sum f = some S → ∃ fn, E1.fn f = some fn := by
  intro f S h
  have h : sumA f = some S := h
  unfold sumA at h
  split at h
  · rename_i hf; subst hf; exact ⟨_, fn0 Tryz.func35 rfl⟩
  · split at h
    · rename_i hf; subst hf; exact ⟨_, fn0 Tryz.func36 rfl⟩
    · split at h
      · rename_i hf; subst hf; exact ⟨_, fn0 Tryz.func37 rfl⟩
      · split at h
        · rename_i hf; subst hf; exact ⟨_, fn0 Tryz.func13 rfl⟩
        · cases h

end Go.Proofs.YtfmbpdacdopkgaaGreatDoor
