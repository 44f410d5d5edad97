/- Environments by lists of summaries; the small functions. Conditions: none. -/
import Derived.Test.YtfmbpdacdopkgaaGreatDoorImgA
import Derived.Test.YtfmbpdacdopkgaaGreatDoorImgA2
import Derived.Test.YtfmbpdacdopkgaaGreatDoorAiEq
namespace Go.Proofs.YtfmbpdacdopkgaaGreatDoor
set_option maxRecDepth 100000
open Go Go.Ai
open Go.RowKit (Below)

/-- A contract, told of a summary. -/
def SumOk (W : World) (f : FuncId) (S : List AV → Option AV) : Prop :=
  ∀ args x, S args = some x → ∀ (ρ : Asg) (σ : St) (w : World) (cargs : Array Value), Inv W ρ σ w → VRels W ρ args cargs.toList →
    Calls Tryz.prog f cargs w fun e w' => ∃ y, e = .returned y ∧ VRel W ρ x y ∧ Below w.heap.size w w'

abbrev SumL := List (FuncId × (List AV → Option AV))
def sumOf : SumL → FuncId → Option (List AV → Option AV)
  | [], _ => none
  | p :: L, f => if p.1 = f then some p.2 else sumOf L f
noncomputable def EL (L : SumL) : Env := envOf Tryz.prog (fun _ => none) (sumOf L) ext
def AllOk (w : World) (L : SumL) : Prop := ∀ p, p ∈ L → SumOk w p.1 p.2 ∧ ∃ fn, fnOf Tryz.prog p.1 = some fn

theorem sumOf_mem : ∀ {L : SumL} {f : FuncId} {S : List AV → Option AV}, sumOf L f = some S → (f, S) ∈ L
  | [], _, _, h => by cases h
  | p :: L, f, S, h => by
    unfold sumOf at h
    split at h
    · rename_i e; subst e; cases h; exact List.mem_cons_self ..
    · exact List.mem_cons_of_mem _ (sumOf_mem h)

theorem EL_ok {L : SumL} {w : World} (h : AllOk w L) : EnvOk (EL L) w :=
  env_ok order noNum (fun _ _ h => by cases h) (fun f S args x hS hx ρ σ w' cargs hI hv => (h (f, S) (sumOf_mem hS)).1 args x hx ρ σ w' cargs hI hv) (ext_spec w)
theorem EL_ex {L : SumL} {w : World} (h : AllOk w L) : ∀ f S, (EL L).sum f = some S → ∃ fn, (EL L).fn f = some fn :=
  fun f S hS => (h (f, S) (sumOf_mem hS)).2

theorem fnL {L : SumL} {f : FuncId} {fn : Func} (h : Tryz.prog.funcs[f]? = some fn) (hb : fn.body.isSome = true) : (EL L).fn f = some fn := by
  show fnOf Tryz.prog f = some fn
  unfold fnOf
  rw [h]
  simp only
  cases hc : fn.body with
  | none => rw [hc] at hb; cases hb
  | some c => rfl

theorem nil_ok (w : World) : AllOk w [] := fun _ h => by cases h
theorem cons_ok {L : SumL} {f : FuncId} {S : List AV → Option AV} {fn : Func} (hL : ∀ w, AllOk w L) (h : ∀ w, SumOk w f S) (hf : Tryz.prog.funcs[f]? = some fn) (hb : fn.body.isSome = true) : ∀ w, AllOk w ((f, S) :: L) := by
  intro w p hp
  cases hp with
  | head => exact ⟨h w, fn, fnL (L := []) hf hb⟩
  | tail _ hp => exact hL w p hp

/- Exact values. -/
section
variable {W : World} {ρ : Asg}
mutual
theorem rel_exact : ∀ {x : AV} {z : Value}, x.exact? = some z → VRel W ρ x z
  | .v x, z, e => by simp [AV.exact?] at e; subst e; exact .v x
  | .agg cs, z, e => by
    simp only [AV.exact?, Option.map_eq_some_iff] at e
    obtain ⟨l, e, rfl⟩ := e
    exact .agg (rels_exact e)
  | .ifc t x, z, e => by
    simp only [AV.exact?, Option.map_eq_some_iff] at e
    obtain ⟨l, e, rfl⟩ := e
    exact .ifc (rel_exact e)
  | .top, _, e | .ptr .., _, e | .cptr .., _, e | .sl .., _, e | .lst .., _, e | .e0, _, e | .mp _, _, e | .lmp .., _, e | .fn .., _, e | .yld _, _, e | .tup _, _, e => by simp [AV.exact?] at e
theorem rels_exact : ∀ {x : List AV} {z : List Value}, AV.exacts? x = some z → VRels W ρ x z
  | [], z, e => by simp [AV.exacts?] at e; subst e; exact .nil
  | x :: xs, z, e => by
    simp only [AV.exacts?] at e
    cases hx : x.exact? with
    | none => simp [hx] at e
    | some y =>
      simp only [hx, Option.map_eq_some_iff] at e
      obtain ⟨l, e, rfl⟩ := e
      exact .cons (rel_exact hx) (rels_exact e)
end
end
def exactT? : AV → Option Value
  | .tup l => (AV.exacts? l).map fun l => .tuple l.toArray
  | x => x.exact?
theorem exactT_inv {W : World} {ρ : Asg} {x : AV} {y z : Value} (h : VRel W ρ x y) (e : exactT? x = some z) : y = z := by
  cases h with
  | tup h =>
    simp only [exactT?, Option.map_eq_some_iff] at e
    obtain ⟨l, e, rfl⟩ := e
    rw [← VRels.exact h e]
  | v x => simp [exactT?, AV.exact?] at e; exact e
  | agg h => exact VRel.exact (.agg h) e
  | ifc h => exact VRel.exact (.ifc h) e
  | _ => simp [exactT?, AV.exact?] at e
theorem exactT_rel {W : World} {ρ : Asg} {x : AV} {z : Value} (e : exactT? x = some z) : VRel W ρ x z := by
  cases x with
  | tup l =>
    simp only [exactT?, Option.map_eq_some_iff] at e
    obtain ⟨l, e, rfl⟩ := e
    exact .tup (rels_exact e)
  | _ => exact rel_exact e

abbrev start : St := ⟨.nil, 0⟩

/-- A summary from evaluations at exact arguments. -/
theorem sum_eval {L : SumL} (hL : ∀ w, AllOk w L) {f : FuncId} {S : List AV → Option AV}
    (hS : ∀ args x, S args = some x → ∃ l z, AV.exacts? args = some l ∧ exactT? x = some z ∧ ∃ N n σ, (evalK (EL L) N n).call f args start = some (.ret x, σ)) (W : World) : SumOk W f S := by
  intro args x hx ρ σ w cargs hI hv
  obtain ⟨l, z, hl, hz, N, n, σ', he⟩ := hS args x hx
  have hc := VRels.exact hv hl
  have := calls_of_eval (EL_ok (hL w)) (EL_ex (hL w)) he (cargs := cargs) (by rw [hc]; exact rels_exact hl)
  exact this.mono fun e w' ⟨y, ρ', he, hr, _, hb⟩ => ⟨y, he, by rw [exactT_inv hr hz]; exact exactT_rel hz, hb⟩

/-- Is there a slot? -/
def isP (a n : Int) : Bool := decide (1 ≤ a) && decide (a ≤ 3) && decide (0 ≤ n) && decide (n < 64)
theorem isP_true {a n : Int} (h : isP a n = true) : 1 ≤ a ∧ a ≤ 3 ∧ 0 ≤ n ∧ n < 64 := by
  simp [isP] at h; omega
def isV (n : Int) : Bool := decide (-2147483648 ≤ n) && decide (n < 2147483648)

def S36 : List AV → Option AV
  | [.v (.int .i64 a), .v (.int .i64 n)] => some (.b (isP a n))
  | _ => none
def S12 : List AV → Option AV
  | [] => some (.b true)
  | _ => none
def SV : List AV → Option AV
  | [.v (.int .i64 n)] => some (.b (isV n))
  | _ => none

theorem place36 {K : Kont} {E : Env} {N : Nat} {σ : St} {a : AFr} {x n : Int} (hn : a.n = 19) (h0 : a.get 0 = .i x) (h1 : a.get 1 = .i n) :
    ∃ a', codeA K E N none (fAt Tryz.f36 []) a σ = some (.ret, a', σ) ∧ a'.get 4 = .b (isP x n) ∧ a'.df = a.df := by
  simp only [fAt, cAt, Tryz.f36]
  by_cases c1 : 1 ≤ x <;> by_cases c2 : x ≤ 3 <;> by_cases c3 : 0 ≤ n <;> by_cases c4 : n < 64 <;>
    simp [code_region, code_seq, code_ret, opsA, oneA, wantedA, opA, kindOf, readA, uponA, AFr.put, get_set, n_set, hn, opd, h0, h1, cmp_geq, cmp_leq, cmp_lss, df_set, isP, c1, c2, c3, c4]
theorem place11 {K : Kont} {E : Env} {N : Nat} {σ : St} {a : AFr} {x n : Int} (hn : a.n = 19) (h0 : a.get 0 = .i x) (h1 : a.get 1 = .i n) :
    ∃ a', codeA K E N none (fAt Tryz.f11 []) a σ = some (.ret, a', σ) ∧ a'.get 4 = .b (isP x n) ∧ a'.df = a.df := by
  simp only [fAt, cAt, Tryz.f11]
  by_cases c1 : 1 ≤ x <;> by_cases c2 : x ≤ 3 <;> by_cases c3 : 0 ≤ n <;> by_cases c4 : n < 64 <;>
    simp [code_region, code_seq, code_ret, opsA, oneA, wantedA, opA, kindOf, readA, uponA, AFr.put, get_set, n_set, hn, opd, h0, h1, cmp_geq, cmp_leq, cmp_lss, df_set, isP, c1, c2, c3, c4]
theorem value52 {K : Kont} {E : Env} {N : Nat} {σ : St} {a : AFr} {x : Int} (hn : a.n = 9) (h0 : a.get 0 = .i x) :
    ∃ a', codeA K E N none (fAt Tryz.f52 []) a σ = some (.ret, a', σ) ∧ a'.get 2 = .b (isV x) ∧ a'.df = a.df := by
  simp only [fAt, cAt, Tryz.f52]
  by_cases c1 : -2147483648 ≤ x <;> by_cases c2 : x < 2147483648 <;>
    simp [code_region, code_seq, code_ret, opsA, oneA, wantedA, opA, kindOf, readA, uponA, AFr.put, get_set, n_set, hn, opd, h0, cmp_geq, cmp_lss, df_set, isV, c1, c2]
theorem value54 {K : Kont} {E : Env} {N : Nat} {σ : St} {a : AFr} {x : Int} (hn : a.n = 9) (h0 : a.get 0 = .i x) :
    ∃ a', codeA K E N none (fAt Tryz.f54 []) a σ = some (.ret, a', σ) ∧ a'.get 2 = .b (isV x) ∧ a'.df = a.df := by
  simp only [fAt, cAt, Tryz.f54]
  by_cases c1 : -2147483648 ≤ x <;> by_cases c2 : x ≤ 2147483647 <;>
    simp [code_region, code_seq, code_ret, opsA, oneA, wantedA, opA, kindOf, readA, uponA, AFr.put, get_set, n_set, hn, opd, h0, cmp_geq, cmp_leq, df_set, isV, c1, c2] <;> omega

theorem sum36 (W : World) : SumOk W 36 S36 := by
  refine sum_eval (L := []) nil_ok (fun args x hx => ?_) W
  match args, hx with
  | [.v (.int .i64 x), .v (.int .i64 n)], hx =>
    cases hx
    obtain ⟨a', h1, h2, h3⟩ := place36 (K := evalK (EL []) 10 0) (E := EL []) (N := 10) (σ := start) (a := frame0 Tryz.f36 [.i x, .i n]) rfl rfl rfl
    exact ⟨_, _, rfl, rfl, 10, 1, _, call_ret (fnL Tryz.func36 rfl) rfl h1 (by rw [h3]; rfl) (x := .b (isP x n)) (by simp [resultA, resultsA, Tryz.f36, h2])⟩
theorem sum11 (W : World) : SumOk W 11 S36 := by
  refine sum_eval (L := []) nil_ok (fun args x hx => ?_) W
  match args, hx with
  | [.v (.int .i64 x), .v (.int .i64 n)], hx =>
    cases hx
    obtain ⟨a', h1, h2, h3⟩ := place11 (K := evalK (EL []) 10 0) (E := EL []) (N := 10) (σ := start) (a := frame0 Tryz.f11 [.i x, .i n]) rfl rfl rfl
    exact ⟨_, _, rfl, rfl, 10, 1, _, call_ret (fnL Tryz.func11 rfl) rfl h1 (by rw [h3]; rfl) (x := .b (isP x n)) (by simp [resultA, resultsA, Tryz.f11, h2])⟩
theorem sum52 (W : World) : SumOk W 52 SV := by
  refine sum_eval (L := []) nil_ok (fun args x hx => ?_) W
  match args, hx with
  | [.v (.int .i64 x)], hx =>
    cases hx
    obtain ⟨a', h1, h2, h3⟩ := value52 (K := evalK (EL []) 10 0) (E := EL []) (N := 10) (σ := start) (a := frame0 Tryz.f52 [.i x]) rfl rfl
    exact ⟨_, _, rfl, rfl, 10, 1, _, call_ret (fnL Tryz.func52 rfl) rfl h1 (by rw [h3]; rfl) (x := .b (isV x)) (by simp [resultA, resultsA, Tryz.f52, h2])⟩
theorem sum54 (W : World) : SumOk W 54 SV := by
  refine sum_eval (L := []) nil_ok (fun args x hx => ?_) W
  match args, hx with
  | [.v (.int .i64 x)], hx =>
    cases hx
    obtain ⟨a', h1, h2, h3⟩ := value54 (K := evalK (EL []) 10 0) (E := EL []) (N := 10) (σ := start) (a := frame0 Tryz.f54 [.i x]) rfl rfl
    exact ⟨_, _, rfl, rfl, 10, 1, _, call_ret (fnL Tryz.func54 rfl) rfl h1 (by rw [h3]; rfl) (x := .b (isV x)) (by simp [resultA, resultsA, Tryz.f54, h2])⟩

theorem E0_ok (w : World) : EnvOk E0 w :=
  env_ok order noNum (fun _ _ h => by cases h) (fun _ _ _ _ h => by cases h) (ext_spec w)
theorem E0_ex : ∀ f S, E0.sum f = some S → ∃ fn, E0.fn f = some fn := fun _ _ h => by cases h
theorem sum12 (W : World) : SumOk W 12 S12 := by
  intro args x hx ρ σ w cargs hI hv
  match args, hx with
  | [], hx =>
    cases hx
    have : cargs = #[] := by
      obtain ⟨l⟩ := cargs
      cases hv
      rfl
    subst this
    exact (calls_true (E0_ok w) E0_ex awake_eval .nil).mono fun e w' ⟨he, hb⟩ => ⟨_, he, .v _, hb⟩

/-- The first layer: the examples; is there a slot; is it a value. -/
def L1 : SumL := [(12, S12), (11, S36), (36, S36), (52, SV), (54, SV)]
theorem L1_ok : ∀ w, AllOk w L1 :=
  cons_ok (cons_ok (cons_ok (cons_ok (cons_ok nil_ok sum54 Tryz.func54 rfl) sum52 Tryz.func52 rfl) sum36 Tryz.func36 rfl) sum11 Tryz.func11 rfl) sum12 Tryz.func12 rfl
end Go.Proofs.YtfmbpdacdopkgaaGreatDoor

namespace Go.Proofs.YtfmbpdacdopkgaaGreatDoor
set_option maxRecDepth 100000
open Go Go.Ai
open Go.RowKit (Below)

def ints (l : List Int) : List AV := l.map AV.i
theorem ints_len (l : List Int) : (ints l).length = l.length := by simp [ints]
theorem ints_at {l : List Int} {i : Nat} {n : Int} (h : l[i]? = some n) : (ints l)[i]? = some (.i n) := by simp [ints, h]
theorem ints_exact : ∀ l : List Int, AV.exacts? (ints l) = some (l.map (Value.int .i64))
  | [] => rfl
  | n :: l => by
    show AV.exacts? (AV.i n :: ints l) = _
    simp [AV.exacts?, AV.exact?, ints_exact l]
def ints? : List AV → Option (List Int)
  | [] => some []
  | .v (.int .i64 n) :: r => (ints? r).map (n :: ·)
  | _ => none
theorem ints?_ints : ∀ l : List Int, ints? (ints l) = some l
  | [] => rfl
  | n :: l => by
    show ints? (AV.i n :: ints l) = _
    simp [ints?, ints?_ints l]
theorem ints?_some : ∀ {cs : List AV} {l : List Int}, ints? cs = some l → cs = ints l
  | [], l, h => by simp [ints?] at h; subst h; rfl
  | .v (.int .i64 n) :: r, l, h => by
    simp only [ints?, Option.map_eq_some_iff] at h
    obtain ⟨r', h, rfl⟩ := h
    rw [ints?_some h]; rfl
theorem ints_one (l : List Int) : (ints l).all (·.one) = true := by simp [ints, AV.one, lone1]
theorem ints_drop (l : List Int) (n : Nat) : (ints l).drop n = ints (l.drop n) := by simp [ints]
theorem ints_take (l : List Int) (n : Nat) : (ints l).take n = ints (l.take n) := by simp [ints]

/-- The place of a slot in an image. -/
def idx (a n : Int) : Nat := ((a - 1) * 64 + n).toNat
theorem idx_lt {a n : Int} (h : isP a n = true) : idx a n < 192 := by
  have := isP_true h; unfold idx; omega

theorem und_eq (L : SumL) : (EL L).und = Tryz.prog.underlying := rfl
theorem inf_eq (L : SumL) : (EL L).inf = Tryz.prog.info? := rfl
theorem sum_eq (L : SumL) : (EL L).sum = sumOf L := rfl
theorem z3 (L : SumL) : (EL L).size 3 = some 1 := by show (Tryz.prog.info? 3).map _ = _; kernel_rfl
theorem z4 (L : SumL) : (EL L).size 4 = some 1 := by show (Tryz.prog.info? 4).map _ = _; kernel_rfl
theorem z23 (L : SumL) : (EL L).size 23 = some 1 := by show (Tryz.prog.info? 23).map _ = _; kernel_rfl
theorem z34 (L : SumL) : (EL L).size 34 = some 1 := by show (Tryz.prog.info? 34).map _ = _; kernel_rfl
theorem z35 (L : SumL) : (EL L).size 35 = some 64 := by show (Tryz.prog.info? 35).map _ = _; kernel_rfl
theorem z37 (L : SumL) : (EL L).size 37 = some 192 := by show (Tryz.prog.info? 37).map _ = _; kernel_rfl
theorem z38 (L : SumL) : (EL L).size 38 = some 1 := by show (Tryz.prog.info? 38).map _ = _; kernel_rfl
theorem z55 (L : SumL) : (EL L).size 55 = some 1 := by show (Tryz.prog.info? 55).map _ = _; kernel_rfl
theorem z74 (L : SumL) : (EL L).size 74 = some 6 := by show (Tryz.prog.info? 74).map _ = _; kernel_rfl
theorem z79 (L : SumL) : (EL L).size 79 = some 3 := by show (Tryz.prog.info? 79).map _ = _; kernel_rfl
theorem z96 (L : SumL) : (EL L).size 96 = some 192 := by show (Tryz.prog.info? 96).map _ = _; kernel_rfl
theorem z136 (L : SumL) : (EL L).size 136 = some 1 := by show (Tryz.prog.info? 136).map _ = _; kernel_rfl
theorem agg3 (L : SumL) : (EL L).agg 3 = some false := by simp [Env.agg, und_eq, Tryz.underlying3]
theorem agg136 (L : SumL) : (EL L).agg 136 = some false := by simp [Env.agg, und_eq, Tryz.underlying136]
theorem zz {P : Program} {t : TypeId} {z : Value} {n : Nat} (h : (P.info? t).bind (·.zero) = some z) (hn : z.cells.toList.length = n) : ∃ i, P.info? t = some i ∧ i.zero = some z ∧ z.cells.toList.length = n := by
  cases hi : P.info? t with
  | none => rw [hi] at h; cases h
  | some i => rw [hi] at h; exact ⟨i, rfl, h, hn⟩

theorem zero79 (L : SumL) : (EL L).zero 79 = some (.agg #[.int .i64 0, .int .i64 0, .int .i64 0]) := by
  show (match Tryz.prog.info? 79 with | some i => i.zero | none => none) = _
  kernel_rfl
theorem zero23 (L : SumL) : (EL L).zero 23 = some (.int .i64 0) := by
  show (match Tryz.prog.info? 23 with | some i => i.zero | none => none) = _
  kernel_rfl
/-- The image of zeros. -/
def zimg : List Int := List.replicate 192 0
theorem zimg_len : zimg.length = 192 := by simp [zimg]
def zeroImg (z : Option Value) : Bool :=
  match z with
  | some (.agg c) => c.toList.length == 192 && c.toList.all fun v => match v with
    | .int .i64 n => n == 0
    | _ => false
  | _ => false
theorem zeroImg_spec {z : Option Value} (h : zeroImg z = true) : ∃ v, z = some v ∧ v.cells.toList.map AV.v = ints zimg := by
  match z, h with
  | some (.agg c), h =>
    simp only [zeroImg, Bool.and_eq_true, beq_iff_eq] at h
    refine ⟨_, rfl, ?_⟩
    have hc : (Value.agg c).cells.toList = List.replicate 192 (.int .i64 0) := by
      show c.toList = _
      rw [← h.1]
      have h2 := h.2
      rw [List.all_eq_true] at h2
      refine List.eq_replicate_iff.2 ⟨rfl, fun v hv => ?_⟩
      have := h2 v hv
      split at this
      · simp at this; rw [this]
      · cases this
    rw [hc]; simp [ints, zimg]
noncomputable def zeroOf (t : TypeId) : Option Value := match Tryz.prog.info? t with
  | some i => i.zero
  | none => none
theorem zero_eq (L : SumL) (t : TypeId) : (EL L).zero t = zeroOf t := rfl
theorem zi37 : zeroImg (zeroOf 37) = true := by kernel_rfl
theorem zi96 : zeroImg (zeroOf 96) = true := by kernel_rfl
theorem zero37 (L : SumL) : ∃ v, (EL L).zero 37 = some v ∧ v.cells.toList.map AV.v = ints zimg := by
  rw [zero_eq]; exact zeroImg_spec zi37
theorem zero96 (L : SumL) : ∃ v, (EL L).zero 96 = some v ∧ v.cells.toList.map AV.v = ints zimg := by
  rw [zero_eq]; exact zeroImg_spec zi96
theorem zero55 (L : SumL) : (EL L).zero 55 = some (.slice none 0 0) := by
  show (match Tryz.prog.info? 55 with | some i => i.zero | none => none) = _
  kernel_rfl

theorem fn44 (L : SumL) : (EL L).fn 44 = some Tryz.f44 := fnL Tryz.func44 rfl
theorem area44' {K : Kont} {L : SumL} {N : Nat} {σ : St} {o g ar : Nat} (h1 : 1 ≤ ar) (h3 : ar ≤ 3) {a : AFr} (hn : a.n = 22) (g0 : a.get 0 = .ptr o 0 g 192) (g1 : a.get 1 = .i (ar : Int)) (hd : a.df = []) :
    ∃ a', codeA K (EL L) N none (fAt Tryz.f44 []) a σ = some (.ret, a', σ) ∧ a'.df = [] ∧ a'.get 4 = .ptr o ((ar - 1) * 64) g 64 := by
  have h : ar = 1 ∨ ar = 2 ∨ ar = 3 := by omega
  have k0 : fieldAddrA (EL L) 96 (.ptr o 0 g 192) 0 = some (.ptr o 0 g 192) := by simp [fieldAddrA, und_eq, Tryz.underlying96, z37]
  have k1 : fieldAddrA (EL L) 37 (.ptr o 0 g 192) 0 = some (.ptr o 0 g 64) := by simp [fieldAddrA, und_eq, Tryz.underlying37, z35]
  have k2 : fieldAddrA (EL L) 37 (.ptr o 0 g 192) 1 = some (.ptr o 64 g 64) := by simp [fieldAddrA, und_eq, Tryz.underlying37, z35]
  have k3 : fieldAddrA (EL L) 37 (.ptr o 0 g 192) 2 = some (.ptr o 128 g 64) := by simp [fieldAddrA, und_eq, Tryz.underlying37, z35]
  simp only [fAt, cAt, Tryz.f44]
  rcases h with rfl | rfl | rfl <;>
  simp [code_skip, code_region, code_seq, code_cond, code_block, code_ret, opsA, oneA, wantedA, opA, kindOf, readA, uponA, AFr.put, get_set, n_set, df_set, opd, eq_int, hn, g0, g1, hd, k0, k1, k2, k3]
theorem area44 {K : Kont} {L : SumL} {N : Nat} {σ : St} {o g ar : Nat} (h1 : 1 ≤ ar) (h3 : ar ≤ 3) : callBody K (EL L) N 44 [.ptr o 0 g 192, .i (ar : Int)] σ = some (.ret (.ptr o ((ar - 1) * 64) g 64), σ) := by
  obtain ⟨a', e1, e2, e3⟩ := area44' (K := K) (L := L) (N := N) (σ := σ) (o := o) (g := g) h1 h3 (a := frame0 Tryz.f44 [.ptr o 0 g 192, .i (ar : Int)]) rfl rfl rfl rfl
  exact call_ret (fn44 L) (show Tryz.f44.body = some (fAt Tryz.f44 []) from rfl) e1 e2 (by simp [resultA, resultsA, Tryz.f44, e3])

theorem build79 {L : SumL} (x y z : AV) (hx : x.cells? = some [x]) (hy : y.cells? = some [y]) (hz : z.cells? = some [z]) : buildA (EL L) 79 [(0, x), (1, y), (2, z)] = some (.agg [x, y, z]) := by
  simp [buildA, zero79, und_eq, Tryz.underlying79, z3, fillA, hx, hy, hz, splice, Value.cells]
end Go.Proofs.YtfmbpdacdopkgaaGreatDoor
