/- image.Parse, at a text that is no address. Conditions: what Atoi, isSlot and Itoa hand back. -/
import Derived.Test.YtfmbpdacdopkgaaGreatDoorImgA
import Derived.Test.YtfmbpdacdopkgaaGreatDoorAiSym
namespace Go.Proofs.YtfmbpdacdopkgaaGreatDoor
open Go Go.Ai
noncomputable def body8 : Code := fAt Tryz.f8 [1,0,1,0,0]
def iqm : ByteArray := ⟨#[105, 113, 109]⟩
def head (area : Int) : ByteArray := ⟨#[37, if area = 1 then 105 else if area = 2 then 113 else 109]⟩
theorem head_eval (P : Program) (t : TypeId) : ∀ area : Int, area = 1 ∨ area = 2 ∨ area = 3 → runA P (binOp .add t (.string ⟨#[37]⟩) (.string (ByteArray.extract ⟨#[105, 113, 109]⟩ (area.toNat - 1) area.toNat))) = some (.string (head area)) := by
  rintro area (rfl | rfl | rfl) <;> rfl
theorem iqm_size : (ByteArray.mk #[105, 113, 109]).size = 3 := rfl

theorem body8_short {K : Kont} {E : Env} {N : Nat} {σ : St} {a : AFr} {s : ByteArray} {area : Int} (ha : 1 ≤ area ∧ area ≤ 3) (hu : E.und 9 = some .string) (hn : a.n = 49) (h0 : a.get 0 = .v (.string s)) (h5 : a.get 5 = .i area) (hs : (s.size : Int) < 3) :
    ∃ a', codeA K E N none body8 a σ = some (.normal, a', σ) ∧ a'.n = 49 ∧ a'.get 0 = .v (.string s) ∧ a'.get 5 = .i (area + 1) ∧ a'.df = a.df := by
  have hh := head_eval E.P 9 area (by omega)
  have w1 := wrap_id (n := area - 1) (by omega) (by omega)
  have w2 := wrap_id (n := area + 1) (by omega) (by omega)
  have c1 : ¬ (area - 1 < 0) := by omega
  have c2 : ¬ (area < 0) := by omega
  have c3 : area.toNat - 1 ≤ area.toNat ∧ area.toNat ≤ 3 := by omega
  simp only [body8, fAt, cAt, Tryz.f8]
  simp [code_skip, code_region, code_seq, code_cond, code_block, code_exit, code_ret, opsA, oneA, wantedA, opA, kindOf, readA, uponA, AFr.put, get_set, n_set, df_set, hn, h0, h5, opd, cmp_leq, ar_sub, ar_add, cmp_lss, sliceA, hu, bounds?, bound?, lenA, hs, ha, w1, w2, c1, c2, c3, iqm_size, hh]


noncomputable def r7 : Code := fAt Tryz.f8 [1,0,1,0,0, 1,0,0, 1,1,1,0]
theorem eq_nil_ifc (E : Env) (t : TypeId) (xo yo : Operand) (u : TypeId) {ms} (ht : E.und t = some (.interface ms)) : eqA E .eql t xo yo (.ifc u .top) (.v .nilIface) = some (.b false) := by
  simp [eqA, AV.exact?, ht, isNil, noNil]
theorem body8_head {K : Kont} {E : Env} {N : Nat} {σ : St} {a : AFr} {s : ByteArray} {area : Int} (ha : 1 ≤ area ∧ area ≤ 3) (hu : E.und 9 = some .string) (hn : a.n = 49) (h0 : a.get 0 = .v (.string s)) (h5 : a.get 5 = .i area) (hs : ¬ (s.size : Int) < 3)
    (hd : ((s.extract 0 2).toList == (head area).toList) = false) :
    ∃ a', codeA K E N none body8 a σ = some (.normal, a', σ) ∧ a'.n = 49 ∧ a'.get 0 = .v (.string s) ∧ a'.get 5 = .i (area + 1) ∧ a'.df = a.df := by
  have hh := head_eval E.P 9 area (by omega)
  have w1 := wrap_id (n := area - 1) (by omega) (by omega)
  have w2 := wrap_id (n := area + 1) (by omega) (by omega)
  have c1 : ¬ (area - 1 < 0) := by omega
  have c2 : ¬ (area < 0) := by omega
  have c3 : area.toNat - 1 ≤ area.toNat ∧ area.toNat ≤ 3 := by omega
  have c4 : 2 ≤ s.size := by omega
  simp only [body8, fAt, cAt, Tryz.f8]
  simp [code_skip, code_region, code_seq, code_cond, code_block, code_exit, code_ret, opsA, oneA, wantedA, opA, kindOf, readA, uponA, AFr.put, get_set, n_set, df_set, hn, h0, h5, opd, cmp_leq, ar_sub, ar_add, cmp_lss, sliceA, hu, bounds?, bound?, lenA, hs, ha, w1, w2, c1, c2, c3, c4, iqm_size, hh, ne_str, hd]

/-- What follows a head that fits: nothing comes of it. -/
def Off (E : Env) (area : Int) (r : ByteArray) : Prop :=
  ∃ S, E.sum 35 = some S ∧ ((∃ T, S [.v (.string r)] = some (.tup [.top, .ifc T .top])) ∨
    ∃ n S36, E.sum 36 = some S36 ∧ S [.v (.string r)] = some (.tup [.i n, .v .nilIface]) ∧ (S36 [.i area, .i n] = some (.b false) ∨
      (S36 [.i area, .i n] = some (.b true) ∧ ∃ S37 u, E.sum 37 = some S37 ∧ S37 [.i n] = some (.v (.string u)) ∧ (u.toList == r.toList) = false)))

theorem body8_off {K : Kont} {E : Env} {N : Nat} {σ : St} {a : AFr} {s : ByteArray} {area : Int} {ms} (ha : 1 ≤ area ∧ area ≤ 3) (hu : E.und 9 = some .string) (hi : E.und 81 = some (.interface ms)) (hnil : eqA E .eql 81 (.tmp 33) (.const .nilIface) (.v .nilIface) (.v .nilIface) = some (.b true)) (hn : a.n = 49) (h0 : a.get 0 = .v (.string s)) (h5 : a.get 5 = .i area)
    (hs : ¬ (s.size : Int) < 3) (hd : ((s.extract 0 2).toList == (head area).toList) = true) (hoff : Off E area (s.extract 2 s.size)) :
    ∃ a', codeA K E N none body8 a σ = some (.normal, a', σ) ∧ a'.n = 49 ∧ a'.get 0 = .v (.string s) ∧ a'.get 5 = .i (area + 1) ∧ a'.df = a.df := by
  have hh := head_eval E.P 9 area (by omega)
  have w1 := wrap_id (n := area - 1) (by omega) (by omega)
  have w2 := wrap_id (n := area + 1) (by omega) (by omega)
  have c1 : ¬ (area - 1 < 0) := by omega
  have c2 : ¬ (area < 0) := by omega
  have c3 : area.toNat - 1 ≤ area.toNat ∧ area.toNat ≤ 3 := by omega
  have c4 : 2 ≤ s.size := by omega
  obtain ⟨S, hS, hoff⟩ := hoff
  simp only [body8, fAt, cAt, Tryz.f8]
  rcases hoff with ⟨T, h35⟩ | ⟨n, S36, hS36, h35, h36 | ⟨h36, S37, u, hS37, h37, hne⟩⟩
  · simp [code_skip, code_region, code_seq, code_cond, code_block, code_exit, code_ret, code_draw, opsA, oneA, wantedA, opA, kindOf, readA, uponA, AFr.put, get_set, n_set, df_set, hn, h0, h5, opd, cmp_leq, ar_sub, ar_add, cmp_lss, sliceA, hu, bounds?, bound?, lenA, hs, ha, w1, w2, c1, c2, c3, c4, iqm_size, hh, ne_str, hd,
      writeA, callee?, callA, hS, h35, regionA, dops, dopsGo, befOf, Region.binds, drawOk, nodupB, hasDefer, eager, drawA, dim, unord, eq_nil_ifc _ _ _ _ _ hi, sameIn, chk, AV.beq, vbeq, Nat.testBit]
  · simp [code_skip, code_region, code_seq, code_cond, code_block, code_exit, code_ret, code_draw, opsA, oneA, wantedA, opA, kindOf, readA, uponA, AFr.put, get_set, n_set, df_set, hn, h0, h5, opd, cmp_leq, ar_sub, ar_add, cmp_lss, sliceA, hu, bounds?, bound?, lenA, hs, ha, w1, w2, c1, c2, c3, c4, iqm_size, hh, ne_str, hd,
      writeA, callee?, callA, hS, h35, regionA, dops, dopsGo, befOf, Region.binds, drawOk, nodupB, hasDefer, eager, drawA, dim, unord, hnil, sameIn, chk, AV.beq, vbeq, Nat.testBit, hS36, h36]
  · simp [code_skip, code_region, code_seq, code_cond, code_block, code_exit, code_ret, code_draw, opsA, oneA, wantedA, opA, kindOf, readA, uponA, AFr.put, get_set, n_set, df_set, hn, h0, h5, opd, cmp_leq, ar_sub, ar_add, cmp_lss, sliceA, hu, bounds?, bound?, lenA, hs, ha, w1, w2, c1, c2, c3, c4, iqm_size, hh, ne_str, hd,
      writeA, callee?, callA, hS, h35, regionA, dops, dopsGo, befOf, Region.binds, drawOk, nodupB, hasDefer, eager, drawA, dim, unord, hnil, sameIn, chk, AV.beq, vbeq, Nat.testBit, hS36, h36, hS37, h37, eq_str, hne]

theorem body8_found {K : Kont} {E : Env} {N : Nat} {σ : St} {a : AFr} {s u : ByteArray} {area n : Int} {S S36 S37 : List AV → Option AV} (ha : 1 ≤ area ∧ area ≤ 3) (hu : E.und 9 = some .string)
    (hnil : eqA E .eql 81 (.tmp 33) (.const .nilIface) (.v .nilIface) (.v .nilIface) = some (.b true)) (hn : a.n = 49) (h0 : a.get 0 = .v (.string s)) (h5 : a.get 5 = .i area)
    (hs : ¬ (s.size : Int) < 3) (hd : ((s.extract 0 2).toList == (head area).toList) = true) (hS : E.sum 35 = some S) (h35 : S [.v (.string (s.extract 2 s.size))] = some (.tup [.i n, .v .nilIface]))
    (hS36 : E.sum 36 = some S36) (h36 : S36 [.i area, .i n] = some (.b true)) (hS37 : E.sum 37 = some S37) (h37 : S37 [.i n] = some (.v (.string u))) (hne : (u.toList == (s.extract 2 s.size).toList) = true) :
    ∃ a', codeA K E N none body8 a σ = some (.ret, a', σ) ∧ a'.get 2 = .i area ∧ a'.get 3 = .i n ∧ a'.get 4 = .i 0 ∧ a'.df = a.df := by
  have hh := head_eval E.P 9 area (by omega)
  have w1 := wrap_id (n := area - 1) (by omega) (by omega)
  have c1 : ¬ (area - 1 < 0) := by omega
  have c2 : ¬ (area < 0) := by omega
  have c3 : area.toNat - 1 ≤ area.toNat ∧ area.toNat ≤ 3 := by omega
  have c4 : 2 ≤ s.size := by omega
  simp only [body8, fAt, cAt, Tryz.f8]
  simp [code_skip, code_region, code_seq, code_cond, code_block, code_exit, code_ret, code_draw, opsA, oneA, wantedA, opA, kindOf, readA, uponA, AFr.put, get_set, n_set, df_set, hn, h0, h5, opd, cmp_leq, ar_sub, cmp_lss, sliceA, hu, bounds?, bound?, lenA, hs, ha, w1, c1, c2, c3, c4, iqm_size, hh, ne_str, hd,
      writeA, callee?, callA, hS, h35, regionA, dops, dopsGo, befOf, Region.binds, drawOk, nodupB, hasDefer, eager, drawA, dim, unord, hnil, sameIn, chk, AV.beq, vbeq, Nat.testBit, hS36, h36, hS37, h37, eq_str, hne]

theorem body8_exit {K : Kont} {E : Env} {N : Nat} {σ : St} {a : AFr} (hn : a.n = 49) (h5 : a.get 5 = .i 4) :
    ∃ a', codeA K E N none body8 a σ = some (.exit 0, a', σ) ∧ a'.n = 49 ∧ a'.df = a.df := by
  simp only [body8, fAt, cAt, Tryz.f8]
  simp [code_skip, code_region, code_seq, code_cond, code_block, code_exit, code_ret, opsA, oneA, wantedA, opA, kindOf, readA, uponA, AFr.put, get_set, n_set, hn, opd, h5, cmp_leq, df_set]

/-- An area to which a text does not belong. -/
def Cont (E : Env) (s : ByteArray) (area : Int) : Prop := (s.size : Int) < 3 ∨ (¬ (s.size : Int) < 3 ∧ (((s.extract 0 2).toList == (head area).toList) = false ∨ (((s.extract 0 2).toList == (head area).toList) = true ∧ Off E area (s.extract 2 s.size))))

theorem body8_cont {K : Kont} {E : Env} {N : Nat} {σ : St} {a : AFr} {s : ByteArray} {area : Int} {ms} (ha : 1 ≤ area ∧ area ≤ 3) (hu : E.und 9 = some .string) (hi : E.und 81 = some (.interface ms))
    (hnil : eqA E .eql 81 (.tmp 33) (.const .nilIface) (.v .nilIface) (.v .nilIface) = some (.b true)) (hn : a.n = 49) (h0 : a.get 0 = .v (.string s)) (h5 : a.get 5 = .i area) (hc : Cont E s area) :
    ∃ a', codeA K E N none body8 a σ = some (.normal, a', σ) ∧ a'.n = 49 ∧ a'.get 0 = .v (.string s) ∧ a'.get 5 = .i (area + 1) ∧ a'.df = a.df := by
  rcases hc with h | ⟨h, h' | ⟨h', h''⟩⟩
  · exact body8_short ha hu hn h0 h5 h
  · exact body8_head ha hu hn h0 h5 h h'
  · exact body8_off ha hu hi hnil hn h0 h5 h h' h''

theorem body8_loop {K : Kont} {E : Env} {N : Nat} {σ : St} {s : ByteArray} {ms} (hu : E.und 9 = some .string) (hi : E.und 81 = some (.interface ms)) (hnil : eqA E .eql 81 (.tmp 33) (.const .nilIface) (.v .nilIface) (.v .nilIface) = some (.b true))
    (hc : ∀ area, 1 ≤ area → area ≤ 3 → Cont E s area) : ∀ (m fuel : Nat) (a : AFr) (area : Int), area = 4 - m → 1 ≤ area → m < fuel → a.n = 49 → a.get 0 = .v (.string s) → a.get 5 = .i area →
      ∃ a', iterA (codeA K E N none body8) fuel a σ = some (.exit 0, a', σ) ∧ a'.n = 49 ∧ a'.df = a.df
  | 0, fuel + 1, a, area, hs, h0, hf, hn, g0, g5 => by
    obtain rfl : area = 4 := by omega
    obtain ⟨a', e, r⟩ := body8_exit (K := K) (E := E) (N := N) (σ := σ) hn g5
    exact ⟨a', by simp only [iterA, e], r⟩
  | m + 1, fuel + 1, a, area, hs, h0, hf, hn, g0, g5 => by
    obtain ⟨a₁, e, k1, k2, k3, k4⟩ := body8_cont (K := K) (N := N) (σ := σ) ⟨h0, by omega⟩ hu hi hnil hn g0 g5 (hc area h0 (by omega))
    obtain ⟨a', e', r1, r2⟩ := body8_loop (K := K) (N := N) (σ := σ) hu hi hnil hc m fuel a₁ (area + 1) (by omega) (by omega) (by omega) k1 k2 k3
    exact ⟨a', by simp only [iterA, e, e'], r1, r2.trans k4⟩
  | _, 0, _, _, _, _, hf, _, _, _ => by omega

theorem body8_hit {K : Kont} {E : Env} {N : Nat} {σ : St} {s : ByteArray} {area n : Int} {ms} (hu : E.und 9 = some .string) (hi : E.und 81 = some (.interface ms)) (hnil : eqA E .eql 81 (.tmp 33) (.const .nilIface) (.v .nilIface) (.v .nilIface) = some (.b true))
    (hc : ∀ b, 1 ≤ b → b < area → Cont E s b) (hfound : ∀ a : AFr, a.n = 49 → a.get 0 = .v (.string s) → a.get 5 = .i area → ∃ a', codeA K E N none body8 a σ = some (.ret, a', σ) ∧ a'.get 2 = .i area ∧ a'.get 3 = .i n ∧ a'.get 4 = .i 0 ∧ a'.df = a.df)
    (h3 : area ≤ 3) : ∀ (m fuel : Nat) (a : AFr) (b : Int), b = area - m → 1 ≤ b → m < fuel → a.n = 49 → a.get 0 = .v (.string s) → a.get 5 = .i b →
      ∃ a', iterA (codeA K E N none body8) fuel a σ = some (.ret, a', σ) ∧ a'.get 2 = .i area ∧ a'.get 3 = .i n ∧ a'.get 4 = .i 0 ∧ a'.df = a.df
  | 0, fuel + 1, a, b, hs, h0, hf, hn, g0, g5 => by
    obtain rfl : b = area := by omega
    obtain ⟨a', e, r⟩ := hfound a hn g0 g5
    exact ⟨a', by simp only [iterA, e], r⟩
  | m + 1, fuel + 1, a, b, hs, h0, hf, hn, g0, g5 => by
    obtain ⟨a₁, e, k1, k2, k3, k4⟩ := body8_cont (K := K) (N := N) (σ := σ) ⟨h0, by omega⟩ hu hi hnil hn g0 g5 (hc b h0 (by omega))
    obtain ⟨a', e', r1, r2, r3, r4⟩ := body8_hit hu hi hnil hc hfound h3 m fuel a₁ (b + 1) (by omega) (by omega) (by omega) k1 k2 k3
    exact ⟨a', by simp only [iterA, e, e'], r1, r2, r3, r4.trans k4⟩
  | _, 0, _, _, _, _, hf, _, _, _ => by omega

/-- Parse, at an address. -/
theorem parse8_some {K : Kont} {E : Env} {N : Nat} {σ : St} {s : ByteArray} {area n : Int} {ms} (hf : E.fn 8 = some Tryz.f8) (hN : 3 < N) (hu : E.und 9 = some .string) (hi : E.und 81 = some (.interface ms))
    (hnil : eqA E .eql 81 (.tmp 33) (.const .nilIface) (.v .nilIface) (.v .nilIface) = some (.b true)) (hc : ∀ b, 1 ≤ b → b < area → Cont E s b)
    (hfound : ∀ a : AFr, a.n = 49 → a.get 0 = .v (.string s) → a.get 5 = .i area → ∃ a', codeA K E N none body8 a σ = some (.ret, a', σ) ∧ a'.get 2 = .i area ∧ a'.get 3 = .i n ∧ a'.get 4 = .i 0 ∧ a'.df = a.df)
    (h1 : 1 ≤ area) (h3 : area ≤ 3) : callBody K E N 8 [.v (.string s)] σ = some (.ret (.tup [.i area, .i n, .i 0]), σ) := by
  have hn : (frame0 Tryz.f8 [.v (.string s)]).n = 49 := rfl
  have h0 : (frame0 Tryz.f8 [.v (.string s)]).get 0 = .v (.string s) := rfl
  have hdf : (frame0 Tryz.f8 [.v (.string s)]).df = [] := rfl
  generalize hfr : frame0 Tryz.f8 [.v (.string s)] = a at hn h0 hdf
  obtain ⟨a', e, r1, r2, r3, r4⟩ := body8_hit (K := K) (N := N) (σ := σ) hu hi hnil hc hfound h3 (area - 1).toNat N ((((a.set 2 (.i 0)).set 3 (.i 0)).set 4 (.i 0)).set 5 (.i 1)) 1 (by omega) (by omega) (by omega) hn (by simp [get_set, h0]) (by simp [get_set])
  simp only [df_set] at r4
  have hcode : codeA K E N none (fAt Tryz.f8 []) a σ = some (.ret, a', σ) := by
    rw [← code_loop] at e
    simp only [body8, fAt, cAt, Tryz.f8] at e
    simp only [fAt, cAt, Tryz.f8]
    simp [code_region, code_seq, code_block, opsA, oneA, wantedA, opA, kindOf, readA, uponA, AFr.put, get_set, n_set, hn, opd, df_set, e]
  refine call_ret hf (show Tryz.f8.body = some (fAt Tryz.f8 []) from rfl) (by rw [hfr]; exact hcode) (by rw [r4, hdf]) ?_
  simp [resultA, resultsA, Tryz.f8, r1, r2, r3]

/-- Parse, at a text that is no address. -/
theorem parse8_none {K : Kont} {E : Env} {N : Nat} {σ : St} {s : ByteArray} {ms} (hf : E.fn 8 = some Tryz.f8) (hN : 3 < N) (hu : E.und 9 = some .string) (hi : E.und 81 = some (.interface ms))
    (hnil : eqA E .eql 81 (.tmp 33) (.const .nilIface) (.v .nilIface) (.v .nilIface) = some (.b true)) (hc : ∀ area, 1 ≤ area → area ≤ 3 → Cont E s area) :
    callBody K E N 8 [.v (.string s)] σ = some (.ret (.tup [.i 0, .i 0, .i 4]), σ) := by
  have hn : (frame0 Tryz.f8 [.v (.string s)]).n = 49 := rfl
  have h0 : (frame0 Tryz.f8 [.v (.string s)]).get 0 = .v (.string s) := rfl
  have hdf : (frame0 Tryz.f8 [.v (.string s)]).df = [] := rfl
  generalize hfr : frame0 Tryz.f8 [.v (.string s)] = a at hn h0 hdf
  obtain ⟨a', e, r1, r2⟩ := body8_loop (K := K) (N := N) (σ := σ) hu hi hnil hc 3 N ((((a.set 2 (.i 0)).set 3 (.i 0)).set 4 (.i 0)).set 5 (.i 1)) 1 (by omega) (by omega) (by omega) hn (by simp [get_set, h0]) (by simp [get_set])
  simp only [df_set] at r2
  have hcode : codeA K E N none (fAt Tryz.f8 []) a σ = some (.ret, ((a'.set 2 (.i 0)).set 3 (.i 0)).set 4 (.i 4), σ) := by
    rw [← code_loop] at e
    simp only [body8, fAt, cAt, Tryz.f8] at e
    simp only [fAt, cAt, Tryz.f8]
    simp [code_skip, code_region, code_seq, code_cond, code_block, code_exit, code_ret, opsA, oneA, wantedA, opA, kindOf, readA, uponA, AFr.put, get_set, n_set, hn, opd, df_set, e, r1]
  refine call_ret hf (show Tryz.f8.body = some (fAt Tryz.f8 []) from rfl) (by rw [hfr]; exact hcode) (by rw [df_set, df_set, df_set, r2, hdf]) ?_
  simp [resultA, resultsA, Tryz.f8, get_set]
end Go.Proofs.YtfmbpdacdopkgaaGreatDoor
