/- The reference Parse, at a text that is no address. Conditions: what Text hands back. -/
import Derived.Test.YtfmbpdacdopkgaaGreatDoorImgA
import Derived.Test.YtfmbpdacdopkgaaGreatDoorAiSym
namespace Go.Proofs.YtfmbpdacdopkgaaGreatDoor
open Go Go.Ai

noncomputable def inner9 : Code := fAt Tryz.f9 [1, 0, 1, 0, 0, 1, 0, 0, 1, 0, 0]

theorem inner9_step {K : Kont} {E : Env} {N : Nat} {σ : St} {a : AFr} {s u : ByteArray} {area slot : Int} (hn : a.n = 22) (h0 : a.get 0 = .v (.string s)) (h5 : a.get 5 = .i area) (h6 : a.get 6 = .i slot) (hl : slot < 64) (h1 : 0 ≤ slot)
    {S : List AV → Option AV} (hE : E.sum 13 = some S) (hS : S [.i area, .i slot] = some (.v (.string u))) (hne : (s.toList == u.toList) = false) :
    ∃ a', codeA K E N none inner9 a σ = some (.normal, a', σ) ∧ a'.n = 22 ∧ a'.get 0 = .v (.string s) ∧ a'.get 5 = .i area ∧ a'.get 6 = .i (slot + 1) ∧ a'.df = a.df := by
  have hw : IntKind.i64.wrap (slot + 1) = slot + 1 := by
    unfold IntKind.wrap IntKind.signed IntKind.bits
    simp
    omega
  simp only [inner9, fAt, cAt, Tryz.f9]
  simp [codeA, opsA, oneA, wantedA, opA, kindOf, readA, uponA, AFr.put, get_set, n_set, hn, opd, h0, h5, h6, cmp_lss, hl, df_set, writeA, callee?, callA, hE, hS, eq_str, hne, ar_add, hw]

theorem inner9_exit {K : Kont} {E : Env} {N : Nat} {σ : St} {a : AFr} {s : ByteArray} {area : Int} (hn : a.n = 22) (h0 : a.get 0 = .v (.string s)) (h5 : a.get 5 = .i area) (h6 : a.get 6 = .i 64) :
    ∃ a', codeA K E N none inner9 a σ = some (.exit 2, a', σ) ∧ a'.n = 22 ∧ a'.get 0 = .v (.string s) ∧ a'.get 5 = .i area ∧ a'.df = a.df := by
  simp only [inner9, fAt, cAt, Tryz.f9]
  simp [codeA, opsA, oneA, wantedA, opA, kindOf, readA, uponA, AFr.put, get_set, n_set, hn, opd, h0, h5, h6, cmp_lss, df_set]

theorem inner9_loop {K : Kont} {E : Env} {N : Nat} {σ : St} {s : ByteArray} {area : Int} {txt : Int → ByteArray} {S : List AV → Option AV} (hE : E.sum 13 = some S)
    (hS : ∀ j, 0 ≤ j → j < 64 → S [.i area, .i j] = some (.v (.string (txt j))) ∧ (s.toList == (txt j).toList) = false) :
    ∀ (m fuel : Nat) (a : AFr) (slot : Int), slot = 64 - m → 0 ≤ slot → m < fuel → a.n = 22 → a.get 0 = .v (.string s) → a.get 5 = .i area → a.get 6 = .i slot →
      ∃ a', iterA (codeA K E N none inner9) fuel a σ = some (.exit 2, a', σ) ∧ a'.n = 22 ∧ a'.get 0 = .v (.string s) ∧ a'.get 5 = .i area ∧ a'.df = a.df
  | 0, fuel + 1, a, slot, hs, h0, hf, hn, g0, g5, g6 => by
    obtain rfl : slot = 64 := by omega
    obtain ⟨a', e, r⟩ := inner9_exit (K := K) (E := E) (N := N) (σ := σ) hn g0 g5 g6
    exact ⟨a', by simp only [iterA, e], r⟩
  | m + 1, fuel + 1, a, slot, hs, h0, hf, hn, g0, g5, g6 => by
    obtain ⟨s1, s2⟩ := hS slot h0 (by omega)
    obtain ⟨a₁, e, k1, k2, k3, k4, k5⟩ := inner9_step (K := K) (E := E) (N := N) (σ := σ) hn g0 g5 g6 (by omega) h0 hE s1 s2
    obtain ⟨a', e', r1, r2, r3, r4⟩ := inner9_loop (K := K) (N := N) (σ := σ) hE hS m fuel a₁ (slot + 1) (by omega) (by omega) (by omega) k1 k2 k3 k4
    exact ⟨a', by simp only [iterA, e, e'], r1, r2, r3, r4.trans k5⟩
  | _, 0, _, _, _, _, hf, _, _, _, _ => by omega

noncomputable def outer9 : Code := fAt Tryz.f9 [1, 0, 1, 0, 0]

theorem outer9_step {K : Kont} {E : Env} {N : Nat} {σ : St} {a : AFr} {s : ByteArray} {area : Int} (hN : 64 < N) (hn : a.n = 22) (h0 : a.get 0 = .v (.string s)) (h5 : a.get 5 = .i area) (hl : area ≤ 3) (h1 : 0 ≤ area)
    {txt : Int → ByteArray} {S : List AV → Option AV} (hE : E.sum 13 = some S) (hS : ∀ j, 0 ≤ j → j < 64 → S [.i area, .i j] = some (.v (.string (txt j))) ∧ (s.toList == (txt j).toList) = false) :
    ∃ a', codeA K E N none outer9 a σ = some (.normal, a', σ) ∧ a'.n = 22 ∧ a'.get 0 = .v (.string s) ∧ a'.get 5 = .i (area + 1) ∧ a'.df = a.df := by
  have hw : IntKind.i64.wrap (area + 1) = area + 1 := by
    unfold IntKind.wrap IntKind.signed IntKind.bits
    simp
    omega
  have hloop := inner9_loop (K := K) (N := N) (σ := σ) hE hS 64 N
  obtain ⟨a', e, r1, r2, r3, r4⟩ := hloop (((a.set 7 (.i area)).set 8 (.b true)).set 6 (.i 0)) 0 (by omega) (by omega) hN hn (by simp [get_set, h0]) (by simp [get_set, h5]) (by simp [get_set])
  rw [← code_loop] at e
  simp only [inner9, fAt, cAt, Tryz.f9] at e
  simp only [outer9, fAt, cAt, Tryz.f9]
  simp [code_skip, code_region, code_seq, code_cond, code_block, code_exit, code_ret, opsA, oneA, wantedA, opA, kindOf, readA, uponA, AFr.put, get_set, n_set, hn, opd, h0, h5, cmp_leq, hl, df_set, e, r1, r2, r3, ar_add, hw]
  simpa [df_set] using r4

theorem outer9_exit {K : Kont} {E : Env} {N : Nat} {σ : St} {a : AFr} (hn : a.n = 22) (h5 : a.get 5 = .i 4) :
    ∃ a', codeA K E N none outer9 a σ = some (.exit 0, a', σ) ∧ a'.n = 22 ∧ a'.df = a.df := by
  simp only [outer9, fAt, cAt, Tryz.f9]
  simp [code_skip, code_region, code_seq, code_cond, code_block, code_exit, code_ret, opsA, oneA, wantedA, opA, kindOf, readA, uponA, AFr.put, get_set, n_set, hn, opd, h5, cmp_leq, df_set]

theorem outer9_loop {K : Kont} {E : Env} {N : Nat} {σ : St} {s : ByteArray} (hN : 64 < N) {txt : Int → Int → ByteArray} {S : List AV → Option AV} (hE : E.sum 13 = some S)
    (hS : ∀ i j, 1 ≤ i → i ≤ 3 → 0 ≤ j → j < 64 → S [.i i, .i j] = some (.v (.string (txt i j))) ∧ (s.toList == (txt i j).toList) = false) :
    ∀ (m fuel : Nat) (a : AFr) (area : Int), area = 4 - m → 1 ≤ area → m < fuel → a.n = 22 → a.get 0 = .v (.string s) → a.get 5 = .i area →
      ∃ a', iterA (codeA K E N none outer9) fuel a σ = some (.exit 0, a', σ) ∧ a'.n = 22 ∧ a'.df = a.df
  | 0, fuel + 1, a, area, hs, h0, hf, hn, g0, g5 => by
    obtain rfl : area = 4 := by omega
    obtain ⟨a', e, r⟩ := outer9_exit (K := K) (E := E) (N := N) (σ := σ) hn g5
    exact ⟨a', by simp only [iterA, e], r⟩
  | m + 1, fuel + 1, a, area, hs, h0, hf, hn, g0, g5 => by
    obtain ⟨a₁, e, k1, k2, k3, k4⟩ := outer9_step (K := K) (σ := σ) hN hn g0 g5 (by omega) (by omega) hE (fun j => hS area j (by omega) (by omega))
    obtain ⟨a', e', r1, r2⟩ := outer9_loop (K := K) (σ := σ) hN hE hS m fuel a₁ (area + 1) (by omega) (by omega) (by omega) k1 k2 k3
    exact ⟨a', by simp only [iterA, e, e'], r1, r2.trans k4⟩
  | _, 0, _, _, _, _, hf, _, _, _ => by omega

/-- The reference's Parse, at a text that is no address. -/
theorem parse9_none {K : Kont} {E : Env} {N : Nat} {σ : St} {s : ByteArray} (hf : E.fn 9 = some Tryz.f9) (hN : 64 < N) {txt : Int → Int → ByteArray} {S : List AV → Option AV} (hE : E.sum 13 = some S)
    (hS : ∀ i j, 1 ≤ i → i ≤ 3 → 0 ≤ j → j < 64 → S [.i i, .i j] = some (.v (.string (txt i j))) ∧ (s.toList == (txt i j).toList) = false) :
    callBody K E N 9 [.v (.string s)] σ = some (.ret (.tup [.i 0, .i 0, .b false]), σ) := by
  have hn : (frame0 Tryz.f9 [.v (.string s)]).n = 22 := rfl
  have h0 : (frame0 Tryz.f9 [.v (.string s)]).get 0 = .v (.string s) := rfl
  have hdf : (frame0 Tryz.f9 [.v (.string s)]).df = [] := rfl
  generalize hfr : frame0 Tryz.f9 [.v (.string s)] = a at hn h0 hdf
  obtain ⟨a', e, r1, r2⟩ := outer9_loop (K := K) (σ := σ) hN hE hS 3 N ((((a.set 2 (.i 0)).set 3 (.i 0)).set 4 (.b false)).set 5 (.i 1)) 1 (by omega) (by omega) (by omega) hn (by simp [get_set, h0]) (by simp [get_set])
  simp only [df_set] at r2
  have hcode : codeA K E N none (fAt Tryz.f9 []) a σ = some (.ret, ((a'.set 2 (.i 0)).set 3 (.i 0)).set 4 (.b false), σ) := by
    rw [← code_loop] at e
    simp only [outer9, fAt, cAt, Tryz.f9] at e
    simp only [fAt, cAt, Tryz.f9]
    simp [code_skip, code_region, code_seq, code_cond, code_block, code_exit, code_ret, opsA, oneA, wantedA, opA, kindOf, readA, uponA, AFr.put, get_set, n_set, hn, opd, df_set, e, r1]
  refine call_ret hf (show Tryz.f9.body = some (fAt Tryz.f9 []) from rfl) (by rw [hfr]; exact hcode) (by rw [df_set, df_set, df_set, r2, hdf]) ?_
  simp [resultA, resultsA, Tryz.f9, get_set]

theorem inner9_found {K : Kont} {E : Env} {N : Nat} {σ : St} {a : AFr} {s u : ByteArray} {area slot : Int} (hn : a.n = 22) (h0 : a.get 0 = .v (.string s)) (h5 : a.get 5 = .i area) (h6 : a.get 6 = .i slot) (hl : slot < 64)
    {S : List AV → Option AV} (hE : E.sum 13 = some S) (hS : S [.i area, .i slot] = some (.v (.string u))) (hne : (s.toList == u.toList) = true) :
    ∃ a', codeA K E N none inner9 a σ = some (.ret, a', σ) ∧ a'.get 2 = .i area ∧ a'.get 3 = .i slot ∧ a'.get 4 = .b true ∧ a'.df = a.df := by
  simp only [inner9, fAt, cAt, Tryz.f9]
  simp [codeA, opsA, oneA, wantedA, opA, kindOf, readA, uponA, AFr.put, get_set, n_set, hn, opd, h0, h5, h6, cmp_lss, hl, df_set, writeA, callee?, callA, hE, hS, eq_str, hne]

theorem inner9_hit {K : Kont} {E : Env} {N : Nat} {σ : St} {s : ByteArray} {area n : Int} {txt : Int → ByteArray} {S : List AV → Option AV} (hE : E.sum 13 = some S) (hn64 : n < 64)
    (hS : ∀ j, 0 ≤ j → j < n → S [.i area, .i j] = some (.v (.string (txt j))) ∧ (s.toList == (txt j).toList) = false)
    (hf : S [.i area, .i n] = some (.v (.string (txt n))) ∧ (s.toList == (txt n).toList) = true) :
    ∀ (m fuel : Nat) (a : AFr) (slot : Int), slot = n - m → 0 ≤ slot → m < fuel → a.n = 22 → a.get 0 = .v (.string s) → a.get 5 = .i area → a.get 6 = .i slot →
      ∃ a', iterA (codeA K E N none inner9) fuel a σ = some (.ret, a', σ) ∧ a'.get 2 = .i area ∧ a'.get 3 = .i n ∧ a'.get 4 = .b true ∧ a'.df = a.df
  | 0, fuel + 1, a, slot, hs, h0, hfu, hn, g0, g5, g6 => by
    obtain rfl : slot = n := by omega
    obtain ⟨a', e, r⟩ := inner9_found (K := K) (E := E) (N := N) (σ := σ) hn g0 g5 g6 hn64 hE hf.1 hf.2
    exact ⟨a', by simp only [iterA, e], r⟩
  | m + 1, fuel + 1, a, slot, hs, h0, hfu, hn, g0, g5, g6 => by
    obtain ⟨s1, s2⟩ := hS slot h0 (by omega)
    obtain ⟨a₁, e, k1, k2, k3, k4, k5⟩ := inner9_step (K := K) (E := E) (N := N) (σ := σ) hn g0 g5 g6 (by omega) h0 hE s1 s2
    obtain ⟨a', e', r1, r2, r3, r4⟩ := inner9_hit (K := K) (N := N) (σ := σ) hE hn64 hS hf m fuel a₁ (slot + 1) (by omega) (by omega) (by omega) k1 k2 k3 k4
    exact ⟨a', by simp only [iterA, e, e'], r1, r2, r3, r4.trans k5⟩
  | _, 0, _, _, _, _, hfu, _, _, _, _ => by omega

theorem outer9_found {K : Kont} {E : Env} {N : Nat} {σ : St} {a : AFr} {s : ByteArray} {area n : Int} (hN : 64 < N) (hn : a.n = 22) (h0 : a.get 0 = .v (.string s)) (h5 : a.get 5 = .i area) (hl : area ≤ 3) (hn0 : 0 ≤ n) (hn64 : n < 64)
    {txt : Int → ByteArray} {S : List AV → Option AV} (hE : E.sum 13 = some S) (hS : ∀ j, 0 ≤ j → j < n → S [.i area, .i j] = some (.v (.string (txt j))) ∧ (s.toList == (txt j).toList) = false)
    (hf : S [.i area, .i n] = some (.v (.string (txt n))) ∧ (s.toList == (txt n).toList) = true) :
    ∃ a', codeA K E N none outer9 a σ = some (.ret, a', σ) ∧ a'.get 2 = .i area ∧ a'.get 3 = .i n ∧ a'.get 4 = .b true ∧ a'.df = a.df := by
  have hloop := inner9_hit (K := K) (N := N) (σ := σ) hE hn64 hS hf n.toNat N
  obtain ⟨a', e, r1, r2, r3, r4⟩ := hloop (((a.set 7 (.i area)).set 8 (.b true)).set 6 (.i 0)) 0 (by omega) (by omega) (by omega) hn (by simp [get_set, h0]) (by simp [get_set, h5]) (by simp [get_set])
  rw [← code_loop] at e
  simp only [inner9, fAt, cAt, Tryz.f9] at e
  simp only [outer9, fAt, cAt, Tryz.f9]
  simp [code_skip, code_region, code_seq, code_cond, code_block, opsA, oneA, wantedA, opA, kindOf, readA, uponA, AFr.put, get_set, n_set, hn, opd, h5, cmp_leq, hl, e, r1, r2, r3]
  simpa [df_set] using r4

theorem outer9_hit {K : Kont} {E : Env} {N : Nat} {σ : St} {s : ByteArray} {area n : Int} (hN : 64 < N) (h3 : area ≤ 3) (hn0 : 0 ≤ n) (hn64 : n < 64) {txt : Int → Int → ByteArray} {S : List AV → Option AV} (hE : E.sum 13 = some S)
    (hS : ∀ i j, 1 ≤ i → i ≤ 3 → 0 ≤ j → j < 64 → S [.i i, .i j] = some (.v (.string (txt i j)))) (hd : ∀ i j, 1 ≤ i → i ≤ 3 → 0 ≤ j → j < 64 → ¬ (i = area ∧ j = n) → (s.toList == (txt i j).toList) = false) (hs : (s.toList == (txt area n).toList) = true) :
    ∀ (m fuel : Nat) (a : AFr) (b : Int), b = area - m → 1 ≤ b → m < fuel → a.n = 22 → a.get 0 = .v (.string s) → a.get 5 = .i b →
      ∃ a', iterA (codeA K E N none outer9) fuel a σ = some (.ret, a', σ) ∧ a'.get 2 = .i area ∧ a'.get 3 = .i n ∧ a'.get 4 = .b true ∧ a'.df = a.df
  | 0, fuel + 1, a, b, hb, h0, hf, hn, g0, g5 => by
    obtain rfl : b = area := by omega
    obtain ⟨a', e, r⟩ := outer9_found (K := K) (E := E) (N := N) (σ := σ) hN hn g0 g5 h3 hn0 hn64 hE (txt := txt b) (fun j j0 j1 => ⟨hS b j h0 h3 j0 (by omega), hd b j h0 h3 j0 (by omega) (by omega)⟩) ⟨hS b n h0 h3 hn0 hn64, hs⟩
    exact ⟨a', by simp only [iterA, e], r⟩
  | m + 1, fuel + 1, a, b, hb, h0, hf, hn, g0, g5 => by
    obtain ⟨a₁, e, k1, k2, k3, k4⟩ := outer9_step (K := K) (σ := σ) hN hn g0 g5 (by omega) (by omega) hE (fun j j0 j1 => ⟨hS b j h0 (by omega) j0 j1, hd b j h0 (by omega) j0 j1 (by omega)⟩)
    obtain ⟨a', e', r1, r2, r3, r4⟩ := outer9_hit (K := K) (σ := σ) hN h3 hn0 hn64 hE hS hd hs m fuel a₁ (b + 1) (by omega) (by omega) (by omega) k1 k2 k3
    exact ⟨a', by simp only [iterA, e, e'], r1, r2, r3, r4.trans k4⟩
  | _, 0, _, _, _, _, hf, _, _, _ => by omega

/-- The reference's Parse, at an address. -/
theorem parse9_some {K : Kont} {E : Env} {N : Nat} {σ : St} {s : ByteArray} {area n : Int} (hf : E.fn 9 = some Tryz.f9) (hN : 64 < N) (h1 : 1 ≤ area) (h3 : area ≤ 3) (hn0 : 0 ≤ n) (hn64 : n < 64) {txt : Int → Int → ByteArray} {S : List AV → Option AV} (hE : E.sum 13 = some S)
    (hS : ∀ i j, 1 ≤ i → i ≤ 3 → 0 ≤ j → j < 64 → S [.i i, .i j] = some (.v (.string (txt i j)))) (hd : ∀ i j, 1 ≤ i → i ≤ 3 → 0 ≤ j → j < 64 → ¬ (i = area ∧ j = n) → (s.toList == (txt i j).toList) = false) (hs : (s.toList == (txt area n).toList) = true) :
    callBody K E N 9 [.v (.string s)] σ = some (.ret (.tup [.i area, .i n, .b true]), σ) := by
  have hn : (frame0 Tryz.f9 [.v (.string s)]).n = 22 := rfl
  have h0 : (frame0 Tryz.f9 [.v (.string s)]).get 0 = .v (.string s) := rfl
  have hdf : (frame0 Tryz.f9 [.v (.string s)]).df = [] := rfl
  generalize hfr : frame0 Tryz.f9 [.v (.string s)] = a at hn h0 hdf
  obtain ⟨a', e, r1, r2, r3, r4⟩ := outer9_hit (K := K) (σ := σ) hN h3 hn0 hn64 hE hS hd hs (area - 1).toNat N ((((a.set 2 (.i 0)).set 3 (.i 0)).set 4 (.b false)).set 5 (.i 1)) 1 (by omega) (by omega) (by omega) hn (by simp [get_set, h0]) (by simp [get_set])
  simp only [df_set] at r4
  have hcode : codeA K E N none (fAt Tryz.f9 []) a σ = some (.ret, a', σ) := by
    rw [← code_loop] at e
    simp only [outer9, fAt, cAt, Tryz.f9] at e
    simp only [fAt, cAt, Tryz.f9]
    simp [code_region, code_seq, code_block, opsA, oneA, wantedA, opA, kindOf, readA, uponA, AFr.put, get_set, n_set, hn, opd, df_set, e]
  refine call_ret hf (show Tryz.f9.body = some (fAt Tryz.f9 []) from rfl) (by rw [hfr]; exact hcode) (by rw [r4, hdf]) ?_
  simp [resultA, resultsA, Tryz.f9, r1, r2, r3]
end Go.Proofs.YtfmbpdacdopkgaaGreatDoor
