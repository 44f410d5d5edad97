/- The law ImageDiffs, evaluated. Conditions: two images of 192 numbers. -/
import Derived.Test.YtfmbpdacdopkgaaGreatDoorImgM7
namespace Go.Proofs.YtfmbpdacdopkgaaGreatDoor
set_option maxRecDepth 100000
open Go Go.Ai
open Go.RowKit (Below)

theorem setP_dif (cs : List Int) (k : Nat) (v : Int) : setP cs (((k / 64 + 1 : Nat) : Int), ((k % 64 : Nat) : Int), v) = cs.set k v := by
  unfold setP
  simp only [Int.toNat_natCast]
  congr 1
  omega
theorem set_dif {ca cb : List Int} (hca : ca.length = 192) : ∀ k, k ≤ 192 → ∀ j, j < 192 → (setAll ca (dif ca cb k)).getD j 0 = if j < k then cb.getD j 0 else ca.getD j 0
  | 0, _, j, _ => by simp [dif, setAll]
  | k + 1, hk, j, hj => by
    have ih := set_dif (cb := cb) hca k (by omega) j hj
    simp only [dif]
    split
    · rename_i he
      rw [List.append_nil, ih]
      by_cases hjk : j < k
      · rw [if_pos hjk, if_pos (by omega)]
      · rw [if_neg hjk]
        by_cases hjk' : j < k + 1
        · rw [if_pos hjk', show j = k by omega]; exact he
        · rw [if_neg hjk']
    · have hl : (setAll ca (dif ca cb k)).length = 192 := by rw [setAll_len, hca]
      have : setAll ca (dif ca cb k ++ [(((k / 64 + 1 : Nat) : Int), ((k % 64 : Nat) : Int), cb.getD k 0)]) = (setAll ca (dif ca cb k)).set k (cb.getD k 0) := by
        rw [← setP_dif]; simp only [setAll, List.foldl_append, List.foldl_cons, List.foldl_nil]
      rw [this]
      have hj1 : j < ((setAll ca (dif ca cb k)).set k (cb.getD k 0)).length := by simp [hl]; omega
      rw [getD_lt (by omega)] at ih
      rw [getD_lt hj1, List.getElem_set]
      by_cases hjk : k = j
      · subst hjk; rw [if_pos rfl, if_pos (by omega)]
      · rw [if_neg hjk, ih]
        by_cases hjk' : j < k
        · rw [if_pos hjk', if_pos (by omega)]
        · rw [if_neg hjk', if_neg (by omega)]
theorem set_dif_all {ca cb : List Int} (hca : ca.length = 192) (hcb : cb.length = 192) : setAll ca (dif ca cb 192) = cb := by
  apply List.ext_getElem
  · rw [setAll_len, hca, hcb]
  · intro j h1 h2
    have := set_dif (cb := cb) hca 192 (Nat.le_refl _) j (by omega)
    rwa [getD_lt h1, if_pos (by omega), getD_lt h2] at this
theorem dif_ok {ca cb : List Int} (hcb : cb.length = 192) (hv : cb.all isV = true) : ∀ k, k ≤ 192 → (dif ca cb k).all okP3 = true
  | 0, _ => rfl
  | k + 1, hk => by
    have ih := dif_ok (ca := ca) hcb hv k (by omega)
    simp only [dif, List.all_append, ih, Bool.true_and]
    split
    · rfl
    · have h1 : isP ((k / 64 + 1 : Nat) : Int) ((k % 64 : Nat) : Int) = true := by simp [isP]; omega
      have h2 := (all_iff hcb).1 hv k (by omega)
      simp only [List.all_cons, List.all_nil, Bool.and_true, okP3, okP, h1, h2]

theorem law5 {n N : Nat} (hN : 200 < N) {ca cb : List Int} (hca : ca.length = 192) (hcb : cb.length = 192) :
    ∃ σ', (evalK (EL L3) N (n + 5)).call 5 [.agg (ints ca), .agg (ints cb)] start = some (.ret (.b true), σ') := by
  have hfn : (EL L3).fn 5 = some Tryz.f5 := fnL Tryz.func5 rfl
  have f23 : (EL L3).fn 23 = some Tryz.f23 := fnL Tryz.func23 rfl
  have f24 : (EL L3).fn 24 = some Tryz.f24 := fnL Tryz.func24 rfl
  have f25 : (EL L3).fn 25 = some Tryz.f25 := fnL Tryz.func25 rfl
  have f26 : (EL L3).fn 26 = some Tryz.f26 := fnL Tryz.func26 rfl
  have q23 : sumOf L3 23 = none := rfl
  have q24 : sumOf L3 24 = none := rfl
  have q25 : sumOf L3 25 = none := rfl
  have q26 : sumOf L3 26 = none := rfl
  have q12 : sumOf L3 12 = some S12 := rfl
  have q17 : sumOf L3 17 = some S17 := rfl
  have s12 : S12 [] = some (.b true) := rfl
  have hn : (frame0 Tryz.f5 [.agg (ints ca), .agg (ints cb)]).n = 60 := rfl
  have g0 : (frame0 Tryz.f5 [.agg (ints ca), .agg (ints cb)]).get 0 = .agg (ints ca) := rfl
  have g1 : (frame0 Tryz.f5 [.agg (ints ca), .agg (ints cb)]).get 1 = .agg (ints cb) := rfl
  have hd : (frame0 Tryz.f5 [.agg (ints ca), .agg (ints cb)]).df = [] := rfl
  generalize hfr : frame0 Tryz.f5 [.agg (ints ca), .agg (ints cb)] = a at hn g0 g1 hd
  have hbx : ∀ (t : Tmp) (cs : List Int), cs.length = 192 → ∀ (b : AFr) (o : Oper), o.op = .box 37 (.tmp t) → b.get t = .agg (ints cs) → allocA (EL L3) b o = some (.cells (ints cs) 0 0, fun n => .ptr n 0 0 192) := by
    intro t cs hl b o ho hb
    simp [allocA, ho, opd, hb, AV.cells?, ints_len, hl]
  have hbx0 := hbx 0 ca hca
  have hbx1 := hbx 1 cb hcb
  have hst : start.next = 0 := rfl
  have m0 : ((start.add (.cells (ints ca) 0 0)).add (.cells (ints cb) 0 0)).get 0 = some (.cells (ints ca) 0 0) := by
    rw [get_sadd, if_neg (by rw [next_add, hst]; omega), get_sadd, if_pos hst]
  have m1 : ((start.add (.cells (ints ca) 0 0)).add (.cells (ints cb) 0 0)).get 1 = some (.cells (ints cb) 0 0) := by
    rw [get_sadd, if_pos (by rw [next_add, hst])]
  have nA : ((start.add (.cells (ints ca) 0 0)).add (.cells (ints cb) 0 0)).next = 2 := by rw [next_add, next_add, hst]
  have eA : ∃ aA, codeA (evalK (EL L3) N (n + 4)) (EL L3) N none (fAt Tryz.f5 [0]) a start = some (.normal, aA, (start.add (.cells (ints ca) 0 0)).add (.cells (ints cb) 0 0)) ∧ aA.n = 60 ∧ aA.df = [] ∧ aA.get 2 = .ptr 0 0 0 192 ∧ aA.get 3 = .ptr 1 0 0 192 := by
    simp only [fAt, cAt, Tryz.f5]
    simp [code_region, opsA, oneA, wantedA, opA, kindOf, readA, uponA, AFr.put, get_set, n_set, df_set, opd, hn, hd, g0, g1, hbx0, hbx1, next_add]
  generalize (start.add (.cells (ints ca) 0 0)).add (.cells (ints cb) 0 0) = σA at m0 m1 nA eA
  obtain ⟨aA, eA, nAA, dA, a2, a3⟩ := eA
  obtain ⟨y, σB, c23, hgB, kB⟩ := call23 (n := n) (L := L3) rfl rfl rfl rfl (N := N) (by omega) hca hcb σA
  rw [nA] at hgB kB
  have e17a := S17_eq hca
  have e17b := S17_eq hcb
  have l0 := ld37 (L := L3) m0 hca
  have l1 := ld37 (L := L3) m1 hcb
  have mB0 := (kB.same 0 (by omega)).trans m0
  have mB1 := (kB.same 1 (by omega)).trans m1
  have lB0 := ld37 (L := L3) mB0 hca
  have lB1 := ld37 (L := L3) mB1 hcb
  have eB : ∃ aB, codeA (evalK (EL L3) N (n + 4)) (EL L3) N none (fAt Tryz.f5 [1, 0]) aA σA = some (.normal, aB, σB) ∧ aB.n = 60 ∧ aB.df = [] ∧ aB.get 2 = .ptr 0 0 0 192 ∧ aB.get 3 = .ptr 1 0 0 192 ∧ aB.get 5 = y ∧ aB.get 6 = .i (if ca.all isV && cb.all isV then 0 else 2) := by
    simp only [fAt, cAt, Tryz.f5]
    simp only [Bool.and_eq_true] at c23 ⊢
    simp [code_region, opsA, oneA, wantedA, opA, kindOf, readA, uponA, writeA, AFr.put, get_set, n_set, df_set, opd, callee?, callA, nAA, dA, a2, a3, l0, l1, sum_eq, q23, f23, c23]
  obtain ⟨aB, eB, nB, dB, b2, b3, b5, b6⟩ := eB
  have eC : ∃ aC, codeA (evalK (EL L3) N (n + 4)) (EL L3) N none (fAt Tryz.f5 [1, 1, 0, 0]) aB σB = some (.normal, aC, σB) ∧ aC.n = 60 ∧ aC.df = [] ∧ aC.get 2 = .ptr 0 0 0 192 ∧ aC.get 3 = .ptr 1 0 0 192 ∧ aC.get 5 = y ∧ aC.get 6 = .i (if ca.all isV && cb.all isV then 0 else 2) ∧ aC.get 22 = .b (!(ca.all isV && cb.all isV)) := by
    simp only [fAt, cAt, Tryz.f5]
    cases hb1 : ca.all isV <;> cases hb2 : cb.all isV <;> rw [hb1] at e17a <;> rw [hb2] at e17b <;> rw [hb1, hb2] at b6 <;>
    simp at b6 <;>
    simp [code_region, opsA, oneA, wantedA, opA, kindOf, readA, uponA, writeA, AFr.put, get_set, n_set, df_set, opd, callee?, callA, un_not, nB, dB, b2, b3, b5, b6, lB0, lB1, sum_eq, q17, e17a, e17b]
  obtain ⟨aC, eC, nC, dC, c2, c3, c5, c6, c22⟩ := eC
  cases hok : (ca.all isV && cb.all isV) with
  | false =>
    rw [hok] at c6 c22 hgB
    simp at c6 hgB
    have hlen := hgB.slAt.len (E := EL L3) (t := 55) (el := 79) Tryz.underlying55
    have eD : ∃ aD, codeA (evalK (EL L3) N (n + 4)) (EL L3) N none (fAt Tryz.f5 [1, 1, 0, 1]) aC σB = some (.ret, aD, σB) ∧ aD.df = [] ∧ aD.get 4 = .b true := by
      simp only [fAt, cAt, Tryz.f5]
      simp at hlen
      simp [code_region, code_seq, code_cond, code_ret, opsA, oneA, wantedA, opA, kindOf, readA, uponA, writeA, AFr.put, get_set, n_set, df_set, opd, callee?, callA, eq_int, nC, dC, c5, c6, c22, hlen, sum_eq, q12, s12]
    obtain ⟨aD, eD, dD, d4⟩ := eD
    exact ⟨σB, call_ret (x := .b true) hfn (show Tryz.f5.body = some (fAt Tryz.f5 []) from rfl) (by rw [hfr]; exact seq_n eA (seq_n eB (seq_ret (seq_n eC eD)))) dD (by simp [resultA, resultsA, Tryz.f5, d4])⟩
  | true =>
    rw [hok] at c6 c22 hgB
    simp at c6 hgB
    have hva : ca.all isV = true := by simp at hok; simpa using hok.1
    have hvb : cb.all isV = true := by simp at hok; simpa using hok.2
    have eD : codeA (evalK (EL L3) N (n + 4)) (EL L3) N none (fAt Tryz.f5 [1, 1, 0, 1]) aC σB = some (.normal, aC, σB) := by
      simp only [fAt, cAt, Tryz.f5]
      simp [code_skip, code_cond, opd, c22]
    have hdl := dif_len ca cb 192
    have keepY : ∀ σ, Keep σB.next σB σ → SlAt σ 3 y (pcs (dif ca cb 192)) := fun σ hk => (hgB.keep hk.le fun o _ h => hk.same o h).slAt
    obtain ⟨σC, c24, kC⟩ := call24 (n := n + 1) (L := L3) rfl rfl rfl rfl rfl (N := N) hca keepY (by omega) (by omega)
    rw [hva, dif_ok hcb hvb 192 (Nat.le_refl _), set_dif_all hca hcb] at c24
    simp only [Bool.and_self, if_true] at c24
    have hle := kB.le
    rw [nA] at hle
    have mC0 := (kC.same 0 (by omega)).trans mB0
    have mC1 := (kC.same 1 (by omega)).trans mB1
    have hst37 := st37 (L := L3) (σ := σC.add (.cells (ints zimg) 0 0)) (o := σC.next) (cs := cb) (St.get_add_same _ _) rep_len hcb
    have eE : ∃ aE, codeA (evalK (EL L3) N (n + 4)) (EL L3) N none (fAt Tryz.f5 [1, 1, 1, 0]) aC σB = some (.normal, aE, (σC.add (.cells (ints zimg) 0 0)).set σC.next (.cells (ints cb) 0 0)) ∧ aE.n = 60 ∧ aE.df = [] ∧ aE.get 2 = .ptr 0 0 0 192 ∧ aE.get 3 = .ptr 1 0 0 192 ∧ aE.get 5 = y ∧ aE.get 6 = .i 0 ∧ aE.get 7 = .ptr σC.next 0 0 192 ∧ aE.get 8 = .i 0 := by
      simp only [fAt, cAt, Tryz.f5]
      simp [code_region, opsA, oneA, wantedA, opA, kindOf, readA, uponA, writeA, AFr.put, get_set, n_set, df_set, opd, callee?, callA, nC, dC, c2, c3, c5, c6, lB0, sum_eq, q24, f24, c24, al37, hst37]
    obtain ⟨aE, eE, nE, dE, k2, k3, k5, k6, k7, k8⟩ := eE
    have nE' : ((σC.add (.cells (ints zimg) 0 0)).set σC.next (.cells (ints cb) 0 0)).next = σC.next + 1 := rfl
    have kE : Keep σB.next σB ((σC.add (.cells (ints zimg) 0 0)).set σC.next (.cells (ints cb) 0 0)) :=
      (kC.trans (Keep.add (b := σB.next) _ kC.le) (Nat.le_refl _)).trans (Keep.set (b := σB.next) _ kC.le) (Nat.le_refl _)
    have m7 : ((σC.add (.cells (ints zimg) 0 0)).set σC.next (.cells (ints cb) 0 0)).get σC.next = some (.cells (ints cb) 0 0) := by rw [get_sset, if_pos rfl]
    generalize (σC.add (.cells (ints zimg) 0 0)).set σC.next (.cells (ints cb) 0 0) = σE at eE nE' kE m7
    have mE0 := (kE.same 0 (by omega)).trans mB0
    have mE1 := (kE.same 1 (by omega)).trans mB1
    obtain ⟨z, σF, c26, hgF, kF⟩ := call26 (n := n + 3) (L := L3) rfl (N := N) (by omega) hca hcb σE
    have kCle := kC.le
    have kBF : Keep σB.next σB σF := kE.trans kF (by omega)
    have c25 := call25 (n := n + 3) (L := L3) (N := N) (keepY σF kBF) hgF.slAt (by omega) (by omega)
    have mF1 := (kBF.same 1 (by omega)).trans mB1
    have mF7 := (kF.same σC.next (by omega)).trans m7
    have lE0 := ld37 (L := L3) mE0 hca
    have lE1 := ld37 (L := L3) mE1 hcb
    have lF1 := ld37 (L := L3) mF1 hcb
    have lF7 := ld37 (L := L3) mF7 hcb
    have heq := fun xo yo => (eq37 (L := L3) hcb xo yo).1
    have eG : ∃ aG, codeA (evalK (EL L3) N (n + 4)) (EL L3) N none (fAt Tryz.f5 [1, 1, 1, 1]) aE σE = some (.ret, aG, σF) ∧ aG.df = [] ∧ aG.get 4 = .b true := by
      simp only [fAt, cAt, Tryz.f5]
      simp [code_region, code_seq, code_ret, opsA, oneA, wantedA, opA, kindOf, readA, uponA, writeA, AFr.put, get_set, n_set, df_set, opd, callee?, callA, eq_int, nE, dE, k2, k3, k5, k6, k7, k8, lE0, lE1, lF1, lF7, sum_eq, q12, s12, q25, q26, f25, f26, c25, c26, heq]
    obtain ⟨aG, eG, dG, g4⟩ := eG
    exact ⟨σF, call_ret (x := .b true) hfn (show Tryz.f5.body = some (fAt Tryz.f5 []) from rfl) (by rw [hfr]; exact seq_n eA (seq_n eB (seq_n (seq_n eC eD) (seq_n eE eG)))) dG (by simp [resultA, resultsA, Tryz.f5, g4])⟩
end Go.Proofs.YtfmbpdacdopkgaaGreatDoor
