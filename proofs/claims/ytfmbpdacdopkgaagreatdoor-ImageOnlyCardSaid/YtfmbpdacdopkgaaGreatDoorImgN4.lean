/- The law ImageScans, evaluated. Conditions: an image of 192 numbers; slices of links and numbers, of any length that memory bears. -/
import Derived.Test.YtfmbpdacdopkgaaGreatDoorImgS4
import Derived.Test.YtfmbpdacdopkgaaGreatDoorImgO2
namespace Go.Proofs.YtfmbpdacdopkgaaGreatDoor
set_option maxRecDepth 100000
open Go Go.Ai
open Go.RowKit (Below)

theorem fa40s {L : SumL} {o : Nat} : fieldAddrA (EL L) 40 (.ptr o 0 0 2) 0 = some (.ptr o 0 0 1) ∧ fieldAddrA (EL L) 40 (.ptr o 0 0 2) 1 = some (.ptr o 1 0 1) := by
  constructor <;> simp [fieldAddrA, und_eq, Tryz.underlying40, z3, z38]
theorem agg38 (L : SumL) : (EL L).agg 38 = some false := by simp [Env.agg, und_eq, Tryz.underlying38]
/-- What the boxes of the arguments hold. -/
structure Bx (cs : List Int) (u : Int) (w : AV) (σ : St) : Prop where
  m0 : σ.get 0 = some (.cells (ints cs) 0 0)
  m1 : σ.get 1 = some (.cells [.i u, w] 0 0)
theorem Bx.ld {L : SumL} {cs : List Int} (hcs : cs.length = 192) {u : Int} {w : AV} {σ : St} (h : Bx cs u w σ) : loadA (EL L) σ 37 (.ptr 0 0 0 192) = some (.agg (ints cs)) ∧ loadA (EL L) σ 3 (.ptr 1 0 0 1) = some (.i u) ∧ loadA (EL L) σ 38 (.ptr 1 1 0 1) = some w :=
  ⟨ld37 h.m0 hcs, load_one (agg3 L) (by simp [rdCells, h.m1]), load_one (agg38 L) (by simp [rdCells, h.m1])⟩
theorem Bx.keep {cs : List Int} {u : Int} {w : AV} {σ σ' : St} (h : Bx cs u w σ) (hk : ∀ o, o < 2 → σ'.get o = σ.get o) : Bx cs u w σ' := ⟨(hk 0 (by omega)).trans h.m0, (hk 1 (by omega)).trans h.m1⟩

structure F4 (x1 : AV) (q : Nat) (e1 e2 : Int) (y : AV) (a : AFr) : Prop where
  n : a.n = 117
  d : a.df = []
  g0 : a.get 0 = x1
  g4 : a.get 4 = .ptr 0 0 0 192
  g5 : a.get 5 = .ptr 1 0 0 2
  g7 : a.get 7 = y
  g8 : a.get 8 = .i e1
  g9 : a.get 9 = .ptr q 0 0 192
  g10 : a.get 10 = .i e2

set_option maxHeartbeats 1000000 in
theorem law4a {n N : Nat} {cs : List Int} (hcs : cs.length = 192) {l : List Lk} {c : List Int} {x1 w : AV} (h1 : Arg 6 x1 (lcs l)) (h2 : Arg 1 w (ones c)) (hl : l.length * 48 ≤ maxElems) (hc : c.length * 8 ≤ maxElems) (hN : 400 < N) (u : Int)
    {a : AFr} (hn : a.n = 117) (g0 : a.get 0 = x1) (g1 : a.get 1 = .agg (ints cs)) (g2 : a.get 2 = .agg [.i u, w]) (hd : a.df = []) :
    ∃ a1 σ1 a2 σ2 a3 σ3 q y b, codeA (evalK (EL L5) N (n + 4)) (EL L5) N none (fAt Tryz.f4 [0]) a start = some (.normal, a1, σ1) ∧ codeA (evalK (EL L5) N (n + 4)) (EL L5) N none (fAt Tryz.f4 [1, 0]) a1 σ1 = some (.normal, a2, σ2) ∧ codeA (evalK (EL L5) N (n + 4)) (EL L5) N none (fAt Tryz.f4 [1, 1, 0]) a2 σ2 = some (.normal, a3, σ3) ∧
      F4 x1 q (inE l cs c u) (inE l cs c u) y a3 ∧ Bx cs u w σ3 ∧ Own b σ3 y (inR l cs c u) ∧ σ3.get q = some (.cells (ints (outR l cs c u)) 0 0) ∧ 2 ≤ q ∧ q < σ3.next ∧ 2 ≤ b := by
  have hst : start.next = 0 := rfl
  have hbx := box37 (L := L5) 1 cs hcs
  have hbx2 : ∀ (b : AFr) (o : Oper), o.op = .box 40 (.tmp 2) → b.get 2 = .agg [.i u, w] → allocA (EL L5) b o = some (.cells [.i u, w] 0 0, fun n => .ptr n 0 0 2) := by
    intro b o ho hb
    simp [allocA, ho, opd, hb, AV.cells?]
  have bA : Bx cs u w ((start.add (.cells (ints cs) 0 0)).add (.cells [.i u, w] 0 0)) :=
    ⟨by rw [get_sadd, if_neg (by rw [next_add, hst]; omega), get_sadd, if_pos hst], by rw [get_sadd, if_pos (by rw [next_add, hst])]⟩
  have nA : ((start.add (.cells (ints cs) 0 0)).add (.cells [.i u, w] 0 0)).next = 2 := by rw [next_add, next_add, hst]
  obtain ⟨aA, eA, nAA, dA, a0, a4, a5⟩ : ∃ aA, codeA (evalK (EL L5) N (n + 4)) (EL L5) N none (fAt Tryz.f4 [0]) a start = some (.normal, aA, (start.add (.cells (ints cs) 0 0)).add (.cells [.i u, w] 0 0)) ∧ aA.n = 117 ∧ aA.df = [] ∧ aA.get 0 = x1 ∧ aA.get 4 = .ptr 0 0 0 192 ∧ aA.get 5 = .ptr 1 0 0 2 := by
    simp only [fAt, cAt, Tryz.f4]
    simp [code_region, opsA, oneA, wantedA, opA, kindOf, readA, uponA, AFr.put, get_set, n_set, df_set, opd, next_add, hn, hd, g0, g1, g2, hbx, hbx2]
  generalize (start.add (.cells (ints cs) 0 0)).add (.cells [.i u, w] 0 0) = σA at bA nA eA
  obtain ⟨k0, k1⟩ := fa40s (L := L5) (o := 1)
  -- region 1
  obtain ⟨y1, υ1, hap1, nυ1, oυ1, sυ1⟩ := copy74 (L := L5) (σ := σA) h1 hl
  obtain ⟨y2, υ2, hap2, hown2, nυ2, oυ2⟩ := copy38 (L := L5) (σ := υ1) (c := c) (x := w) (fun τ _ => h2 τ) hc
  have b1 : Bx cs u w υ1 := bA.keep fun o ho => oυ1 o (by omega)
  have b1' : Bx cs u w (υ1.add (.cells [] 0 0)) := b1.keep fun o ho => by rw [get_sadd, if_neg (by omega)]
  have b2 : Bx cs u w υ2 := b1.keep fun o ho => oυ2 o (by omega)
  obtain ⟨lmA, luA, lwA⟩ := bA.ld (L := L5) hcs
  obtain ⟨lm1, lu1, lw1⟩ := b1.ld (L := L5) hcs
  obtain ⟨lm1', lu1', lw1'⟩ := b1'.ld (L := L5) hcs
  obtain ⟨lm2, lu2, lw2⟩ := b2.ld (L := L5) hcs
  have hx1 : ∀ τ, Keep υ2.next υ2 τ → SlAt τ 6 y1 (lcs l) := fun τ hk => sυ1 τ ⟨by have := hk.le; omega, fun o ho => (hk.same o (by omega)).trans (oυ2 o ho)⟩
  have hx2 : ∀ τ, Keep υ2.next υ2 τ → SlAt τ 1 y2 (ones c) := fun τ hk => (hown2.keep hk.le fun o _ h => hk.same o h).slAt
  obtain ⟨y, σB, c14, hownB, kB⟩ := call14 (n := n) (L := L5) rfl rfl rfl rfl rfl rfl rfl rfl rfl rfl hN hcs u hx1 hx2
  have leB := kB.le
  have bB : Bx cs u w σB := b2.keep fun o ho => kB.same o (by omega)
  have f14 : (EL L5).fn 14 = some Tryz.f14 := fnL Tryz.func14 rfl
  have q14 : sumOf L5 14 = none := rfl
  rw [nA] at hap1 nυ1
  have nυ1 : υ1.next = 3 := nυ1
  rw [nυ1] at hap2 nυ2
  have nυ2 : υ2.next = 4 := nυ2
  obtain ⟨aB, eB, nB, dB, c0, c4, c5, c7, c8⟩ : ∃ aB, codeA (evalK (EL L5) N (n + 4)) (EL L5) N none (fAt Tryz.f4 [1, 0]) aA σA = some (.normal, aB, σB) ∧ aB.n = 117 ∧ aB.df = [] ∧ aB.get 0 = x1 ∧ aB.get 4 = .ptr 0 0 0 192 ∧ aB.get 5 = .ptr 1 0 0 2 ∧ aB.get 7 = y ∧ aB.get 8 = .i (inE l cs c u) := by
    simp only [fAt, cAt, Tryz.f4]
    simp [code_draw, oneA, wantedA, opA, kindOf, readA, uponA, writeA, AFr.put, get_set, n_set, df_set, opd, callee?, callA, regionA, dops, dopsGo, befOf, Region.binds, drawOk, nodupB, hasDefer, eager, drawA, dim, unord, sameIn, chk, beq_self, Nat.testBit, next_add, nAA, dA, a0, a4, a5, nA, k0, k1, lmA, luA, lwA, lm1, lu1, lw1, lw1', lm2, lu2, bs34e, bs38e, hap1, hap2, sum_eq, q14, f14, c14, nυ1, nυ2, show 4 ≤ σB.next by omega]
  -- region 2
  obtain ⟨y3, υ3, hap3, nυ3, oυ3, sυ3⟩ := copy74 (L := L5) (σ := σB) h1 hl
  obtain ⟨y4, υ4, hap4, hown4, nυ4, oυ4⟩ := copy38 (L := L5) (σ := υ3) (c := c) (x := w) (fun τ _ => h2 τ) hc
  have b3 : Bx cs u w υ3 := bB.keep fun o ho => oυ3 o (by omega)
  have b3' : Bx cs u w (υ3.add (.cells [] 0 0)) := b3.keep fun o ho => by rw [get_sadd, if_neg (by omega)]
  have b4 : Bx cs u w υ4 := b3.keep fun o ho => oυ4 o (by omega)
  obtain ⟨lmB, luB, lwB⟩ := bB.ld (L := L5) hcs
  obtain ⟨lm3, lu3, lw3⟩ := b3.ld (L := L5) hcs
  obtain ⟨lm3', lu3', lw3'⟩ := b3'.ld (L := L5) hcs
  obtain ⟨lm4, lu4, lw4⟩ := b4.ld (L := L5) hcs
  have hx3 : ∀ τ, Keep υ4.next υ4 τ → SlAt τ 6 y3 (lcs l) := fun τ hk => sυ3 τ ⟨by have := hk.le; omega, fun o ho => (hk.same o (by omega)).trans (oυ4 o ho)⟩
  have hx4 : ∀ τ, Keep υ4.next υ4 τ → SlAt τ 1 y4 (ones c) := fun τ hk => (hown4.keep hk.le fun o _ h => hk.same o h).slAt
  obtain ⟨σC, c15, kC⟩ := call15 (n := n) (L := L5) rfl rfl rfl rfl rfl rfl rfl rfl rfl hN hcs u hx3 hx4
  have leC := kC.le
  have bC : Bx cs u w σC := b4.keep fun o ho => kC.same o (by omega)
  have f15 : (EL L5).fn 15 = some Tryz.f15 := fnL Tryz.func15 rfl
  have q15 : sumOf L5 15 = none := rfl
  rw [nυ3] at hap4 nυ4
  have hRl := outR_len hcs l c u
  have hs9 := st37 (L := L5) (σ := σC.add (.cells (ints zimg) 0 0)) (o := σC.next) (cs := outR l cs c u) (St.get_add_same _ _) rep_len hRl
  obtain ⟨aC, eC, fC⟩ : ∃ aC, codeA (evalK (EL L5) N (n + 4)) (EL L5) N none (fAt Tryz.f4 [1, 1, 0]) aB σB = some (.normal, aC, (σC.add (.cells (ints zimg) 0 0)).set σC.next (.cells (ints (outR l cs c u)) 0 0)) ∧ F4 x1 σC.next (inE l cs c u) (inE l cs c u) y aC := by
    generalize outR l cs c u = rr at c15 hs9
    simp only [fAt, cAt, Tryz.f4]
    simp [code_draw, oneA, wantedA, opA, kindOf, readA, uponA, writeA, AFr.put, get_set, n_set, df_set, opd, callee?, callA, regionA, dops, dopsGo, befOf, Region.binds, drawOk, nodupB, hasDefer, eager, drawA, dim, unord, sameIn, chk, beq_self, Nat.testBit, next_set, next_add, nB, dB, c0, c4, c5, k0, k1, lmB, luB, lwB, lm3, lu3, lw3, lw3', lm4, lu4, bs34e, bs38e, hap3, hap4, sum_eq, q15, f15, c15, nυ3, nυ4, show σB.next + 2 ≤ σC.next by omega, al37, hs9]
    exact ⟨by simp [n_set, nB], by simp [df_set, dB], by simp [get_set, c0], by simp [get_set, c4], by simp [get_set, c5], by simp [get_set, c7], by simp [get_set, c8], by simp [get_set], by simp [get_set]⟩
  refine ⟨_, _, _, _, _, _, σC.next, y, υ2.next, eA, eB, eC, fC, bC.keep fun o ho => by rw [get_sset, if_neg (by omega), get_sadd, if_neg (by omega)], ?_, by rw [get_sset, if_pos rfl], by omega, by rw [next_set, next_add]; omega, by omega⟩
  refine hownB.keep (by rw [next_set, next_add]; omega) fun o _ h => ?_
  rw [get_sset, if_neg (by omega), get_sadd, if_neg (by omega), kC.same o (by omega), oυ4 o (by omega), oυ3 o h]

theorem inR_len {l : List Lk} {cs c : List Int} {u : Int} (hg : goodT l cs c = true) : (inR l cs c u).length ≤ 400 := by
  obtain ⟨_, _, h, _⟩ := good_parts hg
  unfold inR
  split
  · rw [inAll_len]; exact h
  · simp

set_option maxHeartbeats 1000000 in
/-- **The law, evaluated.** -/
theorem law4 {n N : Nat} {cs : List Int} (hcs : cs.length = 192) {l : List Lk} {c : List Int} {x1 w : AV} (h1 : Arg 6 x1 (lcs l)) (h2 : Arg 1 w (ones c)) (hl : l.length * 48 ≤ maxElems) (hc : c.length * 8 ≤ maxElems) (hN : 400 < N) (u : Int) :
    ∃ σ', (evalK (EL L5) N (n + 5)).call 4 [x1, .agg (ints cs), .agg [.i u, w]] start = some (.ret (.b true), σ') := by
  have hfn : (EL L5).fn 4 = some Tryz.f4 := fnL Tryz.func4 rfl
  obtain ⟨aA, σA, aB, σB, aC, σ, q, y, b, eA, eB, eC, f, bx, hown, mq, hq2, hqn, hb2⟩ := law4a (n := n) (N := N) hcs h1 h2 hl hc hN u (a := frame0 Tryz.f4 [x1, .agg (ints cs), .agg [.i u, w]]) rfl rfl rfl rfl rfl
  obtain ⟨hn, hd, g0, g4, g5, g7, g8, g9, g10⟩ := f
  obtain ⟨k0, k1⟩ := fa40s (L := L5) (o := 1)
  have q12 : sumOf L5 12 = some S12 := rfl
  have s12 : S12 [] = some (.b true) := rfl
  have q17 : sumOf L5 17 = some S17 := rfl
  have s17 := S17_eq hcs
  obtain ⟨σ1, c16, kp1⟩ := call16 (n := n + 3) (L := L5) (N := N) rfl hN (σ0 := σ) (fun τ _ => h1 τ)
  have f16 : (EL L5).fn 16 = some Tryz.f16 := fnL Tryz.func16 rfl
  have q16 : sumOf L5 16 = none := rfl
  have f18 : (EL L5).fn 18 = some Tryz.f18 := fnL Tryz.func18 rfl
  have q18 : sumOf L5 18 = none := rfl
  have le1 := kp1.le
  have c18 := call18 (n := n + 2) (L := L5) (N := N) rfl rfl hN (c := c) (y := w) (σ := σ1) (h2 σ1)
  have bx1 : Bx cs u w σ1 := bx.keep fun o ho => kp1.same o (by omega)
  obtain ⟨lm1, lu1, lw1⟩ := bx1.ld (L := L5) hcs
  have hown1 := hown.keep le1 fun o _ h => kp1.same o h
  have mq1 := (kp1.same q hqn).trans mq
  have hRl := outR_len hcs l c u
  have hz := fun xo yo => (eq37 (L := L5) zimg_len xo yo).1
  obtain ⟨aD, eD, n1, d1, p0, p4, p5, p7, p8, p9, p10, p56⟩ : ∃ aD, codeA (evalK (EL L5) N (n + 4)) (EL L5) N none (fAt Tryz.f4 [1, 1, 1, 0, 0]) aC σ = some (.normal, aD, σ1) ∧ aD.n = 117 ∧ aD.df = [] ∧ aD.get 0 = x1 ∧ aD.get 4 = .ptr 0 0 0 192 ∧ aD.get 5 = .ptr 1 0 0 2 ∧ aD.get 7 = y ∧ aD.get 8 = .i (inE l cs c u) ∧ aD.get 9 = .ptr q 0 0 192 ∧ aD.get 10 = .i (inE l cs c u) ∧ aD.get 56 = .b (!goodT l cs c) := by
    unfold goodT
    simp only [fAt, cAt, Tryz.f4]
    cases hlk : linked l with
    | false =>
      rw [hlk] at c16
      simp [code_region, opsA, oneA, wantedA, opA, kindOf, readA, uponA, writeA, AFr.put, get_set, n_set, df_set, opd, callee?, callA, un_not, hn, hd, g0, g4, g5, g7, g8, g9, g10, sum_eq, q16, f16, c16]
    | true =>
      rw [hlk] at c16
      cases hv : cs.all isV with
      | false =>
        rw [hv] at s17
        simp [code_region, opsA, oneA, wantedA, opA, kindOf, readA, uponA, writeA, AFr.put, get_set, n_set, df_set, opd, callee?, callA, un_not, hn, hd, g0, g4, g5, g7, g8, g9, g10, lm1, sum_eq, q16, f16, c16, q17, s17]
      | true =>
        rw [hv] at s17
        generalize cellsOk c = ck at c18
        simp [code_region, opsA, oneA, wantedA, opA, kindOf, readA, uponA, writeA, AFr.put, get_set, n_set, df_set, opd, callee?, callA, un_not, hn, hd, g0, g4, g5, g7, g8, g9, g10, k1, lm1, lw1, sum_eq, q16, f16, c16, q17, s17, q18, f18, c18]
  cases hg : goodT l cs c with
  | false =>
    rw [hg] at p56
    have e1 : inE l cs c u = 2 := by simp [inE, hg]
    have e2 : inR l cs c u = [] := by simp [inR, hg]
    have e3 : outR l cs c u = zimg := by simp [outR, hg]
    rw [e1] at p8 p10
    rw [e2] at hown1
    rw [e3] at mq1
    have lq := ld37 (L := L5) mq1 zimg_len
    have hlen := hown1.slAt.len (E := EL L5) (t := 38) (el := 3) Tryz.underlying38
    simp [ones] at hlen
    obtain ⟨aE, eE, dE, k6⟩ : ∃ aE, codeA (evalK (EL L5) N (n + 4)) (EL L5) N none (fAt Tryz.f4 [1, 1, 1, 0, 1]) aD σ1 = some (.ret, aE, σ1) ∧ aE.df = [] ∧ aE.get 6 = .b true := by
      simp only [fAt, cAt, Tryz.f4]
      simp [code_region, code_seq, code_cond, code_ret, opsA, oneA, wantedA, opA, kindOf, readA, uponA, writeA, AFr.put, get_set, n_set, df_set, opd, callee?, callA, eq_int, n1, d1, p7, p8, p9, p10, p56, hlen, lq, bd37z, hz, sum_eq, q12, s12]
    exact ⟨σ1, call_ret (x := .b true) hfn (show Tryz.f4.body = some (fAt Tryz.f4 []) from rfl) (seq_n eA (seq_n eB (seq_n eC (seq_ret (seq_n eD eE))))) dE (by simp [resultA, resultsA, Tryz.f4, k6])⟩
  | true =>
    rw [hg] at p56
    have eE : codeA (evalK (EL L5) N (n + 4)) (EL L5) N none (fAt Tryz.f4 [1, 1, 1, 0, 1]) aD σ1 = some (.normal, aD, σ1) := by
      simp only [fAt, cAt, Tryz.f4]
      simp [code_skip, code_cond, opd, p56]
    obtain ⟨y5, σ2, c19, hown5, kp2⟩ := call19 (n := n + 2) (L := L5) (N := N) rfl rfl hN hcs hg u (x := x1) (w := w) (σ0 := σ1) (fun τ _ => h1 τ) (fun τ _ => h2 τ)
    have le2 := kp2.le
    have f19 : (EL L5).fn 19 = some Tryz.f19 := fnL Tryz.func19 rfl
    have q19 : sumOf L5 19 = none := rfl
    obtain ⟨aF, eF, n2, d2, r0, r4, r5, r7, r8, r9, r10, r11, r12⟩ : ∃ aF, codeA (evalK (EL L5) N (n + 4)) (EL L5) N none (fAt Tryz.f4 [1, 1, 1, 1, 0]) aD σ1 = some (.normal, aF, σ2) ∧ aF.n = 117 ∧ aF.df = [] ∧ aF.get 0 = x1 ∧ aF.get 4 = .ptr 0 0 0 192 ∧ aF.get 5 = .ptr 1 0 0 2 ∧ aF.get 7 = y ∧ aF.get 8 = .i (inE l cs c u) ∧ aF.get 9 = .ptr q 0 0 192 ∧ aF.get 10 = .i (inE l cs c u) ∧ aF.get 11 = y5 ∧ aF.get 12 = .i (inE l cs c u) := by
      generalize inE l cs c u = ee at c19 p8 p10
      simp only [fAt, cAt, Tryz.f4]
      simp [code_region, opsA, oneA, wantedA, opA, kindOf, readA, uponA, writeA, AFr.put, get_set, n_set, df_set, opd, callee?, callA, n1, d1, p0, p4, p5, p7, p8, p9, p10, k0, k1, lm1, lu1, lw1, sum_eq, q19, f19, c19]
    have bx2 : Bx cs u w σ2 := bx1.keep fun o ho => kp2.same o (by omega)
    obtain ⟨lm2, lu2, lw2⟩ := bx2.ld (L := L5) hcs
    obtain ⟨σ3, c20, kp3⟩ := call20 (n := n + 2) (L := L5) (N := N) rfl rfl hN hcs hg u (x := x1) (w := w) (σ0 := σ2) (fun τ _ => h1 τ) (fun τ _ => h2 τ)
    have le3 := kp3.le
    have f20 : (EL L5).fn 20 = some Tryz.f20 := fnL Tryz.func20 rfl
    have q20 : sumOf L5 20 = none := rfl
    have hs13 := st37 (L := L5) (σ := σ3.add (.cells (ints zimg) 0 0)) (o := σ3.next) (cs := outR l cs c u) (St.get_add_same _ _) rep_len hRl
    have hrl := inR_len (u := u) hg
    have heq := fun xo yo => (eq37 (L := L5) hRl xo yo).1
    generalize inE l cs c u = ee at c20 r8 r10 r12
    generalize outR l cs c u = rr at c20 hs13 hRl mq1 heq
    obtain ⟨aG, σG, eG, n3, d3, s7, s8, s9, s10, s11, s12', s13, s14, hσG⟩ : ∃ aG σG, codeA (evalK (EL L5) N (n + 4)) (EL L5) N none (fAt Tryz.f4 [1, 1, 1, 1, 1, 0]) aF σ2 = some (.normal, aG, σG) ∧ aG.n = 117 ∧ aG.df = [] ∧ aG.get 7 = y ∧ aG.get 8 = .i ee ∧ aG.get 9 = .ptr q 0 0 192 ∧ aG.get 10 = .i ee ∧ aG.get 11 = y5 ∧ aG.get 12 = .i ee ∧ aG.get 13 = .ptr σ3.next 0 0 192 ∧ aG.get 14 = .i ee ∧ σG = (σ3.add (.cells (ints zimg) 0 0)).set σ3.next (.cells (ints rr) 0 0) := by
      simp only [fAt, cAt, Tryz.f4]
      simp [code_region, opsA, oneA, wantedA, opA, kindOf, readA, uponA, writeA, AFr.put, get_set, n_set, df_set, opd, callee?, callA, ex2, n2, d2, r0, r4, r5, r7, r8, r9, r10, r11, r12, k0, k1, lm2, lu2, lw2, sum_eq, q20, f20, c20, al37, hs13]
    have oG : ∀ o, o < σ3.next → σG.get o = σ3.get o := fun o ho => by rw [hσG, get_sset, if_neg (by omega), get_sadd, if_neg (by omega)]
    have nG : σG.next = σ3.next + 1 := by rw [hσG, next_set, next_add]
    have lq := ld37 (L := L5) (σ := σG) (o := q) ((oG q (by omega)).trans ((kp3.same q (by omega)).trans ((kp2.same q (by omega)).trans mq1))) hRl
    have l13 := ld37 (L := L5) (σ := σG) (o := σ3.next) (by rw [hσG, get_sset, if_pos rfl]) hRl
    have hyG := hown1.keep (σ' := σG) (by omega) fun o _ h => by rw [oG o (by omega), kp3.same o (by omega), kp2.same o h]
    have hy5 := hown5.keep (σ' := σG) (by omega) fun o _ h => by rw [oG o (by omega), kp3.same o h]
    have c22 := call22 (n := n + 3) (L := L5) (N := N) hyG.slAt hy5.slAt (by omega) (by omega)
    have c21 := call21 (n := n + 3) (L := L5) (N := N) (σ := σG) ee ee
    simp at c21
    have f21 : (EL L5).fn 21 = some Tryz.f21 := fnL Tryz.func21 rfl
    have q21 : sumOf L5 21 = none := rfl
    have f22 : (EL L5).fn 22 = some Tryz.f22 := fnL Tryz.func22 rfl
    have q22 : sumOf L5 22 = none := rfl
    obtain ⟨aH, eH, dH, k6⟩ : ∃ aH, codeA (evalK (EL L5) N (n + 4)) (EL L5) N none (fAt Tryz.f4 [1, 1, 1, 1, 1, 1]) aG σG = some (.ret, aH, σG) ∧ aH.df = [] ∧ aH.get 6 = .b true := by
      simp only [fAt, cAt, Tryz.f4]
      simp [code_region, code_seq, code_ret, opsA, oneA, wantedA, opA, kindOf, readA, uponA, writeA, AFr.put, get_set, n_set, df_set, opd, callee?, callA, n3, d3, s7, s8, s9, s10, s11, s12', s13, s14, sum_eq, q21, f21, c21, q22, f22, c22, lq, l13, heq, q12, s12]
    exact ⟨σG, call_ret (x := .b true) hfn (show Tryz.f4.body = some (fAt Tryz.f4 []) from rfl) (seq_n eA (seq_n eB (seq_n eC (seq_n (seq_n eD eE) (seq_n eF (seq_n eG eH)))))) dH (by simp [resultA, resultsA, Tryz.f4, k6])⟩
end Go.Proofs.YtfmbpdacdopkgaaGreatDoor

namespace Go.Proofs.YtfmbpdacdopkgaaGreatDoor
set_option maxRecDepth 100000
open Go Go.Ai
open Go.ChangeShapes Go.WideShapes Go.ChangeAt Go.RowKit

theorem len2 {α : Type} {l : List α} (h : l.length = 2) : ∃ a b, l = [a, b] := by
  match l, h with
  | [a, b], _ => exact ⟨a, b, rfl⟩

section
variable {H : Type} {enc : TypeId × Value → H} {W : World} {ρ : Asg} {base : Nat} {sp : Nat → Bool} {hd : Bool}
/-- A list of links, handed. -/
theorem open_linksT {t' : Nat} {v : Value} {d : DataW H} {ps : List MemPlace} (hval : Value.okWide Tryz.prog W .any t' 34 v) (h : DataW.Trod enc Tryz.prog W base sp hd 34 v d ps) :
    ∃ (l : List Lk) (X : AV), VRel W ρ X v ∧ Arg 6 X (lcs l) ∧ X.cells? = some [X] ∧ ((d = .nil ∧ l = []) ∨ ∃ ds rest, d = .slice ds rest ∧ ds.length = l.length) := by
  obtain ⟨fuel, h⟩ := h
  obtain ⟨a, n, c, rfl⟩ := okWide_slice Tryz.underlying34 hval
  obtain ⟨l, X, ⟨v', hv, hr⟩, ha, hx, hd'⟩ := open_links (ρ := ρ) h
  simp [Value.cells] at hv
  subst hv
  exact ⟨l, X, hr, ha, hx, hd'⟩
/-- The cells of a unit, handed. -/
theorem open_cellsT {t' : Nat} {v : Value} {d : DataW H} {ps : List MemPlace} (hval : Value.okWide Tryz.prog W .any t' 40 v) (h : DataW.Trod enc Tryz.prog W base sp hd 40 v d ps) :
    ∃ (u : Int) (l : List Int) (X : AV), VRel W ρ (.agg [.i u, X]) v ∧ Arg 1 X (ones l) ∧ X.cells? = some [X] ∧ ∃ d0 d1, d = .agg [d0, d1] ∧ ((d1 = .nil ∧ l = []) ∨ ∃ ds rest, d1 = .slice ds rest ∧ ds.length = l.length) := by
  obtain ⟨fuel, h⟩ := h
  obtain ⟨cs, rfl, hsz⟩ := okWide_struct Tryz.underlying40 hval
  cases fuel with
  | zero => simp [DataW.trod] at h
  | succ fuel =>
    obtain ⟨hl, xs, hx, hlen, hf⟩ := trod_fields Tryz.underlying40 h
    rw [cells40] at hl
    obtain ⟨y0, i0, e0⟩ := hf 0 _ rfl
    obtain ⟨y1, i1, e1⟩ := hf 1 _ rfl
    simp only [cells3, cells38] at e0 e1
    obtain ⟨a, h0⟩ := trod_int (fuel := fuel) (by rw [e0]; rfl)
    obtain ⟨l, X, ⟨w, h1, hr⟩, hA, hX, hd2⟩ := open_nums (ρ := ρ) e1
    have p0 := take1 h0
    have p1 := take1 h1
    obtain ⟨cs⟩ := cs
    simp only [Value.cells] at hl p0 p1
    have hxs : d = .agg (xs.map (·.1)) := hx
    obtain ⟨c0, c1, rfl⟩ := len2 hl
    obtain ⟨x0, x1, rfl⟩ := len2 hlen
    simp at p0 p1 i0 i1
    subst p0 p1 i0 i1
    exact ⟨a, l, X, .agg (.cons (.v _) (.cons hr .nil)), hA, hX, x0.1, x1.1, hxs, hd2⟩
end
end Go.Proofs.YtfmbpdacdopkgaaGreatDoor
