/- Visiting all slots of a view. Conditions: what the rounds do. -/
import Derived.Test.YtfmbpdacdopkgaaGreatDoorImgL
import Derived.Test.YtfmbpdacdopkgaaGreatDoorAiLoop
namespace Go.Proofs.YtfmbpdacdopkgaaGreatDoor
set_option maxRecDepth 100000
open Go Go.Ai
open Go.RowKit (Below)

noncomputable def in64 : Code := fAt Tryz.f64 [1, 0, 0, 1, 0, 0, 1, 0, 0]
noncomputable def out64 : Code := fAt Tryz.f64 [1, 0, 0]

/-- What the rounds of a visit do. -/
structure Visit (K : Kont) (l b o : Nat) (cs : List Int) (I : Nat → St → Prop) (Q : St → Prop) : Prop where
  hb : ∀ k σ, I k σ → rdCells σ (.ptr b 0 0 1) 1 = some [.ptr o 0 0 192]
  ho : ∀ k σ, I k σ → ∀ j < 192, rdCells σ (.ptr o j 0 1) 1 = some [.i (cs.getD j 0)]
  hr : ∀ ar s σ, 1 ≤ ar → ar ≤ 3 → s < 64 → I ((ar - 1) * 64 + s) σ →
    (∃ σ', K.round l [.agg [.i (ar : Int), .i (s : Int), .i (cs.getD ((ar - 1) * 64 + s) 0)]] σ = some (.ret (.b true), σ') ∧ I ((ar - 1) * 64 + s + 1) σ') ∨
    ∃ σ', K.round l [.agg [.i (ar : Int), .i (s : Int), .i (cs.getD ((ar - 1) * 64 + s) 0)]] σ = some (.ret (.b false), σ') ∧ Q σ'


structure In64 (I : Nat → St → Prop) (l b o ar : Nat) (s : Nat) (a : AFr) (σ : St) : Prop where
  n : a.n = 27
  d : a.df = []
  g0 : a.get 0 = .yld l
  g1 : a.get 1 = .ptr b 0 0 1
  g3 : a.get 3 = .i (ar : Int)
  g12 : a.get 12 = .ptr o ((ar - 1) * 64) 0 64
  g13 : a.get 13 = .i (s : Int)
  i : I ((ar - 1) * 64 + s) σ

theorem wrap_nat {n : Nat} (h : n < 4611686018427387904) : IntKind.i64.wrap ((n : Int) + 1) = ((n + 1 : Nat) : Int) := by
  rw [wrap_id (by omega) (by omega)]; omega

set_option maxHeartbeats 1000000 in
theorem in64_step {K : Kont} {L : SumL} {N l b o ar : Nat} {cs : List Int} {I : Nat → St → Prop} {Q : St → Prop} (V : Visit K l b o cs I Q) (h1 : 1 ≤ ar) (h3 : ar ≤ 3) {s : Nat} (hs : s < 64) {a : AFr} {σ : St} (h : In64 I l b o ar s a σ) :
    (∃ a' σ', codeA K (EL L) N none in64 a σ = some (.normal, a', σ') ∧ In64 I l b o ar (s + 1) a' σ') ∨ ∃ a' σ', codeA K (EL L) N none in64 a σ = some (.ret, a', σ') ∧ a'.df = [] ∧ Q σ' := by
  obtain ⟨hn, hd, g0, g1, g3, g12, g13, hi⟩ := h
  have hlt : (s : Int) < 64 := by omega
  have hneg : ¬ ((s : Int) < 0) := by omega
  have hsz : s * 1 + 1 ≤ 64 := by omega
  have hld : loadA (EL L) σ 3 (.ptr o ((ar - 1) * 64 + s) 0 1) = some (.i (cs.getD ((ar - 1) * 64 + s) 0)) := load_one (agg3 L) (V.ho _ σ hi _ (by omega))
  have hix : indexAddrA (EL L) 35 (.ptr o ((ar - 1) * 64) 0 64) (.i (s : Int)) = some (.ptr o ((ar - 1) * 64 + s) 0 1) := by
    simp [indexAddrA, und_eq, Tryz.underlying35, z3, hneg]
    omega
  have hr := V.hr ar s σ h1 h3 hs hi
  have hbd := build79 (L := L) (.i (ar : Int)) (.i (s : Int)) (.i (cs.getD ((ar - 1) * 64 + s) 0)) rfl rfl rfl
  generalize cs.getD ((ar - 1) * 64 + s) 0 = v at hld hr hbd
  have hw := wrap_nat (n := s) (by omega)
  rcases hr with ⟨σ', e, hi'⟩ | ⟨σ', e, hq⟩
  · left
    simp only [in64, fAt, cAt, Tryz.f64]
    simp [code_skip, code_region, code_draw, code_seq, code_cond, code_block, opsA, oneA, wantedA, opA, kindOf, readA, uponA, writeA, AFr.put, get_set, n_set, opd, callee?, cmp_lss, ar_add, un_not, ex2, regionA, dops, dopsGo, befOf, Region.binds, drawOk, nodupB, hasDefer, eager, drawA, dim, unord, sameIn, chk, beq_self, Nat.testBit, hn, g0, g3, g12, g13, hlt, hix, hld, hbd, e, hw]
    exact ⟨by simp [n_set, hn], by simp [df_set, hd], by simp [get_set, g0], by simp [get_set, g1], by simp [get_set, g3], by simp [get_set, g12], by simp [get_set], hi'⟩
  · right
    simp only [in64, fAt, cAt, Tryz.f64]
    simp [code_skip, code_region, code_draw, code_seq, code_cond, code_block, code_ret, opsA, oneA, wantedA, opA, kindOf, readA, uponA, writeA, AFr.put, get_set, n_set, df_set, opd, callee?, cmp_lss, un_not, ex2, regionA, dops, dopsGo, befOf, Region.binds, drawOk, nodupB, hasDefer, eager, drawA, dim, unord, sameIn, chk, beq_self, Nat.testBit, hn, g0, g3, g12, g13, hlt, hix, hld, hbd, e]
    exact ⟨by simp [hd], hq⟩

theorem in64_exit {K : Kont} {L : SumL} {N l b o ar : Nat} {I : Nat → St → Prop} {a : AFr} {σ : St} (h : In64 I l b o ar 64 a σ) :
    codeA K (EL L) N none in64 a σ = some (.exit 2, a.set 14 (.b false), σ) := by
  obtain ⟨hn, hd, g0, g1, g3, g12, g13, hi⟩ := h
  simp only [in64, fAt, cAt, Tryz.f64]
  simp [code_region, code_seq, code_cond, code_exit, opsA, oneA, wantedA, opA, kindOf, readA, uponA, AFr.put, get_set, opd, cmp_lss, hn, g13]

structure Out64 (I : Nat → St → Prop) (l b : Nat) (ar : Nat) (a : AFr) (σ : St) : Prop where
  n : a.n = 27
  d : a.df = []
  g0 : a.get 0 = .yld l
  g1 : a.get 1 = .ptr b 0 0 1
  g3 : a.get 3 = .i (ar : Int)
  i : I ((ar - 1) * 64) σ

theorem out64_step {n : Nat} {L : SumL} (h44 : sumOf L 44 = none) {N l b o ar : Nat} (hN : 64 < N) {cs : List Int} {I : Nat → St → Prop} {Q : St → Prop} (V : Visit (evalK (EL L) N (n + 1)) l b o cs I Q) (h1 : 1 ≤ ar) (h3 : ar ≤ 3) {a : AFr} {σ : St} (h : Out64 I l b ar a σ) :
    (∃ a' σ', codeA (evalK (EL L) N (n + 1)) (EL L) N none out64 a σ = some (.normal, a', σ') ∧ Out64 I l b (ar + 1) a' σ') ∨ ∃ a' σ', codeA (evalK (EL L) N (n + 1)) (EL L) N none out64 a σ = some (.ret, a', σ') ∧ a'.df = [] ∧ Q σ' := by
  obtain ⟨hn, hd, g0, g1, g3, hi⟩ := h
  have hle : (ar : Int) ≤ 3 := by omega
  have hrd : loadA (EL L) σ 136 (.ptr b 0 0 1) = some (.ptr o 0 0 192) := load_one (agg136 L) (V.hb _ σ hi)
  have hc : (evalK (EL L) N (n + 1)).call 44 [.ptr o 0 0 192, .i (ar : Int)] σ = some (.ret (.ptr o ((ar - 1) * 64) 0 64), σ) := area44 h1 h3
  have hfn : (EL L).fn 44 = some Tryz.f44 := fnL Tryz.func44 rfl
  -- up to the loop
  obtain ⟨a1, e1, k1⟩ : ∃ a1, codeA (evalK (EL L) N (n + 1)) (EL L) N none (fAt Tryz.f64 [1, 0, 0, 1, 0, 0, 0]) (((a.set 6 (.i (ar : Int))).set 7 (.b true))) σ = some (.normal, a1, σ) ∧ In64 I l b o ar 0 a1 σ := by
    simp only [fAt, cAt, Tryz.f64]
    simp [code_region, opsA, oneA, wantedA, opA, kindOf, readA, uponA, writeA, AFr.put, get_set, n_set, opd, callee?, callA, hn, g1, g3, hrd, sum_eq, h44, hfn, hc]
    exact ⟨by simp [n_set, hn], by simp [df_set, hd], by simp [get_set, g0], by simp [get_set, g1], by simp [get_set, g3], by simp [get_set], by simp [get_set], by simpa using hi⟩
  obtain ⟨e, a2, σ2, hl, hq⟩ := iter_inv (f := codeA (evalK (EL L) N (n + 1)) (EL L) N none in64) (In64 I l b o ar) (fun e a' σ' => (e = .exit 2 ∧ a'.n = 27 ∧ a'.df = [] ∧ a'.get 0 = .yld l ∧ a'.get 1 = .ptr b 0 0 1 ∧ a'.get 3 = .i (ar : Int) ∧ I ((ar - 1) * 64 + 64) σ') ∨ (e = .ret ∧ a'.df = [] ∧ Q σ')) 64
    (fun k a σ hk hI => by
      rcases in64_step V h1 h3 hk hI with ⟨a', σ', h, h'⟩ | ⟨a', σ', h, h', hq⟩
      · exact .inl ⟨a', σ', h, h'⟩
      · exact .inr ⟨.ret, a', σ', h, (fun u v e => by cases e), .inr ⟨rfl, h', hq⟩⟩)
    (fun a σ hI => ⟨_, _, _, in64_exit hI, (fun u v e => by cases e), .inl ⟨rfl, hI.n, hI.d, by simp [get_set, hI.g0], by simp [get_set, hI.g1], by simp [get_set, hI.g3], hI.i⟩⟩) (N := N) hN k1
  have hl := loop_of hl
  have hA : codeA (evalK (EL L) N (n + 1)) (EL L) N none (fAt Tryz.f64 [1, 0, 0, 0]) a σ = some (.normal, (a.set 6 (.i (ar : Int))).set 7 (.b true), σ) := by
    simp only [fAt, cAt, Tryz.f64]
    simp [code_skip, code_region, code_seq, code_cond, opsA, oneA, wantedA, opA, kindOf, readA, uponA, AFr.put, get_set, n_set, opd, cmp_leq, hn, g3, hle]
  rcases hq with ⟨rfl, q1, q2, q3, q4, q5, q6⟩ | ⟨rfl, q2, q6⟩
  · left
    have hB : codeA (evalK (EL L) N (n + 1)) (EL L) N none (fAt Tryz.f64 [1, 0, 0, 1, 0]) ((a.set 6 (.i (ar : Int))).set 7 (.b true)) σ = some (.normal, a2, σ2) := block_n (seq_n e1 (block_x hl))
    have hw := wrap_nat (n := ar) (by omega)
    have hC : codeA (evalK (EL L) N (n + 1)) (EL L) N none (fAt Tryz.f64 [1, 0, 0, 1, 1]) a2 σ2 = some (.normal, ((a2.set 8 (.i (ar : Int))).set 9 (.i ((ar + 1 : Nat) : Int))).set 3 (.i ((ar + 1 : Nat) : Int)), σ2) := by
      simp only [fAt, cAt, Tryz.f64]
      simp [code_region, opsA, oneA, wantedA, opA, kindOf, readA, uponA, AFr.put, get_set, n_set, opd, ar_add, q1, q5, hw]
    refine ⟨_, _, seq_n hA (seq_n hB hC), q1, by simp [df_set, q2], by simp [get_set, q3], by simp [get_set, q4], by simp [get_set], ?_⟩
    rwa [show (ar + 1 - 1) * 64 = (ar - 1) * 64 + 64 by omega]
  · right
    have hB : codeA (evalK (EL L) N (n + 1)) (EL L) N none (fAt Tryz.f64 [1, 0, 0, 1, 0]) ((a.set 6 (.i (ar : Int))).set 7 (.b true)) σ = some (.ret, a2, σ2) := block_ret (seq_n e1 (block_ret hl))
    exact ⟨_, _, seq_n hA (seq_ret hB), q2, q6⟩

theorem out64_exit {K : Kont} {L : SumL} {N l b : Nat} {I : Nat → St → Prop} {a : AFr} {σ : St} (h : Out64 I l b 4 a σ) :
    codeA K (EL L) N none out64 a σ = some (.exit 0, (a.set 6 (.i 4)).set 7 (.b false), σ) := by
  obtain ⟨hn, hd, g0, g1, g3, hi⟩ := h
  simp only [out64, fAt, cAt, Tryz.f64]
  simp [code_region, code_seq, code_cond, code_exit, opsA, oneA, wantedA, opA, kindOf, readA, uponA, AFr.put, get_set, n_set, opd, cmp_leq, hn, g3]

/-- All slots are visited; or the visit ends before. -/
theorem call64 {n : Nat} {L : SumL} (h44 : sumOf L 44 = none) {N l b o : Nat} (hN : 64 < N) {cs : List Int} {I : Nat → St → Prop} {Q : St → Prop} (V : Visit (evalK (EL L) N (n + 1)) l b o cs I Q) {σ : St} (h : I 0 σ) :
    ∃ σ', (evalK (EL L) N (n + 2)).call 64 [.yld l, .ptr b 0 0 1] σ = some (.ret (.tup []), σ') ∧ (I 192 σ' ∨ Q σ') := by
  have hfn : (EL L).fn 64 = some Tryz.f64 := fnL Tryz.func64 rfl
  have hn : (frame0 Tryz.f64 [.yld l, .ptr b 0 0 1]).n = 27 := rfl
  have g0 : (frame0 Tryz.f64 [.yld l, .ptr b 0 0 1]).get 0 = .yld l := rfl
  have g1 : (frame0 Tryz.f64 [.yld l, .ptr b 0 0 1]).get 1 = .ptr b 0 0 1 := rfl
  have hd : (frame0 Tryz.f64 [.yld l, .ptr b 0 0 1]).df = [] := rfl
  generalize hfr : frame0 Tryz.f64 [.yld l, .ptr b 0 0 1] = a at hn g0 g1 hd
  have hA : codeA (evalK (EL L) N (n + 1)) (EL L) N none (fAt Tryz.f64 [0]) a σ = some (.normal, a.set 3 (.i 1), σ) := by
    simp only [fAt, cAt, Tryz.f64]
    simp [code_region, opsA, oneA, wantedA, opA, kindOf, readA, uponA, AFr.put, opd, hn]
  obtain ⟨e, a2, σ2, hl, hq⟩ := iter_inv (f := codeA (evalK (EL L) N (n + 1)) (EL L) N none out64) (fun k => Out64 I l b (k + 1)) (fun e a' σ' => (e = .exit 0 ∧ a'.df = [] ∧ I 192 σ') ∨ (e = .ret ∧ a'.df = [] ∧ Q σ')) 3
    (fun k a σ hk hI => by
      rcases out64_step h44 hN V (ar := k + 1) (by omega) (by omega) hI with ⟨a', σ', h, h'⟩ | ⟨a', σ', h, h', hq⟩
      · exact .inl ⟨a', σ', h, h'⟩
      · exact .inr ⟨.ret, a', σ', h, (fun u v e => by cases e), .inr ⟨rfl, h', hq⟩⟩)
    (fun a σ hI => ⟨_, _, _, out64_exit hI, (fun u v e => by cases e), .inl ⟨rfl, by simp [df_set, hI.d], hI.i⟩⟩) (N := N) (by omega) (a := a.set 3 (.i 1)) (σ := σ)
    ⟨hn, by simp [df_set, hd], by simp [get_set, g0], by simp [get_set, g1], by simp [get_set], h⟩
  have hl := loop_of hl
  rcases hq with ⟨rfl, q2, q6⟩ | ⟨rfl, q2, q6⟩
  · refine ⟨σ2, call_norm hfn (show Tryz.f64.body = some (fAt Tryz.f64 []) from rfl) (by rw [hfr]; exact seq_n hA (block_x hl)) q2 ?_, .inl q6⟩
    simp [resultA, resultsA, Tryz.f64]
  · refine ⟨σ2, call_ret hfn (show Tryz.f64.body = some (fAt Tryz.f64 []) from rfl) (by rw [hfr]; exact seq_n hA (block_ret hl)) q2 ?_, .inr q6⟩
    simp [resultA, resultsA, Tryz.f64]

theorem call48 {n : Nat} {L : SumL} {N o : Nat} {σ : St} : (evalK (EL L) N (n + 1)).call 48 [.ptr o 0 0 192] σ = some (.ret (.fn 64 [] [.ptr σ.next 0 0 1]), σ.add (.cells [.ptr o 0 0 192] 0 0)) := by
  have hfn : (EL L).fn 48 = some Tryz.f48 := fnL Tryz.func48 rfl
  have hn : (frame0 Tryz.f48 [.ptr o 0 0 192]).n = 4 := rfl
  have g0 : (frame0 Tryz.f48 [.ptr o 0 0 192]).get 0 = .ptr o 0 0 192 := rfl
  have hd : (frame0 Tryz.f48 [.ptr o 0 0 192]).df = [] := rfl
  generalize hfr : frame0 Tryz.f48 [.ptr o 0 0 192] = a at hn g0 hd
  have hc : ∃ a', codeA (evalK (EL L) N n) (EL L) N none (fAt Tryz.f48 []) a σ = some (.ret, a', σ.add (.cells [.ptr o 0 0 192] 0 0)) ∧ a'.df = [] ∧ a'.get 2 = .fn 64 [] [.ptr σ.next 0 0 1] := by
    simp only [fAt, cAt, Tryz.f48]
    simp [code_region, code_seq, code_ret, opsA, oneA, wantedA, opA, kindOf, readA, uponA, AFr.put, get_set, n_set, df_set, opd, allocA, AV.cells?, hn, g0, hd]
  obtain ⟨a', h1, h2, h3⟩ := hc
  exact call_ret (x := .fn 64 [] [.ptr σ.next 0 0 1]) hfn (show Tryz.f48.body = some (fAt Tryz.f48 []) from rfl) (by rw [hfr]; exact h1) h2 (by simp [resultA, resultsA, Tryz.f48, h3])
end Go.Proofs.YtfmbpdacdopkgaaGreatDoor

namespace Go.Proofs.YtfmbpdacdopkgaaGreatDoor
set_option maxRecDepth 100000
open Go Go.Ai
open Go.RowKit (Below)

theorem rd_ints {σ : St} {o : Nat} {cs : List Int} (h : σ.get o = some (.cells (ints cs) 0 0)) {j : Nat} (hj : j < cs.length) : rdCells σ (.ptr o j 0 1) 1 = some [.i (cs.getD j 0)] := by
  simp only [rdCells, h, ints_drop, ints_take, ints_len]
  simp only [Nat.le_refl, if_true, decide_true, Bool.and_self, Bool.true_and, decide_eq_true_eq]
  rw [if_pos (by omega)]
  have : (cs.drop j).take 1 = [cs.getD j 0] := by
    rw [List.drop_eq_getElem_cons hj, getD_lt hj]; rfl
  rw [this]; rfl

theorem fa79 {L : SumL} {o i g e k : Nat} (hk : k < 3) (he : k + 1 ≤ e) : fieldAddrA (EL L) 79 (.ptr o i g e) k = some (.ptr o (i + k) g 1) := by
  have h : k = 0 ∨ k = 1 ∨ k = 2 := by omega
  rcases h with rfl | rfl | rfl <;> simp [fieldAddrA, und_eq, Tryz.underlying79, z3] <;> omega

theorem wr_all {σ : St} {o n : Nat} {zs vs : List AV} (h : σ.get o = some (.cells zs 0 0)) (hz : zs.length = n) (hv : vs.length = n) (ho : vs.all (·.one) = true) : wrCells σ (.ptr o 0 0 n) vs = some (σ.set o (.cells vs 0 0)) := by
  simp only [wrCells, hv, ho, h, Nat.le_refl, decide_true, Bool.and_self, if_true, Nat.zero_add, hz, BEq.rfl]
  congr 3
  unfold splice
  rw [Nat.zero_add, hv, List.drop_of_length_le (by omega)]; simp

theorem agg37 (L : SumL) : (EL L).agg 37 = some true := by simp [Env.agg, und_eq, Tryz.underlying37]
theorem agg23 (L : SumL) : (EL L).agg 23 = some false := by simp [Env.agg, und_eq, Tryz.underlying23]
theorem ld37 {L : SumL} {σ : St} {o : Nat} {cs : List Int} (h : σ.get o = some (.cells (ints cs) 0 0)) (hl : cs.length = 192) : loadA (EL L) σ 37 (.ptr o 0 0 192) = some (.agg (ints cs)) := by
  refine load_agg (agg37 L) (z37 L) ?_
  simp [rdCells, h, ints_len, hl]
  rw [List.take_of_length_le (by rw [ints_len, hl]; exact Nat.le_refl _)]
theorem bd96 {L : SumL} {cs : List Int} (hl : cs.length = 192) : buildA (EL L) 96 [(0, .agg (ints cs))] = some (.agg (ints cs)) := by
  obtain ⟨v, hv, hc⟩ := zero96 L
  have hvl : (v.cells.toList.map AV.v).length = 192 := by rw [hc]; simp [ints, zimg_len]
  simp only [buildA, hv, und_eq, Tryz.underlying96]
  simp only [fillA, AV.cells?]
  simp [z37, ints_len, hl, splice]
  have : v.cells.size = 192 := by simpa using hvl
  simp [this]
theorem al96 {L : SumL} {a : AFr} {o : Oper} (h : o.op = .alloc 96) : allocA (EL L) a o = some (.cells (ints zimg) 0 0, fun n => .ptr n 0 0 192) := by
  obtain ⟨v, hv, hc⟩ := zero96 L
  have hvl : v.cells.toList.length = 192 := by have : (v.cells.toList.map AV.v).length = 192 := by rw [hc]; simp [ints, zimg_len]
                                               simpa using this
  simp only [allocA, h, hv, hc, hvl]
theorem al37 {L : SumL} {a : AFr} {o : Oper} (h : o.op = .alloc 37) : allocA (EL L) a o = some (.cells (ints zimg) 0 0, fun n => .ptr n 0 0 192) := by
  obtain ⟨v, hv, hc⟩ := zero37 L
  have hvl : v.cells.toList.length = 192 := by have : (v.cells.toList.map AV.v).length = 192 := by rw [hc]; simp [ints, zimg_len]
                                               simpa using this
  simp only [allocA, h, hv, hc, hvl]
theorem al23 {L : SumL} {a : AFr} {o : Oper} (h : o.op = .alloc 23) : allocA (EL L) a o = some (.cells [.i 0] 0 0, fun n => .ptr n 0 0 1) := by
  simp [allocA, h, zero23, Value.cells]
theorem al55 {L : SumL} {a : AFr} {o : Oper} (h : o.op = .alloc 55) : allocA (EL L) a o = some (.cells [.v (.slice none 0 0)] 0 0, fun n => .ptr n 0 0 1) := by
  simp [allocA, h, zero55, Value.cells]
theorem st96 {L : SumL} {σ : St} {o : Nat} {cs : List Int} {zs : List AV} (h : σ.get o = some (.cells zs 0 0)) (hz : zs.length = 192) (hl : cs.length = 192) : storeA (EL L) σ 96 (.ptr o 0 0 192) (.agg (ints cs)) = some (σ.set o (.cells (ints cs) 0 0)) := by
  simp only [storeA, z96, AV.cells?, ints_len, hl, if_true]
  exact wr_all h hz (by rw [ints_len, hl]) (ints_one _)
theorem st37 {L : SumL} {σ : St} {o : Nat} {cs : List Int} {zs : List AV} (h : σ.get o = some (.cells zs 0 0)) (hz : zs.length = 192) (hl : cs.length = 192) : storeA (EL L) σ 37 (.ptr o 0 0 192) (.agg (ints cs)) = some (σ.set o (.cells (ints cs) 0 0)) := by
  simp only [storeA, z37, AV.cells?, ints_len, hl, if_true]
  exact wr_all h hz (by rw [ints_len, hl]) (ints_one _)
theorem rep_len : (ints zimg).length = 192 := by simp [ints, zimg_len]

noncomputable def asg28 : Code := rgAsg (fAt Tryz.f28 [1, 1, 0, 1, 0])
noncomputable def bdy28 : Code := fAt Tryz.f28 [1, 1, 0, 1, 0, 0]
noncomputable def r28 (A : AFr) (d : Nat) : ALoop := { state := .ready, pending := none, tm := A, params := [8], assign := asg28, body := bdy28, dfr := d }


theorem al79 {L : SumL} {a : AFr} {o : Oper} (h : o.op = .alloc 79) : allocA (EL L) a o = some (.cells [.i 0, .i 0, .i 0] 0 0, fun n => .ptr n 0 0 3) := by
  simp [allocA, h, zero79, Value.cells]
theorem st79 {L : SumL} {σ : St} {o : Nat} {x y z u v w : AV} (h : σ.get o = some (.cells [u, v, w] 0 0)) (hx : x.one = true) (hy : y.one = true) (hz : z.one = true) : storeA (EL L) σ 79 (.ptr o 0 0 3) (.agg [x, y, z]) = some (σ.set o (.cells [x, y, z] 0 0)) := by
  simp [storeA, z79, AV.cells?, wrCells, h, hx, hy, hz, splice]

theorem asg28_run {K : Kont} {L : SumL} {N l : Nat} {σ : St} {a : AFr} {x y z : Int} (hn : a.n = 13) (h8 : a.get 8 = .agg [.i x, .i y, .i z]) :
    codeA K (EL L) N (some l) asg28 a σ = some (.normal, a.set 4 (.ptr σ.next 0 0 3), (σ.add (.cells [.i 0, .i 0, .i 0] 0 0)).set σ.next (.cells [.i x, .i y, .i z] 0 0)) := by
  have hst := st79 (L := L) (σ := σ.add (.cells [.i 0, .i 0, .i 0] 0 0)) (o := σ.next) (x := .i x) (y := .i y) (z := .i z) (St.get_add_same _ _) rfl rfl rfl
  simp only [asg28, rgAsg, fAt, cAt, Tryz.f28]
  rw [code_region_ro _ _ _ rfl]
  simp [opsA, oneA, wantedA, opA, kindOf, uponA, writeA, AFr.put, get_set, opd, hn, h8, al79, hst]

/-- A round of Check. -/
theorem round28 {K : Kont} {L : SumL} (h52 : sumOf L 52 = some SV) {N l rc d : Nat} {σ : St} {A : AFr} {x0 : AV} (hl : σ.get l = some (.loop (r28 A d))) (hA : A.n = 13) (hA2 : A.get 2 = .ptr rc 0 0 1) (hrc : σ.get rc = some (.cells [x0] 0 0)) (hln : l < σ.next) (hrn : rc < σ.next) (hne : rc ≠ l) (ar s v : Int) :
    (isV v = true → ∃ σ', roundBody K (EL L) N l [.agg [.i ar, .i s, .i v]] σ = some (.ret (.b true), σ') ∧ σ'.get l = some (.loop (r28 A d)) ∧ σ.next ≤ σ'.next ∧ ∀ o, o < σ.next → o ≠ l → σ'.get o = σ.get o) ∧
    (isV v = false → ∃ σ', roundBody K (EL L) N l [.agg [.i ar, .i s, .i v]] σ = some (.ret (.b false), σ') ∧ σ'.get l = some (.loop { r28 A d with state := .done, pending := some .ret }) ∧ σ'.get rc = some (.cells [.i 2] 0 0) ∧
      σ.next ≤ σ'.next ∧ ∀ o, o < σ.next → o ≠ l → o ≠ rc → σ'.get o = σ.get o) := by
  have hp : setParams (r28 A d).params [.agg [.i ar, .i s, .i v]] { (r28 A d).tm with df := [] } = some (({ A with df := [] } : AFr).set 8 (.agg [.i ar, .i s, .i v])) := by
    simp [r28, setParams, hA]
  have ha := asg28_run (K := K) (L := L) (N := N) (l := l) (σ := σ) (a := ({ A with df := [] } : AFr).set 8 (.agg [.i ar, .i s, .i v])) (x := ar) (y := s) (z := v) (by simp [n_set, hA]) (by simp [get_set])
  generalize hσ₁ : (σ.add (.cells [.i 0, .i 0, .i 0] 0 0)).set σ.next (.cells [.i ar, .i s, .i v] 0 0) = σ₁ at ha
  have n1 : σ₁.next = σ.next + 1 := by rw [← hσ₁]; rfl
  have gp : σ₁.get σ.next = some (.cells [.i ar, .i s, .i v] 0 0) := by rw [← hσ₁, get_sset, if_pos rfl]
  have go : ∀ o, o < σ.next → σ₁.get o = σ.get o := fun o ho => by rw [← hσ₁, get_sset, if_neg (by omega), get_sadd, if_neg (by omega)]
  have hl1 : σ₁.get l = some (.loop (r28 A d)) := (go l hln).trans hl
  generalize ha1 : ((({ A with df := [] } : AFr).set 8 (.agg [.i ar, .i s, .i v])).set 4 (.ptr σ.next 0 0 3)) = a₁ at ha
  have b1 : a₁.n = 13 := by rw [← ha1]; simp [n_set, hA]
  have b2 : a₁.df = [] := by rw [← ha1]; rfl
  have b3 : a₁.get 4 = .ptr σ.next 0 0 3 := by rw [← ha1]; simp [get_set]
  have b4 : a₁.get 2 = .ptr rc 0 0 1 := by rw [← ha1]; simp [get_set]; exact hA2
  generalize hτ : σ₁.set l (.loop { r28 A d with state := .busy }) = τ
  have gτp : τ.get σ.next = some (.cells [.i ar, .i s, .i v] 0 0) := by rw [← hτ, get_sset, if_neg (by omega)]; exact gp
  have gτl : τ.get l = some (.loop { r28 A d with state := .busy }) := by rw [← hτ, get_sset, if_pos rfl]
  have gτr : τ.get rc = some (.cells [x0] 0 0) := by rw [← hτ, get_sset, if_neg (Ne.symm hne), go rc hrn]; exact hrc
  have gτo : ∀ o, o < σ.next → o ≠ l → τ.get o = σ.get o := fun o ho h => by rw [← hτ, get_sset, if_neg (Ne.symm h), go o ho]
  have nτ : τ.next = σ.next + 1 := by rw [← hτ, next_set, n1]
  have hf := fa79 (L := L) (o := σ.next) (i := 0) (g := 0) (e := 3) (k := 2) (by omega) (by omega)
  have hrd : loadA (EL L) τ 3 (.ptr σ.next (0 + 2) 0 1) = some (.i v) := load_one (agg3 L) (by simp [rdCells, gτp])
  refine ⟨fun hv => ?_, fun hv => ?_⟩
  · have hb : ∃ a₂, codeA K (EL L) N (some l) bdy28 a₁ τ = some (.normal, a₂, τ) ∧ a₂.df = [] := by
      simp only [bdy28, fAt, cAt, Tryz.f28]
      simp [code_skip, code_seq, code_cond, code_block, opsA, oneA, wantedA, opA, kindOf, readA, uponA, writeA, AFr.put, get_set, n_set, df_set, opd, callee?, callA, un_not, b1, b2, b3, hf, hrd, sum_eq, h52, SV, hv, code_region_ro, hasDefer]
    obtain ⟨a₂, hb, hd⟩ := hb
    refine ⟨_, round_n hl rfl hp ha hl1 (by rw [hτ]; exact hb) hd gτl, by rw [get_sset, if_pos rfl]; rfl, by rw [next_set, nτ]; omega, fun o ho h => by rw [get_sset, if_neg (Ne.symm h), gτo o ho h]⟩
  · have hst : storeA (EL L) τ 23 (.ptr rc 0 0 1) (.i 2) = some (τ.set rc (.cells [.i 2] 0 0)) := by
      simp [storeA, z23, AV.cells?, Value.cells, wrCells, gτr, AV.one, lone1, splice]
    have hb : ∃ a₂, codeA K (EL L) N (some l) bdy28 a₁ τ = some (.ret, a₂, τ.set rc (.cells [.i 2] 0 0)) ∧ a₂.df = [] := by
      simp only [bdy28, fAt, cAt, Tryz.f28]
      simp [code_seq, code_cond, code_block, code_ret, opsA, oneA, wantedA, opA, kindOf, readA, uponA, writeA, AFr.put, get_set, n_set, df_set, opd, callee?, callA, un_not, b1, b2, b3, b4, hf, hrd, sum_eq, h52, SV, hv, hst, code_region_ro, hasDefer]
    obtain ⟨a₂, hb, hd⟩ := hb
    refine ⟨_, round_ret hl rfl hp ha hl1 (by rw [hτ]; exact hb) hd (by rw [get_sset, if_neg hne]; exact gτl), by rw [get_sset, if_pos rfl], by rw [get_sset, if_neg (Ne.symm hne), get_sset, if_pos rfl], by rw [next_set, next_set, nτ]; omega,
      fun o ho h h' => by rw [get_sset, if_neg (Ne.symm h), get_sset, if_neg (Ne.symm h'), gτo o ho h]⟩
end Go.Proofs.YtfmbpdacdopkgaaGreatDoor

namespace Go.Proofs.YtfmbpdacdopkgaaGreatDoor
set_option maxRecDepth 100000
open Go Go.Ai
open Go.RowKit (Below)

/-- The state while Check visits the slots. -/
structure Chk (cs : List Int) (A : AFr) (k : Nat) (σ : St) : Prop where
  g5 : σ.get 5 = some (.loop (r28 A 4))
  g4 : σ.get 4 = some (.dfr false)
  g3 : σ.get 3 = some (.cells [.ptr 2 0 0 192] 0 0)
  g2 : σ.get 2 = some (.cells (ints cs) 0 0)
  g1 : σ.get 1 = some (.cells [.i 0] 0 0)
  n : 6 ≤ σ.next
  ok : ∀ j, j < k → isV (cs.getD j 0) = true

structure ChkQ (cs : List Int) (A : AFr) (σ : St) : Prop where
  g5 : σ.get 5 = some (.loop { r28 A 4 with state := .done, pending := some .ret })
  g4 : σ.get 4 = some (.dfr false)
  g1 : σ.get 1 = some (.cells [.i 2] 0 0)
  bad : ∃ j, j < 192 ∧ isV (cs.getD j 0) = false

theorem chk_visit {n : Nat} {L : SumL} (h52 : sumOf L 52 = some SV) {N : Nat} {cs : List Int} (hlen : cs.length = 192) {A : AFr} (hA : A.n = 13) (hA2 : A.get 2 = .ptr 1 0 0 1) : Visit (evalK (EL L) N (n + 1)) 5 3 2 cs (Chk cs A) (ChkQ cs A) where
  hb k σ h := by simp [rdCells, h.g3]
  ho k σ h j hj := rd_ints h.g2 (by omega)
  hr ar s σ h1 h3 hs h := by
    have hn := h.n
    obtain ⟨r1, r2⟩ := round28 (K := evalK (EL L) N n) (L := L) (N := N) h52 h.g5 hA hA2 h.g1 (by omega) (by omega) (by omega) (ar : Int) (s : Int) (cs.getD ((ar - 1) * 64 + s) 0)
    cases hv : isV (cs.getD ((ar - 1) * 64 + s) 0) with
    | true =>
      obtain ⟨σ', e, q1, q2, q3⟩ := r1 hv
      refine .inl ⟨σ', e, q1, (q3 4 (by omega) (by omega)).trans h.g4, (q3 3 (by omega) (by omega)).trans h.g3, (q3 2 (by omega) (by omega)).trans h.g2, (q3 1 (by omega) (by omega)).trans h.g1, by omega, fun j hj => ?_⟩
      rcases Nat.lt_or_ge j ((ar - 1) * 64 + s) with hj' | hj'
      · exact h.ok j hj'
      · rw [show j = (ar - 1) * 64 + s by omega]; exact hv
    | false =>
      obtain ⟨σ', e, q1, q2, q3, q4⟩ := r2 hv
      exact .inr ⟨σ', e, q1, (q4 4 (by omega) (by omega) (by omega)).trans h.g4, q2, _, by omega, hv⟩

theorem all_iff {cs : List Int} (hlen : cs.length = 192) : cs.all isV = true ↔ ∀ j, j < 192 → isV (cs.getD j 0) = true := by
  rw [List.all_eq_true]
  constructor
  · intro h j hj
    rw [getD_lt (by omega)]
    exact h _ (List.getElem_mem ..)
  · intro h x hx
    obtain ⟨j, hj, rfl⟩ := List.getElem_of_mem hx
    have := h j (by omega)
    rwa [getD_lt hj] at this

theorem ld23 {L : SumL} {σ : St} {o : Nat} {x : AV} (h : σ.get o = some (.cells [x] 0 0)) : loadA (EL L) σ 23 (.ptr o 0 0 1) = some x := load_one (agg23 L) (by simp [rdCells, h])
theorem st23 {L : SumL} {σ : St} {o : Nat} {x : AV} {n : Int} (h : σ.get o = some (.cells [x] 0 0)) : storeA (EL L) σ 23 (.ptr o 0 0 1) (.i n) = some (σ.set o (.cells [.i n] 0 0)) := by
  simp [storeA, z23, AV.cells?, Value.cells, wrCells, h, AV.one, lone1, splice]

theorem call28 {L : SumL} (h52 : sumOf L 52 = some SV) (h44 : sumOf L 44 = none) (h48 : sumOf L 48 = none) (h64 : sumOf L 64 = none) {cs : List Int} (hlen : cs.length = 192) {N : Nat} (hN : 64 < N) (n : Nat) :
    ∃ σ', (evalK (EL L) N (n + 3)).call 28 [.agg (ints cs)] start = some (.ret (.i (if cs.all isV then 0 else 2)), σ') := by
  have hfn : (EL L).fn 28 = some Tryz.f28 := fnL Tryz.func28 rfl
  have f48 : (EL L).fn 48 = some Tryz.f48 := fnL Tryz.func48 rfl
  have f64 : (EL L).fn 64 = some Tryz.f64 := fnL Tryz.func64 rfl
  have hn : (frame0 Tryz.f28 [.agg (ints cs)]).n = 13 := rfl
  have g0 : (frame0 Tryz.f28 [.agg (ints cs)]).get 0 = .agg (ints cs) := rfl
  have hd : (frame0 Tryz.f28 [.agg (ints cs)]).df = [] := rfl
  generalize hfr : frame0 Tryz.f28 [.agg (ints cs)] = a at hn g0 hd
  have hst : start.next = 0 := rfl
  -- region 0
  obtain ⟨a1, σ1, e1, n1, d1, k11, k12, x1, m10, m11⟩ : ∃ a1 σ1, codeA (evalK (EL L) N (n + 2)) (EL L) N none (fAt Tryz.f28 [0]) a start = some (.normal, a1, σ1) ∧ a1.n = 13 ∧ a1.df = [] ∧ a1.get 1 = .ptr 0 0 0 192 ∧ a1.get 2 = .ptr 1 0 0 1 ∧ σ1.next = 2 ∧
      σ1.get 0 = some (.cells (ints cs) 0 0) ∧ σ1.get 1 = some (.cells [.i 0] 0 0) := by
    simp only [fAt, cAt, Tryz.f28]
    simp [code_region, opsA, oneA, wantedA, opA, kindOf, uponA, AFr.put, get_set, n_set, df_set, opd, ex2, hn, g0, hd, allocA, zero23, Value.cells, AV.cells?, ints_len, hlen, next_add, get_sadd]
  -- region 1
  obtain ⟨a2, σ2, e2, n2, d2, k22, k23, x2, m21, m22⟩ : ∃ a2 σ2, codeA (evalK (EL L) N (n + 2)) (EL L) N none (fAt Tryz.f28 [1, 0]) a1 σ1 = some (.normal, a2, σ2) ∧ a2.n = 13 ∧ a2.df = [] ∧ a2.get 2 = .ptr 1 0 0 1 ∧ a2.get 3 = .ptr 2 0 0 192 ∧ σ2.next = 3 ∧
      σ2.get 1 = some (.cells [.i 0] 0 0) ∧ σ2.get 2 = some (.cells (ints cs) 0 0) := by
    have hs := st96 (L := L) (σ := σ1.add (.cells (ints zimg) 0 0)) (o := 2) (cs := cs) (by rw [get_sadd, if_pos x1]) rep_len hlen
    simp only [fAt, cAt, Tryz.f28]
    simp [code_region, opsA, oneA, wantedA, opA, kindOf, readA, uponA, writeA, AFr.put, get_set, n_set, df_set, opd, ex2, n1, k11, k12, d1, ld37 m10 hlen, bd96 hlen, al96, x1, hs, next_add, next_set, get_sadd, get_sset, m11]
  -- region 2
  have e3 : codeA (evalK (EL L) N (n + 2)) (EL L) N none (fAt Tryz.f28 [1, 1, 0, 0]) a2 σ2 = some (.normal, a2.set 7 (.fn 64 [] [.ptr 3 0 0 1]), σ2.add (.cells [.ptr 2 0 0 192] 0 0)) := by
    have hc := call48 (n := n + 1) (L := L) (N := N) (o := 2) (σ := σ2)
    simp only [fAt, cAt, Tryz.f28]
    simp [code_region, opsA, oneA, wantedA, opA, kindOf, uponA, writeA, AFr.put, opd, callee?, callA, n2, k23, sum_eq, h48, f48, hc, x2]
  generalize hA : a2.set 7 (.fn 64 [] [.ptr 3 0 0 1]) = A at e3
  have A1 : A.n = 13 := by rw [← hA]; exact n2
  have A2 : A.get 2 = .ptr 1 0 0 1 := by rw [← hA]; simp [get_set, k22]
  have A3 : A.df = [] := by rw [← hA]; exact d2
  have A7 : A.get 7 = .fn 64 [] [.ptr 3 0 0 1] := by rw [← hA]; simp [get_set]
  generalize hσ3 : σ2.add (.cells [.ptr 2 0 0 192] 0 0) = σ3 at e3
  have x3 : σ3.next = 4 := by rw [← hσ3, next_add, x2]
  have hI : Chk cs A 0 (rangeSt σ3 A #[8] asg28 bdy28) := by
    refine ⟨?_, ?_, ?_, ?_, ?_, ?_, fun j hj => absurd hj (by omega)⟩
    · simp only [rangeSt, get_sadd, next_add, x3]; rfl
    · simp [rangeSt, get_sadd, next_add, x3]
    · simp [rangeSt, get_sadd, next_add, ← hσ3, x2]
    · simp [rangeSt, get_sadd, next_add, ← hσ3, x2, m22]
    · simp [rangeSt, get_sadd, next_add, ← hσ3, x2, m21]
    · simp [rangeSt, next_add, x3]
  obtain ⟨σ4, hc, hq⟩ := call64 (n := n) h44 hN (chk_visit (n := n) h52 hlen A1 A2) hI
  have hop : opd (EL L) A (.tmp 7) = .fn 64 [] [.ptr 3 0 0 1] := A7
  rcases hq with hq | hq
  · have hr := range_n (K := evalK (EL L) N (n + 2)) (N := N) (f := .tmp 7) (ps := #[8]) (assign := asg28) (body := bdy28) (a := A) (σ := σ3) hop h64 f64 (by rw [x3]; exact hc) (by rw [x3]; exact hq.g5) rfl rfl
    rw [x3] at hr
    have e5 : ∃ a', codeA (evalK (EL L) N (n + 2)) (EL L) N none (fAt Tryz.f28 [1, 1, 1]) { A with df := .mark 4 :: A.df } (σ4.set 5 (.loop { r28 A 4 with state := .exhausted })) = some (.ret, a', (σ4.set 5 (.loop { r28 A 4 with state := .exhausted })).set 1 (.cells [.i 0] 0 0)) ∧ a'.df = [.mark 4] ∧ a'.get 2 = .ptr 1 0 0 1 := by
      have hs := st23 (L := L) (σ := σ4.set 5 (.loop { r28 A 4 with state := .exhausted })) (o := 1) (n := 0) (by rw [get_sset, if_neg (by decide)]; exact hq.g1)
      have gA : ({ A with df := .mark 4 :: A.df } : AFr).get 2 = .ptr 1 0 0 1 := A2
      generalize hA' : ({ A with df := .mark 4 :: A.df } : AFr) = A' at gA
      have A'n : A'.n = 13 := by rw [← hA']; exact A1
      have A'd : A'.df = [.mark 4] := by rw [← hA']; simp [A3]
      simp only [fAt, cAt, Tryz.f28]
      simp [code_region, code_seq, code_ret, opsA, oneA, wantedA, opA, kindOf, uponA, writeA, AFr.put, opd, A'd, gA, hs]
    obtain ⟨a5, e5, d5, k5⟩ := e5
    have hall : cs.all isV = true := (all_iff hlen).2 fun j hj => hq.ok j hj
    refine ⟨_, call_mark hfn (show Tryz.f28.body = some (fAt Tryz.f28 []) from rfl) (by rw [hfr]; exact seq_n e1 (seq_n e2 (seq_n (seq_n e3 (block_n hr)) e5))) d5 (by rw [get_sset, if_neg (by decide), get_sset, if_neg (by decide)]; exact hq.g4) ?_⟩
    have hl := ld23 (L := L) (σ := ((σ4.set 5 (.loop { r28 A 4 with state := .exhausted })).set 1 (.cells [.i 0] 0 0)).set 4 (.dfr true)) (o := 1) (x := .i 0) (by rw [get_sset, if_neg (by decide), get_sset, if_pos rfl])
    simp [resultA, resultsA, Tryz.f28, k5, hl, hall]
  · have hr := range_ret (K := evalK (EL L) N (n + 2)) (N := N) (f := .tmp 7) (ps := #[8]) (assign := asg28) (body := bdy28) (a := A) (σ := σ3) hop h64 f64 (by rw [x3]; exact hc) (by rw [x3]; exact hq.g5) rfl rfl
    rw [x3] at hr
    have hall : cs.all isV = false := by
      obtain ⟨j, hj, hb⟩ := hq.bad
      rw [Bool.eq_false_iff]
      intro h
      rw [(all_iff hlen).1 h j hj] at hb
      cases hb
    refine ⟨_, call_mark hfn (show Tryz.f28.body = some (fAt Tryz.f28 []) from rfl) (by rw [hfr]; exact seq_n e1 (seq_n e2 (seq_ret (seq_n e3 (block_ret hr))))) (d := 4) (by simp [A3]) (by rw [get_sset, if_neg (by decide)]; exact hq.g4) ?_⟩
    have hl := ld23 (L := L) (σ := (σ4.set 5 (.loop { r28 A 4 with state := .exhausted, pending := some .ret })).set 4 (.dfr true)) (o := 1) (x := .i 2) (by rw [get_sset, if_neg (by decide), get_sset, if_neg (by decide)]; exact hq.g1)
    have gA : ({ A with df := .mark 4 :: A.df } : AFr).get 2 = .ptr 1 0 0 1 := A2
    simp [resultA, resultsA, Tryz.f28, gA, hl, hall]

def S28 : List AV → Option AV
  | [.agg cs] => match ints? cs with
    | some l => if l.length = 192 then some (.i (if l.all isV then 0 else 2)) else none
    | none => none
  | _ => none
theorem S28_eq {cs : List Int} (h : cs.length = 192) : S28 [.agg (ints cs)] = some (.i (if cs.all isV then 0 else 2)) := by simp [S28, ints?_ints, h]

theorem sum28 (W : World) : SumOk W 28 S28 := by
  refine sum_eval (L := L1) L1_ok (fun args x hx => ?_) W
  match args, hx with
  | [.agg cs], hx =>
    simp only [S28] at hx
    split at hx
    · rename_i l hl
      obtain rfl := ints?_some hl
      split at hx
      · rename_i hlen
        cases hx
        obtain ⟨σ', h⟩ := call28 (L := L1) rfl rfl rfl rfl hlen (N := 100) (by decide) 0
        exact ⟨[.agg (l.map (Value.int .i64)).toArray], _, by simp [AV.exacts?, AV.exact?, ints_exact], rfl, 100, 3, σ', h⟩
      · cases hx
    · cases hx
end Go.Proofs.YtfmbpdacdopkgaaGreatDoor
