/- Cells: ContainsFunc of numbers, good, the reference's Cells, there and SameInts. Conditions: none. -/
import Derived.Test.YtfmbpdacdopkgaaGreatDoorImgN6
namespace Go.Proofs.YtfmbpdacdopkgaaGreatDoor
set_option maxRecDepth 100000
open Go Go.Ai
open Go.RowKit (Below)

theorem call63 {L : SumL} (h52 : sumOf L 52 = some SV) (x : Int) {N n : Nat} : ∃ σ', (evalK (EL L) N (n + 1)).call 63 [.i x] start = some (.ret (.b (!isV x)), σ') := by
  have hfn : (EL L).fn 63 = some Tryz.f63 := fnL Tryz.func63 rfl
  have hn : (frame0 Tryz.f63 [.i x]).n = 6 := rfl
  have g0 : (frame0 Tryz.f63 [.i x]).get 0 = .i x := rfl
  have hd : (frame0 Tryz.f63 [.i x]).df = [] := rfl
  generalize hfr : frame0 Tryz.f63 [.i x] = a at hn g0 hd
  have hc : ∃ a', codeA (evalK (EL L) N n) (EL L) N none (fAt Tryz.f63 []) a start = some (.ret, a', start) ∧ a'.df = [] ∧ a'.get 2 = .b (!isV x) := by
    simp only [fAt, cAt, Tryz.f63]
    simp [code_region, code_seq, code_ret, opsA, oneA, wantedA, opA, kindOf, readA, uponA, writeA, AFr.put, get_set, n_set, df_set, opd, callee?, callA, un_not, hn, g0, hd, sum_eq, h52, SV]
  obtain ⟨a', e1, e2, e3⟩ := hc
  exact ⟨start, call_ret (x := .b (!isV x)) hfn (show Tryz.f63.body = some (fAt Tryz.f63 []) from rfl) (by rw [hfr]; exact e1) e2 (by simp [resultA, resultsA, Tryz.f63, e3])⟩
def SNV : List AV → Option AV
  | [.v (.int .i64 x)] => some (.b (!isV x))
  | _ => none
theorem sum63 (W : World) : SumOk W 63 SNV := by
  refine sum_eval (L := L1) L1_ok (fun args x hx => ?_) W
  match args, hx with
  | [.v (.int .i64 x)], hx =>
    cases hx
    obtain ⟨σ', h⟩ := call63 (L := L1) rfl x (N := 10) (n := 0)
    exact ⟨_, _, rfl, rfl, 10, 1, σ', h⟩
/-- The fifth layer. -/
def L5 : SumL := (63, SNV) :: L4
theorem L5_ok : ∀ w, AllOk w L5 := cons_ok L4_ok sum63 Tryz.func63 rfl

noncomputable def in77 : Code := fAt Tryz.f77 [1, 0, 1, 0, 0]
structure In77 (l : List Int) (x : AV) (σ0 : St) (k : Nat) (a : AFr) (σ : St) : Prop where
  n : a.n = 19
  d : a.df = []
  g0 : a.get 0 = x
  g1 : a.get 1 = .fn 63 [] []
  g7 : a.get 7 = .i (l.length : Int)
  g8 : a.get 8 = .i (k : Int)
  ok : ∀ j (h : j < l.length), j < k → isV l[j] = true
  s : σ = σ0

theorem call77 {n : Nat} {L : SumL} (h63 : sumOf L 63 = some SNV) {N : Nat} {l : List Int} {x : AV} {σ : St} (hs : SlAt σ 1 x (ones l)) (hN : l.length < N) (hl : l.length < 4611686018427387904) :
    ∃ r : Int, (evalK (EL L) N (n + 1)).call 77 [x, .fn 63 [] []] σ = some (.ret (.i r), σ) ∧ decide (0 ≤ r) = !l.all isV := by
  have hfn : (EL L).fn 77 = some Tryz.f77 := fnL Tryz.func77 rfl
  have hn : (frame0 Tryz.f77 [x, .fn 63 [] []]).n = 19 := rfl
  have g0 : (frame0 Tryz.f77 [x, .fn 63 [] []]).get 0 = x := rfl
  have g1 : (frame0 Tryz.f77 [x, .fn 63 [] []]).get 1 = .fn 63 [] [] := rfl
  have hd : (frame0 Tryz.f77 [x, .fn 63 [] []]).df = [] := rfl
  generalize hfr : frame0 Tryz.f77 [x, .fn 63 [] []] = a at hn g0 g1 hd
  have hlen := hs.len (E := EL L) (t := 38) (el := 3) Tryz.underlying38
  rw [ones_len] at hlen
  obtain ⟨a1, e1, k1⟩ : ∃ a1, codeA (evalK (EL L) N n) (EL L) N none (.seq (fAt Tryz.f77 [0]) (fAt Tryz.f77 [1, 0, 0])) a σ = some (.normal, a1, σ) ∧ In77 l x σ 0 a1 σ := by
    simp only [fAt, cAt, Tryz.f77]
    simp [code_region, code_seq, opsA, oneA, wantedA, opA, kindOf, readA, uponA, AFr.put, get_set, n_set, opd, hn, g0, hlen]
    exact ⟨by simp [n_set, hn], by simp [df_set, hd], by simp [get_set, g0], by simp [get_set, g1], by simp [get_set], by simp [get_set], (fun j _ h => absurd h (by omega)), rfl⟩
  have hlp := loop_inv (K := evalK (EL L) N n) (E := EL L) (N := N) (c := in77) 0 (In77 l x σ) (fun a' σ' => σ' = σ ∧ a'.df = [] ∧ a'.n = 19 ∧ l.all isV = true) (fun a' σ' => σ' = σ ∧ a'.df = [] ∧ (∃ k : Nat, a'.get 4 = .i (k : Int)) ∧ l.all isV = false) l.length
    (fun k a σ' hk hI => by
      obtain ⟨hn, hd, g0, g1, g7, g8, ok, rfl⟩ := hI
      have hlt : (k : Int) < (l.length : Int) := by omega
      obtain ⟨p, hp, hr⟩ := hs.at (E := EL L) (t := 38) (el := 3) Tryz.underlying38 (z3 L) (ones_at hk) (k := .i64)
      have hld := load_one (agg3 L) hr
      have hw := wrap_nat (n := k) (by omega)
      cases hv : isV l[k] with
      | true =>
        left
        have hok := ok_step hk ok hv
        simp only [in77, fAt, cAt, Tryz.f77]
        simp [code_skip, code_region, code_seq, code_cond, code_block, opsA, oneA, wantedA, opA, kindOf, readA, uponA, writeA, AFr.put, get_set, n_set, opd, callee?, callA, cmp_lss, ar_add, ex2, hn, g0, g1, g7, g8, hlt, hp, hld, sum_eq, h63, SNV, hv, hw]
        exact ⟨by simp [n_set, hn], by simp [df_set, hd], by simp [get_set, g0], by simp [get_set, g1], by simp [get_set, g7], by simp [get_set], hok, rfl⟩
      | false =>
        right
        have hall := not_all hk hv
        rw [hall]
        simp only [in77, fAt, cAt, Tryz.f77]
        simp [code_skip, code_region, code_seq, code_cond, code_block, code_ret, opsA, oneA, wantedA, opA, kindOf, readA, uponA, writeA, AFr.put, get_set, n_set, df_set, opd, callee?, callA, cmp_lss, ex2, hn, hd, g0, g1, g7, g8, hlt, hp, hld, sum_eq, h63, SNV, hv]
        exact ⟨k, rfl⟩)
    (fun a σ' hI => by
      obtain ⟨hn, hd, g0, g1, g7, g8, ok, rfl⟩ := hI
      have hall : l.all isV = true := all_of fun j h => ok j h h
      rw [hall]
      simp only [in77, fAt, cAt, Tryz.f77]
      simp [code_region, code_seq, code_cond, code_exit, opsA, oneA, wantedA, opA, kindOf, readA, uponA, AFr.put, get_set, n_set, df_set, opd, cmp_lss, ex2, hn, hd, g7, g8]) hN k1
  rcases hlp with ⟨a2, σ2, e2, rfl, d2, n2, hall⟩ | ⟨a2, σ2, e2, rfl, d2, ⟨k, k2⟩, hall⟩
  · have e3 : codeA (evalK (EL L) N n) (EL L) N none (fAt Tryz.f77 [1, 1]) a2 σ2 = some (.ret, a2.set 4 (.i (-1)), σ2) := by
      simp only [fAt, cAt, Tryz.f77]
      simp [code_region, code_seq, code_ret, opsA, oneA, wantedA, opA, kindOf, readA, uponA, AFr.put, opd, n2]
    exact ⟨-1, call_ret hfn (show Tryz.f77.body = some (fAt Tryz.f77 []) from rfl) (by rw [hfr]; exact body_n e1 e2 e3) (by rw [df_set]; exact d2) (by simp [resultA, resultsA, Tryz.f77, get_set]), by rw [hall]; rfl⟩
  · exact ⟨k, call_ret hfn (show Tryz.f77.body = some (fAt Tryz.f77 []) from rfl) (by rw [hfr]; exact body_ret e1 e2) d2 (by simp [resultA, resultsA, Tryz.f77, k2]), by rw [hall]; simp⟩

theorem call62 {n : Nat} {L : SumL} (h63 : sumOf L 63 = some SNV) (h77 : sumOf L 77 = none) {N : Nat} {l : List Int} {x : AV} {σ : St} (hs : SlAt σ 1 x (ones l)) (hN : l.length < N) (hl : l.length < 4611686018427387904) :
    (evalK (EL L) N (n + 2)).call 62 [x, .fn 63 [] []] σ = some (.ret (.b (!l.all isV)), σ) := by
  have hfn : (EL L).fn 62 = some Tryz.f62 := fnL Tryz.func62 rfl
  have f77 : (EL L).fn 77 = some Tryz.f77 := fnL Tryz.func77 rfl
  have hn : (frame0 Tryz.f62 [x, .fn 63 [] []]).n = 9 := rfl
  have g0 : (frame0 Tryz.f62 [x, .fn 63 [] []]).get 0 = x := rfl
  have g1 : (frame0 Tryz.f62 [x, .fn 63 [] []]).get 1 = .fn 63 [] [] := rfl
  have hd : (frame0 Tryz.f62 [x, .fn 63 [] []]).df = [] := rfl
  generalize hfr : frame0 Tryz.f62 [x, .fn 63 [] []] = a at hn g0 g1 hd
  obtain ⟨r, hc, hr⟩ := call77 (n := n) (L := L) h63 hs hN hl
  generalize l.all isV = b at hr
  have hc' : ∃ a', codeA (evalK (EL L) N (n + 1)) (EL L) N none (fAt Tryz.f62 []) a σ = some (.ret, a', σ) ∧ a'.df = [] ∧ a'.get 4 = .b (!b) := by
    simp only [fAt, cAt, Tryz.f62]
    simp [code_region, code_seq, code_ret, opsA, oneA, wantedA, opA, kindOf, readA, uponA, writeA, AFr.put, get_set, n_set, df_set, opd, callee?, callA, cmp_geq, hn, g0, g1, hd, sum_eq, h77, f77, hc, hr]
  obtain ⟨a', e1, e2, e3⟩ := hc'
  exact call_ret (x := .b (!b)) hfn (show Tryz.f62.body = some (fAt Tryz.f62 []) from rfl) (by rw [hfr]; exact e1) e2 (by simp [resultA, resultsA, Tryz.f62, e3])

/-- Numbers are cells of a unit. -/
def cellsOk (l : List Int) : Bool := decide (l.length ≤ 400) && l.all isV
/-- Are the arguments of a transfer formed? -/
def goodT (l : List Lk) (cs c : List Int) : Bool := linked l && cs.all isV && cellsOk c

theorem call41 {n : Nat} {L : SumL} (h36 : sumOf L 36 = some S36) (h28 : sumOf L 28 = some S28) (h63 : sumOf L 63 = some SNV) (h53 : sumOf L 53 = none) (h62 : sumOf L 62 = none) (h77 : sumOf L 77 = none) {N : Nat} (hN : 400 < N) {cs : List Int} (hc : cs.length = 192) {l : List Lk} {c : List Int} {x y : AV} {σ0 : St}
    (hs : ∀ σ, Keep σ0.next σ0 σ → SlAt σ 6 x (lcs l)) (hy : ∀ σ, Keep σ0.next σ0 σ → SlAt σ 1 y (ones c)) :
    ∃ σ', (evalK (EL L) N (n + 3)).call 41 [x, .agg (ints cs), y] σ0 = some (.ret (.b (goodT l cs c)), σ') ∧ Keep σ0.next σ0 σ' := by
  have hfn : (EL L).fn 41 = some Tryz.f41 := fnL Tryz.func41 rfl
  have f53 : (EL L).fn 53 = some Tryz.f53 := fnL Tryz.func53 rfl
  have f62 : (EL L).fn 62 = some Tryz.f62 := fnL Tryz.func62 rfl
  have hn : (frame0 Tryz.f41 [x, .agg (ints cs), y]).n = 24 := rfl
  have g0 : (frame0 Tryz.f41 [x, .agg (ints cs), y]).get 0 = x := rfl
  have g1 : (frame0 Tryz.f41 [x, .agg (ints cs), y]).get 1 = .agg (ints cs) := rfl
  have g2 : (frame0 Tryz.f41 [x, .agg (ints cs), y]).get 2 = y := rfl
  have hd : (frame0 Tryz.f41 [x, .agg (ints cs), y]).df = [] := rfl
  generalize hfr : frame0 Tryz.f41 [x, .agg (ints cs), y] = a at hn g0 g1 g2 hd
  have hbx := box37 (L := L) 1 cs hc
  obtain ⟨a1, e1, n1, d1, b0, b2, b4⟩ : ∃ a1, codeA (evalK (EL L) N (n + 2)) (EL L) N none (fAt Tryz.f41 [0]) a σ0 = some (.normal, a1, σ0.add (.cells (ints cs) 0 0)) ∧ a1.n = 24 ∧ a1.df = [] ∧ a1.get 0 = x ∧ a1.get 2 = y ∧ a1.get 4 = .ptr σ0.next 0 0 192 := by
    simp only [fAt, cAt, Tryz.f41]
    simp [code_region, opsA, oneA, wantedA, opA, kindOf, readA, uponA, AFr.put, get_set, n_set, df_set, opd, hn, g0, g1, g2, hd, hbx]
  have kA : Keep σ0.next σ0 (σ0.add (.cells (ints cs) 0 0)) := Keep.add _ (Nat.le_refl _)
  have hgA : (σ0.add (.cells (ints cs) 0 0)).get σ0.next = some (.cells (ints cs) 0 0) := St.get_add_same _ _
  have nA : (σ0.add (.cells (ints cs) 0 0)).next = σ0.next + 1 := rfl
  generalize σ0.add (.cells (ints cs) 0 0) = σA at e1 kA hgA nA
  obtain ⟨σB, c53, kB⟩ := call53 (n := n + 1) (L := L) h36 hN (σ0 := σA) (fun τ hk => hs τ (kA.trans hk (by omega)))
  have kAB : Keep σ0.next σ0 σB := kA.trans kB (by omega)
  have hld := ld37 (L := L) (σ := σB) (o := σ0.next) ((kB.same _ (by omega)).trans hgA) hc
  have s28 := S28_eq hc
  have hlen := (hy σB kAB).len (E := EL L) (t := 38) (el := 3) Tryz.underlying38
  rw [ones_len] at hlen
  have e2 : ∃ a2, codeA (evalK (EL L) N (n + 2)) (EL L) N none (fAt Tryz.f41 [1]) a1 σA = some (.ret, a2, σB) ∧ a2.df = [] ∧ a2.get 6 = .b (goodT l cs c) := by
    unfold goodT cellsOk
    cases hl : linked l with
    | false =>
      rw [hl] at c53
      simp only [fAt, cAt, Tryz.f41]
      simp [code_region, code_seq, code_ret, opsA, oneA, wantedA, opA, kindOf, readA, uponA, writeA, AFr.put, get_set, n_set, df_set, opd, callee?, callA, n1, d1, b0, sum_eq, h53, f53, c53]
    | true =>
      rw [hl] at c53
      cases hv : cs.all isV with
      | false =>
        rw [hv] at s28
        simp only [fAt, cAt, Tryz.f41]
        simp [code_region, code_seq, code_ret, opsA, oneA, wantedA, opA, kindOf, readA, uponA, writeA, AFr.put, get_set, n_set, df_set, opd, callee?, callA, eq_int, n1, d1, b0, b4, sum_eq, h53, f53, c53, hld, h28, s28]
      | true =>
        rw [hv] at s28
        by_cases hcl : c.length ≤ 400
        · have hcl' : (c.length : Int) ≤ 400 := by omega
          have c62 := call62 (n := n) (L := L) (N := N) h63 h77 (hy σB kAB) (by omega) (by omega)
          generalize c.all isV = b at c62
          simp only [fAt, cAt, Tryz.f41]
          simp [code_region, code_seq, code_ret, opsA, oneA, wantedA, opA, kindOf, readA, uponA, writeA, AFr.put, get_set, n_set, df_set, opd, callee?, callA, cmp_leq, un_not, eq_int, n1, d1, b0, b2, b4, sum_eq, h53, f53, c53, hld, h28, s28, hlen, hcl', hcl, h62, f62, c62]
        · have hcl' : ¬ ((c.length : Int) ≤ 400) := by omega
          simp only [fAt, cAt, Tryz.f41]
          simp [code_region, code_seq, code_ret, opsA, oneA, wantedA, opA, kindOf, readA, uponA, writeA, AFr.put, get_set, n_set, df_set, opd, callee?, callA, cmp_leq, eq_int, n1, d1, b0, b2, b4, sum_eq, h53, f53, c53, hld, h28, s28, hlen, hcl', hcl]
  obtain ⟨a2, e2, d2, g6⟩ := e2
  exact ⟨σB, call_ret (x := .b (goodT l cs c)) hfn (show Tryz.f41.body = some (fAt Tryz.f41 []) from rfl) (by rw [hfr]; exact seq_n e1 e2) d2 (by simp [resultA, resultsA, Tryz.f41, g6]), kAB⟩

/-- The reference's Cells. -/
theorem call18 {n : Nat} {L : SumL} (h54 : sumOf L 54 = some SV) (h45 : sumOf L 45 = none) {N : Nat} (hN : 400 < N) {c : List Int} {y : AV} {σ : St} (hy : SlAt σ 1 y (ones c)) : (evalK (EL L) N (n + 2)).call 18 [y] σ = some (.ret (.b (cellsOk c)), σ) := by
  have hfn : (EL L).fn 18 = some Tryz.f18 := fnL Tryz.func18 rfl
  have f45 : (EL L).fn 45 = some Tryz.f45 := fnL Tryz.func45 rfl
  have hn : (frame0 Tryz.f18 [y]).n = 10 := rfl
  have g0 : (frame0 Tryz.f18 [y]).get 0 = y := rfl
  have hd : (frame0 Tryz.f18 [y]).df = [] := rfl
  generalize hfr : frame0 Tryz.f18 [y] = a at hn g0 hd
  have hlen := hy.len (E := EL L) (t := 38) (el := 3) Tryz.underlying38
  rw [ones_len] at hlen
  have e : ∃ a2, codeA (evalK (EL L) N (n + 1)) (EL L) N none (fAt Tryz.f18 []) a σ = some (.ret, a2, σ) ∧ a2.df = [] ∧ a2.get 2 = .b (cellsOk c) := by
    unfold cellsOk
    by_cases hcl : c.length ≤ 400
    · have hcl' : (c.length : Int) ≤ 400 := by omega
      have c45 := call45 (n := n) (L := L) (N := N) h54 hy (by omega) (by omega)
      generalize c.all isV = b at c45
      simp only [fAt, cAt, Tryz.f18]
      simp [code_region, code_seq, code_ret, opsA, oneA, wantedA, opA, kindOf, readA, uponA, writeA, AFr.put, get_set, n_set, df_set, opd, callee?, callA, cmp_leq, hn, g0, hd, hlen, hcl, hcl', sum_eq, h45, f45, c45]
    · have hcl' : ¬ ((c.length : Int) ≤ 400) := by omega
      simp only [fAt, cAt, Tryz.f18]
      simp [code_region, code_seq, code_ret, opsA, oneA, wantedA, opA, kindOf, readA, uponA, AFr.put, get_set, n_set, df_set, opd, cmp_leq, hn, g0, hd, hlen, hcl, hcl']
  obtain ⟨a2, e2, d2, g6⟩ := e
  exact call_ret (x := .b (cellsOk c)) hfn (show Tryz.f18.body = some (fAt Tryz.f18 []) from rfl) (by rw [hfr]; exact e2) d2 (by simp [resultA, resultsA, Tryz.f18, g6])
end Go.Proofs.YtfmbpdacdopkgaaGreatDoor

namespace Go.Proofs.YtfmbpdacdopkgaaGreatDoor
set_option maxRecDepth 100000
open Go Go.Ai
open Go.RowKit (Below)

/-- Do the links of a unit have cells that are there? -/
def thereT (l : List Lk) (u : Int) (n : Nat) : Bool := l.all fun x => !(x.u == u && decide ((n : Int) ≤ x.c))
def mine (u : Int) (l : List Lk) : List Lk := l.filter fun x => x.u == u

/-- A link is laid into a new object. -/
theorem lay74 {L : SumL} {σ : St} (z : Lk) : ∃ τ, τ = (σ.add (.cells lz 0 0)).set σ.next (.cells (lc z) 0 0) ∧ storeA (EL L) (σ.add (.cells lz 0 0)) 74 (.ptr σ.next 0 0 6) (.agg [.i z.u, .i z.c, .i z.k, .i z.a, .i z.s, .b z.o]) = some τ ∧ τ.next = σ.next + 1 ∧ (∀ o, o < σ.next → τ.get o = σ.get o) ∧ τ.get σ.next = some (.cells (lc z) 0 0) ∧
    loadA (EL L) τ 3 (.ptr σ.next 0 0 1) = some (.i z.u) ∧ loadA (EL L) τ 3 (.ptr σ.next 1 0 1) = some (.i z.c) ∧ loadA (EL L) τ 3 (.ptr σ.next 2 0 1) = some (.i z.k) ∧ loadA (EL L) τ 3 (.ptr σ.next 3 0 1) = some (.i z.a) ∧ loadA (EL L) τ 3 (.ptr σ.next 4 0 1) = some (.i z.s) ∧ loadA (EL L) τ 4 (.ptr σ.next 5 0 1) = some (.b z.o) ∧
    loadA (EL L) τ 74 (.ptr σ.next 0 0 6) = some (.agg [.i z.u, .i z.c, .i z.k, .i z.a, .i z.s, .b z.o]) := by
  have gp : ((σ.add (.cells lz 0 0)).set σ.next (.cells (lc z) 0 0)).get σ.next = some (.cells (lc z) 0 0) := by rw [get_sset, if_pos rfl]
  obtain ⟨r0, r1, r2, r3, r4, r5⟩ := rdL gp
  exact ⟨_, rfl, st74 z (St.get_add_same _ _), rfl, fun o ho => by rw [get_sset, if_neg (by omega), get_sadd, if_neg (by omega)], gp, load_one (agg3 L) r0, load_one (agg3 L) r1, load_one (agg3 L) r2, load_one (agg3 L) r3, load_one (agg3 L) r4, load_one (agg4 L) r5,
    load_agg (agg74 L) (z74 L) (by simp only [rdCells, gp]; rfl)⟩
theorem fa74s {L : SumL} {o : Nat} : fieldAddrA (EL L) 74 (.ptr o 0 0 6) 0 = some (.ptr o 0 0 1) ∧ fieldAddrA (EL L) 74 (.ptr o 0 0 6) 1 = some (.ptr o 1 0 1) ∧ fieldAddrA (EL L) 74 (.ptr o 0 0 6) 2 = some (.ptr o 2 0 1) ∧ fieldAddrA (EL L) 74 (.ptr o 0 0 6) 3 = some (.ptr o 3 0 1) ∧ fieldAddrA (EL L) 74 (.ptr o 0 0 6) 4 = some (.ptr o 4 0 1) ∧ fieldAddrA (EL L) 74 (.ptr o 0 0 6) 5 = some (.ptr o 5 0 1) := by
  refine ⟨?_, ?_, ?_, ?_, ?_, ?_⟩ <;> exact (fa74 (by omega) (by omega)).trans (by simp)

theorem bs74 {L : SumL} {a : AFr} {o : Oper} {t : Nat} {u v w x y z : AV} (h : o.op = .buildSlice 34 1 #[(0, .tmp t)]) (ht : a.get t = .agg [u, v, w, x, y, z]) : allocA (EL L) a o = some (.cells [u, v, w, x, y, z] 0 0, fun id => .sl id 0 1 0 6) := by
  simp [allocA, h, und_eq, Tryz.underlying34, z74, zeros, zero74, Value.cells, repl, fillA, opd, ht, AV.cells?, splice]

theorem keep_nx {b : Nat} {σ0 σ τ : St} (kp : Keep b σ0 σ) (hb : b ≤ σ.next) (n : σ.next ≤ τ.next) (h : ∀ o, o < σ.next → τ.get o = σ.get o) : Keep b σ0 τ := kp.trans (b := b) (c := b) ⟨n, fun o ho => h o (by omega)⟩ (Nat.le_refl _)

/- image.of. -/
noncomputable def in42 : Code := fAt Tryz.f42 [1, 1, 0, 1, 0, 0]
structure In42 (l : List Lk) (x : AV) (u : Int) (m : Nat) (σ0 : St) (k : Nat) (a : AFr) (σ : St) : Prop where
  n : a.n = 31
  d : a.df = []
  g1 : a.get 1 = .i u
  g2 : a.get 2 = .i (m : Int)
  g11 : a.get 11 = x
  g12 : a.get 12 = .i (l.length : Int)
  g13 : a.get 13 = .i (k : Int)
  y : Grow σ0.next σ 6 (a.get 8) (lcs (mine u (l.take k)))
  ok : thereT (l.take k) u m = true
  kp : Keep σ0.next σ0 σ

theorem mine_take {l : List Lk} {u : Int} {k : Nat} (hk : k < l.length) : mine u (l.take (k + 1)) = mine u (l.take k) ++ if l[k].u == u then [l[k]] else [] := by
  unfold mine
  rw [List.take_succ_eq_append_getElem hk, List.filter_append]
  congr 1
  simp only [List.filter_cons, List.filter_nil]
theorem there_take {l : List Lk} {u : Int} {m k : Nat} (hk : k < l.length) : thereT (l.take (k + 1)) u m = (thereT (l.take k) u m && !(l[k].u == u && decide ((m : Int) ≤ l[k].c))) := by
  unfold thereT
  rw [List.take_succ_eq_append_getElem hk, List.all_append]; simp
theorem there_false {l : List Lk} {u : Int} {m k : Nat} (_hk : k < l.length) (h : thereT (l.take (k + 1)) u m = false) : thereT l u m = false := by
  rw [Bool.eq_false_iff] at h ⊢
  intro h'
  refine h ?_
  unfold thereT at h' ⊢
  rw [List.all_eq_true] at h' ⊢
  intro x hx
  exact h' x (List.mem_of_mem_take hx)
theorem lcs_append (l m : List Lk) : lcs (l ++ m) = lcs l ++ lcs m := by simp [lcs]

theorem in42_step {K : Kont} {L : SumL} {N : Nat} {l : List Lk} {x : AV} {u : Int} {m : Nat} {σ0 : St} (hs : ∀ σ, Keep σ0.next σ0 σ → SlAt σ 6 x (lcs l)) (hl : l.length ≤ 400) {k : Nat} (hk : k < l.length) {a : AFr} {σ : St} (h : In42 l x u m σ0 k a σ) :
    (∃ a' σ', codeA K (EL L) N none in42 a σ = some (.normal, a', σ') ∧ In42 l x u m σ0 (k + 1) a' σ') ∨ ∃ a' σ', codeA K (EL L) N none in42 a σ = some (.ret, a', σ') ∧ Keep σ0.next σ0 σ' ∧ a'.df = [] ∧ a'.get 6 = .v (.slice none 0 0) ∧ a'.get 7 = .i 6 ∧ thereT l u m = false := by
  obtain ⟨hn, hd, g1, g2, g11, g12, g13, hy, ok, kp⟩ := h
  have hlt : (k : Int) < (l.length : Int) := by omega
  obtain ⟨p, hp, hr⟩ := (hs σ kp).at (E := EL L) (t := 34) (el := 74) Tryz.underlying34 (z74 L) (lcs_at hk) (k := .i64)
  have hld := load_agg (agg74 L) (z74 L) hr
  have hw := wrap_nat (n := k) (by omega)
  have hmt := mine_take (u := u) hk
  have htt := there_take (u := u) (m := m) hk
  have htf := there_false (u := u) (m := m) hk
  generalize hz : l[k] = z at hld hmt htt
  have kle := kp.le
  obtain ⟨τ, -, hst, nτ, oτ, gp, m0, m1, m2, m3, m4, m5, ma⟩ := lay74 (L := L) (σ := σ) z
  obtain ⟨k0, k1, -⟩ := fa74s (L := L) (o := σ.next)
  have kτ : Keep σ0.next σ0 τ := keep_nx kp (by omega) (by omega) oτ
  have hyτ : Grow σ0.next τ 6 (a.get 8) (lcs (mine u (l.take k))) := hy.keep (by omega) fun o _ h => oτ o h
  have hml : (mine u (l.take k)).length ≤ 400 := Nat.le_trans (List.length_filter_le ..) (by simp; omega)
  generalize h8 : a.get 8 = y0 at hyτ
  by_cases hu : z.u = u
  · have hu1 : (z.u != u) = false := by simpa using hu
    have hu2 : (z.u == u) = true := by simpa using hu
    rw [hu2] at hmt htt
    by_cases hcl : (m : Int) ≤ z.c
    · right
      rw [ok] at htt
      have htl := htf (by rw [htt]; simp [hcl])
      rw [htl]
      simp only [in42, fAt, cAt, Tryz.f42]
      simp [code_skip, code_region, code_seq, code_cond, code_block, code_ret, opsA, oneA, wantedA, opA, kindOf, readA, uponA, writeA, AFr.put, get_set, n_set, df_set, opd, cmp_lss, cmp_geq, ne_int, ex2, hn, hd, g1, g2, g11, g12, g13, hlt, hp, hld, al74, hst, k0, k1, m0, m1, hu1, hcl]
      exact kτ
    · left
      obtain ⟨i74, zz, hi74, hz74, hsz, hzs, hbt⟩ := inf74 L
      have gτ1 : (τ.add (.cells [.i z.u, .i z.c, .i z.k, .i z.a, .i z.s, .b z.o] 0 0)).get τ.next = some (.cells [.i z.u, .i z.c, .i z.k, .i z.a, .i z.s, .b z.o] 0 0) := St.get_add_same _ _
      have gτ1o : ∀ o, o < τ.next → (τ.add (.cells [.i z.u, .i z.c, .i z.k, .i z.a, .i z.s, .b z.o] 0 0)).get o = τ.get o := fun o ho => by rw [get_sadd, if_neg (by omega)]
      obtain ⟨y, υ, hap, hgr, hkp⟩ := append_grow (E := EL L) (t := 34) (u := 34) (el := 74) (el' := 74) (y := [.i z.u, .i z.c, .i z.k, .i z.a, .i z.s, .b z.o]) Tryz.underlying34 Tryz.underlying34 hi74 hz74 hsz hzs hbt (by decide) (hyτ.keep (σ' := τ.add (.cells [.i z.u, .i z.c, .i z.k, .i z.a, .i z.s, .b z.o] 0 0)) (by rw [next_add]; omega) fun o _ h => gτ1o o h) (by rw [next_add]; omega) gτ1 rfl rfl (by rw [lcs_len]; omega)
      have hle := hkp.le
      rw [next_add] at hle
      have kυ : Keep σ0.next σ0 υ := kτ.trans (b := σ0.next) (c := σ0.next) ⟨by omega, fun o ho => (hkp.same o ho).trans (gτ1o o (by omega))⟩ (Nat.le_refl _)
      simp only [if_true] at hmt
      simp only [in42, fAt, cAt, Tryz.f42]
      simp [code_skip, code_region, code_seq, code_cond, code_block, opsA, oneA, wantedA, opA, kindOf, readA, uponA, writeA, AFr.put, get_set, n_set, opd, cmp_lss, cmp_geq, ar_add, ne_int, ex2, hn, g1, g2, h8, g11, g12, g13, hlt, hp, hld, al74, hst, k0, k1, m0, m1, ma, hu1, hcl, bs74 (L := L) (t := 26) (u := .i z.u) (v := .i z.c) (w := .i z.k) (x := .i z.a) (y := .i z.s) (z := .b z.o), hap, hw]
      exact ⟨by simp [n_set, hn], by simp [df_set, hd], by simp [get_set, g1], by simp [get_set, g2], by simp [get_set, g11], by simp [get_set, g12], by simp [get_set], by rw [hmt, lcs_append]; simp [get_set]; exact hgr, by rw [htt, ok]; simp [hcl], kυ⟩
  · left
    have hu1 : (z.u != u) = true := by simpa using hu
    have hu2 : (z.u == u) = false := by simpa using hu
    rw [hu2] at hmt htt
    simp only [in42, fAt, cAt, Tryz.f42]
    simp [code_skip, code_region, code_seq, code_cond, code_block, code_exit, opsA, oneA, wantedA, opA, kindOf, readA, uponA, writeA, AFr.put, get_set, n_set, opd, cmp_lss, ar_add, ne_int, ex2, hn, g1, g11, g12, g13, hlt, hp, hld, al74, hst, k0, m0, hu1, hw]
    exact ⟨by simp [n_set, hn], by simp [df_set, hd], by simp [get_set, g1], by simp [get_set, g2], by simp [get_set, g11], by simp [get_set, g12], by simp [get_set], by rw [hmt]; simpa [get_set, h8] using hyτ, by rw [htt, ok]; rfl, kτ⟩

/-- image.of. -/
theorem call42 {n : Nat} {L : SumL} {N : Nat} (hN : 400 < N) {l : List Lk} (hl : l.length ≤ 400) {x : AV} (u : Int) (m : Nat) {σ0 : St} (hs : ∀ σ, Keep σ0.next σ0 σ → SlAt σ 6 x (lcs l)) :
    ∃ y σ', (evalK (EL L) N (n + 1)).call 42 [x, .i u, .i (m : Int)] σ0 = some (.ret (.tup [y, .i (if thereT l u m then 0 else 6)]), σ') ∧ Grow σ0.next σ' 6 y (if thereT l u m then lcs (mine u l) else []) ∧ Keep σ0.next σ0 σ' := by
  have hfn : (EL L).fn 42 = some Tryz.f42 := fnL Tryz.func42 rfl
  have hn : (frame0 Tryz.f42 [x, .i u, .i (m : Int)]).n = 31 := rfl
  have g0 : (frame0 Tryz.f42 [x, .i u, .i (m : Int)]).get 0 = x := rfl
  have g1 : (frame0 Tryz.f42 [x, .i u, .i (m : Int)]).get 1 = .i u := rfl
  have g2 : (frame0 Tryz.f42 [x, .i u, .i (m : Int)]).get 2 = .i (m : Int) := rfl
  have hd : (frame0 Tryz.f42 [x, .i u, .i (m : Int)]).df = [] := rfl
  generalize hfr : frame0 Tryz.f42 [x, .i u, .i (m : Int)] = a at hn g0 g1 g2 hd
  have hlen := (hs σ0 (Keep.refl _ _)).len (E := EL L) (t := 34) (el := 74) Tryz.underlying34
  rw [lcs_len] at hlen
  obtain ⟨a1, e1, n1, d1, b0, b1, b2⟩ : ∃ a1, codeA (evalK (EL L) N n) (EL L) N none (fAt Tryz.f42 [0]) a σ0 = some (.normal, a1, σ0) ∧ a1.n = 31 ∧ a1.df = [] ∧ a1.get 0 = x ∧ a1.get 1 = .i u ∧ a1.get 2 = .i (m : Int) := by
    simp only [fAt, cAt, Tryz.f42]
    simp [code_region, opsA, oneA, wantedA, opA, kindOf, readA, uponA, AFr.put, get_set, n_set, df_set, opd, hn, hd, g0, g1, g2]
  obtain ⟨a2, e2, n2, d2, c0, c1, c2, c8⟩ : ∃ a2, codeA (evalK (EL L) N n) (EL L) N none (fAt Tryz.f42 [1, 0]) a1 σ0 = some (.normal, a2, σ0) ∧ a2.n = 31 ∧ a2.df = [] ∧ a2.get 0 = x ∧ a2.get 1 = .i u ∧ a2.get 2 = .i (m : Int) ∧ a2.get 8 = .v (.slice none 0 0) := by
    simp only [fAt, cAt, Tryz.f42]
    simp [code_region, opsA, oneA, wantedA, opA, kindOf, readA, uponA, AFr.put, get_set, n_set, df_set, opd, n1, d1, b0, b1, b2]
  obtain ⟨a3, e3, i3⟩ : ∃ a3, codeA (evalK (EL L) N n) (EL L) N none (fAt Tryz.f42 [1, 1, 0, 0]) a2 σ0 = some (.normal, a3, σ0) ∧ In42 l x u m σ0 0 a3 σ0 := by
    simp only [fAt, cAt, Tryz.f42]
    simp [code_region, opsA, oneA, wantedA, opA, kindOf, readA, uponA, AFr.put, get_set, n_set, opd, n2, c0, hlen]
    exact ⟨by simp [n_set, n2], by simp [df_set, d2], by simp [get_set, c1], by simp [get_set, c2], by simp [get_set], by simp [get_set], by simp [get_set], by simp [get_set, c8, mine]; exact Grow.nil _ _ _, rfl, Keep.refl _ _⟩
  have hlp := loop_inv (K := evalK (EL L) N n) (E := EL L) (N := N) (c := in42) 0 (In42 l x u m σ0) (fun a' σ' => Keep σ0.next σ0 σ' ∧ a'.df = [] ∧ a'.n = 31 ∧ thereT l u m = true ∧ Grow σ0.next σ' 6 (a'.get 8) (lcs (mine u l))) (fun a' σ' => Keep σ0.next σ0 σ' ∧ a'.df = [] ∧ a'.get 6 = .v (.slice none 0 0) ∧ a'.get 7 = .i 6 ∧ thereT l u m = false) l.length
    (fun k a σ' hk hI => in42_step hs hl hk hI)
    (fun a σ' hI => by
      obtain ⟨hn, hd, g1, g2, g11, g12, g13, hy, ok, kp⟩ := hI
      rw [List.take_length] at hy ok
      rw [ok]
      simp only [in42, fAt, cAt, Tryz.f42]
      simp [code_region, code_seq, code_cond, code_exit, opsA, oneA, wantedA, opA, kindOf, readA, uponA, AFr.put, get_set, n_set, df_set, opd, cmp_lss, ex2, hn, hd, g12, g13]
      exact ⟨kp, hy⟩) (by omega) i3
  rcases hlp with ⟨a4, σ4, e4, kp, d4, n4, ok, hg⟩ | ⟨a4, σ4, e4, kp, d4, k6, k7, ok⟩
  · obtain ⟨a5, e5, d5, k6, k7⟩ : ∃ a5, codeA (evalK (EL L) N n) (EL L) N none (fAt Tryz.f42 [1, 1, 1]) a4 σ4 = some (.ret, a5, σ4) ∧ a5.df = [] ∧ a5.get 6 = a4.get 8 ∧ a5.get 7 = .i 0 := by
      simp only [fAt, cAt, Tryz.f42]
      simp [code_region, code_seq, code_ret, opsA, oneA, wantedA, opA, kindOf, readA, uponA, AFr.put, get_set, n_set, df_set, opd, n4, d4]
    refine ⟨a4.get 8, σ4, call_ret hfn (show Tryz.f42.body = some (fAt Tryz.f42 []) from rfl) (by rw [hfr]; exact seq_n e1 (seq_n e2 (seq_n (seq_n e3 e4) e5))) d5 (by simp [resultA, resultsA, Tryz.f42, k6, k7, ok]), ?_, kp⟩
    rw [ok]; exact hg
  · refine ⟨.v (.slice none 0 0), σ4, call_ret hfn (show Tryz.f42.body = some (fAt Tryz.f42 []) from rfl) (by rw [hfr]; exact seq_n e1 (seq_n e2 (seq_ret (seq_n e3 e4)))) d4 (by simp [resultA, resultsA, Tryz.f42, k6, k7, ok]), ?_, kp⟩
    rw [ok]; exact Grow.nil _ _ _

/- The reference's there. -/
noncomputable def in46 : Code := fAt Tryz.f46 [1, 0, 1, 0, 0]
structure In46 (l : List Lk) (x z : AV) (u : Int) (m : Nat) (σ0 : St) (k : Nat) (a : AFr) (σ : St) : Prop where
  n : a.n = 27
  d : a.df = []
  g1 : a.get 1 = .i u
  g2 : a.get 2 = z
  g9 : a.get 9 = x
  g10 : a.get 10 = .i (l.length : Int)
  g11 : a.get 11 = .i (k : Int)
  ok : thereT (l.take k) u m = true
  kp : Keep σ0.next σ0 σ

theorem in46_step {K : Kont} {L : SumL} {N : Nat} {l : List Lk} {x w : AV} {c : List Int} {u : Int} {σ0 : St} (hs : ∀ σ, Keep σ0.next σ0 σ → SlAt σ 6 x (lcs l)) (hw0 : ∀ σ, Keep σ0.next σ0 σ → SlAt σ 1 w (ones c)) (hl : l.length ≤ 400) {k : Nat} (hk : k < l.length) {a : AFr} {σ : St} (h : In46 l x w u c.length σ0 k a σ) :
    (∃ a' σ', codeA K (EL L) N none in46 a σ = some (.normal, a', σ') ∧ In46 l x w u c.length σ0 (k + 1) a' σ') ∨ ∃ a' σ', codeA K (EL L) N none in46 a σ = some (.ret, a', σ') ∧ Keep σ0.next σ0 σ' ∧ a'.df = [] ∧ a'.get 6 = .b false ∧ thereT l u c.length = false := by
  obtain ⟨hn, hd, g1, g2, g9, g10, g11, ok, kp⟩ := h
  have hlt : (k : Int) < (l.length : Int) := by omega
  obtain ⟨p, hp, hr⟩ := (hs σ kp).at (E := EL L) (t := 34) (el := 74) Tryz.underlying34 (z74 L) (lcs_at hk) (k := .i64)
  have hld := load_agg (agg74 L) (z74 L) hr
  have hw := wrap_nat (n := k) (by omega)
  have htt := there_take (u := u) (m := c.length) hk
  have htf := there_false (u := u) (m := c.length) hk
  generalize hz : l[k] = z at hld htt
  have kle := kp.le
  obtain ⟨τ, -, hst, nτ, oτ, gp, m0, m1, m2, m3, m4, m5, ma⟩ := lay74 (L := L) (σ := σ) z
  obtain ⟨k0, k1, -⟩ := fa74s (L := L) (o := σ.next)
  have kτ : Keep σ0.next σ0 τ := keep_nx kp (by omega) (by omega) oτ
  have hlenw := (hw0 τ kτ).len (E := EL L) (t := 38) (el := 3) Tryz.underlying38
  rw [ones_len] at hlenw
  by_cases hu : z.u = u
  · have hu2 : (z.u == u) = true := by simpa using hu
    rw [hu2, ok] at htt
    by_cases hcl : (c.length : Int) ≤ z.c
    · right
      have htl := htf (by rw [htt]; simp [hcl])
      rw [htl]
      simp only [in46, fAt, cAt, Tryz.f46]
      simp [code_skip, code_region, code_seq, code_cond, code_block, code_ret, opsA, oneA, wantedA, opA, kindOf, readA, uponA, writeA, AFr.put, get_set, n_set, df_set, opd, cmp_lss, cmp_geq, eq_int, ex2, hn, hd, g1, g2, g9, g10, g11, hlt, hp, hld, al74, hst, k0, k1, m0, m1, hu2, hlenw, hcl]
      exact kτ
    · left
      simp only [in46, fAt, cAt, Tryz.f46]
      simp [code_skip, code_region, code_seq, code_cond, code_block, opsA, oneA, wantedA, opA, kindOf, readA, uponA, writeA, AFr.put, get_set, n_set, opd, cmp_lss, cmp_geq, ar_add, eq_int, ex2, hn, g1, g2, g9, g10, g11, hlt, hp, hld, al74, hst, k0, k1, m0, m1, hu2, hlenw, hcl, hw]
      exact ⟨by simp [n_set, hn], by simp [df_set, hd], by simp [get_set, g1], by simp [get_set, g2], by simp [get_set, g9], by simp [get_set, g10], by simp [get_set], by rw [htt]; simp [hcl], kτ⟩
  · left
    have hu2 : (z.u == u) = false := by simpa using hu
    rw [hu2, ok] at htt
    simp only [in46, fAt, cAt, Tryz.f46]
    simp [code_skip, code_region, code_seq, code_cond, code_block, opsA, oneA, wantedA, opA, kindOf, readA, uponA, writeA, AFr.put, get_set, n_set, opd, cmp_lss, ar_add, eq_int, ex2, hn, g1, g9, g10, g11, hlt, hp, hld, al74, hst, k0, m0, hu2, hw]
    exact ⟨by simp [n_set, hn], by simp [df_set, hd], by simp [get_set, g1], by simp [get_set, g2], by simp [get_set, g9], by simp [get_set, g10], by simp [get_set], by rw [htt]; rfl, kτ⟩

/-- The reference's there. -/
theorem call46 {n : Nat} {L : SumL} {N : Nat} (hN : 400 < N) {l : List Lk} (hl : l.length ≤ 400) {c : List Int} {x w : AV} (u : Int) {σ0 : St} (hs : ∀ σ, Keep σ0.next σ0 σ → SlAt σ 6 x (lcs l)) (hw0 : ∀ σ, Keep σ0.next σ0 σ → SlAt σ 1 w (ones c)) :
    ∃ σ', (evalK (EL L) N (n + 1)).call 46 [x, .i u, w] σ0 = some (.ret (.b (thereT l u c.length)), σ') ∧ Keep σ0.next σ0 σ' := by
  have hfn : (EL L).fn 46 = some Tryz.f46 := fnL Tryz.func46 rfl
  have hn : (frame0 Tryz.f46 [x, .i u, w]).n = 27 := rfl
  have g0 : (frame0 Tryz.f46 [x, .i u, w]).get 0 = x := rfl
  have g1 : (frame0 Tryz.f46 [x, .i u, w]).get 1 = .i u := rfl
  have g2 : (frame0 Tryz.f46 [x, .i u, w]).get 2 = w := rfl
  have hd : (frame0 Tryz.f46 [x, .i u, w]).df = [] := rfl
  generalize hfr : frame0 Tryz.f46 [x, .i u, w] = a at hn g0 g1 g2 hd
  have hlen := (hs σ0 (Keep.refl _ _)).len (E := EL L) (t := 34) (el := 74) Tryz.underlying34
  rw [lcs_len] at hlen
  obtain ⟨a1, e1, i1⟩ : ∃ a1, codeA (evalK (EL L) N n) (EL L) N none (.seq (fAt Tryz.f46 [0]) (fAt Tryz.f46 [1, 0, 0])) a σ0 = some (.normal, a1, σ0) ∧ In46 l x w u c.length σ0 0 a1 σ0 := by
    simp only [fAt, cAt, Tryz.f46]
    simp [code_region, code_seq, opsA, oneA, wantedA, opA, kindOf, readA, uponA, AFr.put, get_set, n_set, opd, hn, g0, hlen]
    exact ⟨by simp [n_set, hn], by simp [df_set, hd], by simp [get_set, g1], by simp [get_set, g2], by simp [get_set], by simp [get_set], by simp [get_set], rfl, Keep.refl _ _⟩
  have hlp := loop_inv (K := evalK (EL L) N n) (E := EL L) (N := N) (c := in46) 0 (In46 l x w u c.length σ0) (fun a' σ' => Keep σ0.next σ0 σ' ∧ a'.df = [] ∧ a'.n = 27 ∧ thereT l u c.length = true) (fun a' σ' => Keep σ0.next σ0 σ' ∧ a'.df = [] ∧ a'.get 6 = .b false ∧ thereT l u c.length = false) l.length
    (fun k a σ' hk hI => in46_step hs hw0 hl hk hI)
    (fun a σ' hI => by
      obtain ⟨hn, hd, g1, g2, g9, g10, g11, ok, kp⟩ := hI
      rw [List.take_length] at ok
      rw [ok]
      simp only [in46, fAt, cAt, Tryz.f46]
      simp [code_region, code_seq, code_cond, code_exit, opsA, oneA, wantedA, opA, kindOf, readA, uponA, AFr.put, get_set, n_set, df_set, opd, cmp_lss, ex2, hn, hd, g10, g11]
      exact kp) (by omega) i1
  rcases hlp with ⟨a2, σ2, e2, kp, d2, n2, ok⟩ | ⟨a2, σ2, e2, kp, d2, k2, ok⟩
  · have e3 : codeA (evalK (EL L) N n) (EL L) N none (fAt Tryz.f46 [1, 1]) a2 σ2 = some (.ret, a2.set 6 (.b true), σ2) := by
      simp only [fAt, cAt, Tryz.f46]
      simp [code_region, code_seq, code_ret, opsA, oneA, wantedA, opA, kindOf, readA, uponA, AFr.put, opd, n2]
    exact ⟨σ2, call_ret (x := .b (thereT l u c.length)) hfn (show Tryz.f46.body = some (fAt Tryz.f46 []) from rfl) (by rw [hfr]; exact body_n e1 e2 e3) (by rw [df_set]; exact d2) (by simp [resultA, resultsA, Tryz.f46, get_set, ok]), kp⟩
  · exact ⟨σ2, call_ret (x := .b (thereT l u c.length)) hfn (show Tryz.f46.body = some (fAt Tryz.f46 []) from rfl) (by rw [hfr]; exact body_ret e1 e2) d2 (by simp [resultA, resultsA, Tryz.f46, k2, ok]), kp⟩
end Go.Proofs.YtfmbpdacdopkgaaGreatDoor

namespace Go.Ai
/-- An append that makes a slice of its own. -/
theorem append_own {E : Env} {σ : St} {x : AV} {xs : List (List AV)} {t u el el' : TypeId} {inf : TypeInfo} {z : Value} {sz : Nat} (ht : E.und t = some (.slice el)) (hu : E.und u = some (.slice el')) (hi : E.inf el = some inf) (hz : inf.zero = some z)
    (hsz : inf.size = sz) (hzs : z.cells.size = sz) (hb : inf.bytes ≤ 65536) (hpos : sz ≠ 0) (h : SlAt σ sz x xs) (ho : ∀ y ∈ xs, y.all (·.one) = true) {p : Nat} (hp : σ.get p = some (.cells [] 0 0))
    (hlim : xs.length * inf.bytes ≤ maxElems) (hlim2 : xs.length ≤ maxElems) : ∃ σ' g, appendA E σ [t, u] (.sl p 0 0 0 sz) x = some (.sl p 0 xs.length g sz, σ') ∧ σ'.get p = some (.cells xs.flatten g 0) ∧ σ'.next = σ.next ∧ ∀ o, o ≠ p → σ'.get o = σ.get o := by
  have hza : zerosA E [u] = some false := by simp [zerosA, hu]
  have hall : xs.flatten.all (·.one) = true := by
    simp only [List.all_eq_true, List.mem_flatten]
    rintro v ⟨y, hy, hv⟩
    exact List.all_eq_true.1 (ho y hy) v hv
  by_cases hn : xs.length = 0
  · have : xs = [] := List.eq_nil_of_length_eq_zero hn
    subst this
    refine ⟨σ, 0, ?_, hp, rfl, fun _ _ => rfl⟩
    unfold appendA
    simp only [ht, hi, hza, hsz, h.elems, hz]
    simp [hpos, hb, hzs]
  · refine ⟨σ.set p (.cells xs.flatten 1 0), 1, ?_, St.get_set_same _ _ _, rfl, fun o hne => St.get_set_ne _ _ _ _ (Ne.symm hne)⟩
    unfold appendA
    simp only [ht, hi, hza, hsz, h.elems, hz]
    rw [if_pos (by simp [flat_len h.1, hall, hpos, hb, hzs]), if_neg hn]
    simp [hlim, hlim2, hp]
/-- An append to nil. -/
theorem append_nil {E : Env} {σ : St} {x : AV} {xs : List (List AV)} {t u el el' : TypeId} {inf : TypeInfo} {z : Value} {sz : Nat} (ht : E.und t = some (.slice el)) (hu : E.und u = some (.slice el')) (hi : E.inf el = some inf) (hz : inf.zero = some z)
    (hsz : inf.size = sz) (hzs : z.cells.size = sz) (hb : inf.bytes ≤ 65536) (hpos : sz ≠ 0) (h : SlAt σ sz x xs) (ho : ∀ y ∈ xs, y.all (·.one) = true)
    (hlim : xs.length * inf.bytes ≤ maxElems) (hlim2 : xs.length ≤ maxElems) : appendA E σ [t, u] (.v (.slice none 0 0)) x = if xs.length = 0 then some (.v (.slice none 0 0), σ) else some (.sl σ.next 0 xs.length 0 sz, σ.add (.cells xs.flatten 0 0)) := by
  have hza : zerosA E [u] = some false := by simp [zerosA, hu]
  have hall : xs.flatten.all (·.one) = true := by
    simp only [List.all_eq_true, List.mem_flatten]
    rintro v ⟨y, hy, hv⟩
    exact List.all_eq_true.1 (ho y hy) v hv
  unfold appendA
  simp only [ht, hi, hza, hsz, h.elems, hz]
  rw [if_pos (by simp [flat_len h.1, hall, hpos, hb, hzs])]
  by_cases hn : xs.length = 0
  · simp [hn]
  · simp [hn, hlim, hlim2, newA]
end Go.Ai
namespace Go.Proofs.YtfmbpdacdopkgaaGreatDoor
set_option maxRecDepth 100000
open Go Go.Ai
open Go.RowKit (Below)

theorem inf3 (L : SumL) : ∃ i z, (EL L).inf 3 = some i ∧ i.zero = some z ∧ i.size = 1 ∧ z.cells.size = 1 ∧ i.bytes ≤ 65536 := infoOk_spec (show infoOk 3 1 = true by kernel_rfl)
theorem bytes3 : bytesIs 3 8 = true := by kernel_rfl
theorem ones_one (l : List Int) : ∀ y ∈ ones l, y.all (·.one) = true := by
  intro y hy
  simp only [ones, List.mem_map] at hy
  obtain ⟨p, _, rfl⟩ := hy; rfl
theorem ones_sz (l : List Int) : ∀ y ∈ ones l, y.length = 1 := by
  intro y hy
  simp only [ones, List.mem_map] at hy
  obtain ⟨p, _, rfl⟩ := hy; rfl
theorem bs38e {L : SumL} {a : AFr} {o : Oper} (h : o.op = .buildSlice 38 0 #[]) : allocA (EL L) a o = some (.cells [] 0 0, fun id => .sl id 0 0 0 1) := by
  have hz : (EL L).zero 3 = some (.int .i64 0) := by
    show (match Tryz.prog.info? 3 with | some i => i.zero | none => none) = _
    kernel_rfl
  simp [allocA, h, und_eq, Tryz.underlying38, z3, zeros, hz, repl, fillA]

/-- A list of numbers that can be written; its cells lie in an object from number `b` on. -/
def Own (b : Nat) (σ : St) (x : AV) (l : List Int) : Prop :=
  (l = [] ∧ x = .v (.slice none 0 0)) ∨ ∃ p g m, x = .sl p 0 l.length g 1 ∧ σ.get p = some (.cells (ints l) g m) ∧ m ≤ g ∧ b ≤ p ∧ p < σ.next
theorem Own.slAt {b : Nat} {σ : St} {x : AV} {l : List Int} (h : Own b σ x l) : SlAt σ 1 x (ones l) := by
  rcases h with ⟨rfl, rfl⟩ | ⟨p, g, m, rfl, h1, h2, h3, h4⟩
  · exact ⟨fun y hy => by simp [ones] at hy, rfl⟩
  · refine ⟨ones_sz l, rfl, (ones_len l).symm, ints l, g, m, h1, h2, Nat.le_refl _, ?_, ?_⟩
    · rw [ones_flat]; simp
    · rw [ones_flat, List.drop_zero, List.take_length]
theorem Own.keep {b : Nat} {σ σ' : St} {x : AV} {l : List Int} (h : Own b σ x l) (hn : σ.next ≤ σ'.next) (hk : ∀ o, b ≤ o → o < σ.next → σ'.get o = σ.get o) : Own b σ' x l := by
  rcases h with ⟨rfl, rfl⟩ | ⟨p, g, m, rfl, h1, h2, h3, h4⟩
  · exact .inl ⟨rfl, rfl⟩
  · exact .inr ⟨p, g, m, rfl, (hk p h3 h4).trans h1, h2, h3, by omega⟩
/-- A number is written. -/
theorem Own.write {L : SumL} {b : Nat} {σ : St} {x : AV} {l : List Int} (h : Own b σ x l) {j : Nat} (hj : j < l.length) (v : Int) {k : IntKind} :
    ∃ q σ', indexAddrA (EL L) 38 x (.v (.int k (j : Int))) = some q ∧ storeA (EL L) σ 3 q (.i v) = some σ' ∧ Own b σ' x (l.set j v) ∧ σ'.next = σ.next ∧ (∀ o, o < b → σ'.get o = σ.get o) ∧ ∀ o, (∀ i n g s, x ≠ .sl o i n g s) → σ'.get o = σ.get o := by
  rcases h with ⟨rfl, rfl⟩ | ⟨p, g, m, rfl, h1, h2, h3, h4⟩
  · simp at hj
  · have hn : ¬ ((j : Int) < 0) := by omega
    refine ⟨.ptr p j g 1, σ.set p (.cells (ints (l.set j v)) g g), by simp [indexAddrA, und_eq, Tryz.underlying38, z3, hn, hj], ?_, .inr ⟨p, g, g, by simp, St.get_set_same _ _ _, Nat.le_refl _, h3, h4⟩, rfl, fun o ho => St.get_set_ne _ _ _ _ (by omega), fun o ho => St.get_set_ne _ _ _ _ (fun e => by subst e; exact ho _ _ _ _ rfl)⟩
    have hle : j + 1 ≤ (ints l).length := by rw [ints_len]; omega
    simp [storeA, z3, AV.cells?, Value.cells, wrCells, AV.one, lone1, h1, h2, hle, splice_set hj]

/-- A new slice of the numbers of another one. -/
theorem copy38 {L : SumL} {σ : St} {c : List Int} {x : AV} (h : ∀ τ, Keep σ.next σ τ → SlAt τ 1 x (ones c)) (hlim : c.length * 8 ≤ maxElems) :
    ∃ y υ, appendA (EL L) (σ.add (.cells [] 0 0)) [38, 38] (.sl σ.next 0 0 0 1) x = some (y, υ) ∧ Own σ.next υ y c ∧ υ.next = σ.next + 1 ∧ ∀ o, o < σ.next → υ.get o = σ.get o := by
  obtain ⟨i, z, hi, hz, hsz, hzs, hbt⟩ := inf3 L
  have hby := bytesIs_spec bytes3 hi
  obtain ⟨υ, g, h1, h2, h3, h4⟩ := append_own (E := EL L) (σ := σ.add (.cells [] 0 0)) (t := 38) (u := 38) (el := 3) (el' := 3) (p := σ.next) Tryz.underlying38 Tryz.underlying38 hi hz hsz hzs hbt (by decide) (h _ (Keep.add _ (Nat.le_refl _))) (ones_one c) (St.get_add_same _ _) (by rw [ones_len, hby]; exact hlim) (by rw [ones_len]; omega)
  rw [ones_len, ones_flat] at *
  refine ⟨_, υ, h1, .inr ⟨σ.next, g, 0, rfl, h2, Nat.zero_le _, Nat.le_refl _, by rw [h3, next_add]; omega⟩, by rw [h3, next_add], fun o ho => by rw [h4 o (by omega), get_sadd, if_neg (by omega)]⟩

theorem nil38 {L : SumL} (xo yo : Operand) : eqA (EL L) .eql 38 xo yo (.v (.slice none 0 0)) (.v (.slice none 0 0)) = some (.b true) := by
  have h : (match runA Tryz.prog (binOp .eql 38 (.slice none 0 0) (.slice none 0 0)) with | some (.bool c) => c | _ => false) = true := by kernel_rfl
  have hP : (EL L).P = Tryz.prog := rfl
  simp only [eqA, AV.exact?, eqGuard, hP]
  split at h
  · rename_i c hc
    subst h
    simpa using hc
  · cases h
theorem clone_test {L : SumL} {σ : St} {x : AV} {xs : List (List AV)} (h : SlAt σ 1 x xs) (xo yo : Operand) : (xs = [] ∧ x = .v (.slice none 0 0) ∧ eqA (EL L) .eql 38 xo yo x (.v (.slice none 0 0)) = some (.b true)) ∨ eqA (EL L) .eql 38 xo yo x (.v (.slice none 0 0)) = some (.b false) := by
  have h2 := h.2
  split at h2
  · exact .inl ⟨h2, rfl, nil38 xo yo⟩
  · right; simp [eqA, AV.exact?, und_eq, Tryz.underlying38, isNil, noNil]
  · right; simp [eqA, AV.exact?, und_eq, Tryz.underlying38, isNil, noNil]
  · right; simp [eqA, AV.exact?, und_eq, Tryz.underlying38, isNil, noNil]
  · cases h2

/-- slices.Clone. -/
theorem call43 {n : Nat} {L : SumL} {N : Nat} {c : List Int} {x : AV} {σ0 : St} (h : ∀ τ, Keep σ0.next σ0 τ → SlAt τ 1 x (ones c)) (hlim : c.length * 8 ≤ maxElems) :
    ∃ y σ', (evalK (EL L) N (n + 1)).call 43 [x] σ0 = some (.ret y, σ') ∧ Own σ0.next σ' y c ∧ Keep σ0.next σ0 σ' := by
  have hfn : (EL L).fn 43 = some Tryz.f43 := fnL Tryz.func43 rfl
  have hn : (frame0 Tryz.f43 [x]).n = 8 := rfl
  have g0 : (frame0 Tryz.f43 [x]).get 0 = x := rfl
  have hd : (frame0 Tryz.f43 [x]).df = [] := rfl
  generalize hfr : frame0 Tryz.f43 [x] = a at hn g0 hd
  obtain ⟨a1, e1, n1, d1, b0⟩ : ∃ a1, codeA (evalK (EL L) N n) (EL L) N none (fAt Tryz.f43 [0]) a σ0 = some (.normal, a1, σ0) ∧ a1.n = 8 ∧ a1.df = [] ∧ a1.get 0 = x := by
    simp only [fAt, cAt, Tryz.f43]
    simp [code_region, opsA, oneA, wantedA, opA, kindOf, readA, uponA, AFr.put, get_set, n_set, df_set, opd, hn, hd, g0]
  rcases clone_test (L := L) (h σ0 (Keep.refl _ _)) (.tmp 3) (.const (.slice none 0 0)) with ⟨hc, hx, ht⟩ | ht
  · have hc : c = [] := by simpa [ones] using hc
    subst hc
    obtain ⟨a2, e2, d2, k2⟩ : ∃ a2, codeA (evalK (EL L) N n) (EL L) N none (fAt Tryz.f43 [1, 0]) a1 σ0 = some (.ret, a2, σ0) ∧ a2.df = [] ∧ a2.get 2 = .v (.slice none 0 0) := by
      simp only [fAt, cAt, Tryz.f43]
      simp [code_region, code_seq, code_cond, code_ret, opsA, oneA, wantedA, opA, kindOf, readA, uponA, AFr.put, get_set, n_set, df_set, opd, n1, d1, b0, ht]
    exact ⟨_, σ0, call_ret hfn (show Tryz.f43.body = some (fAt Tryz.f43 []) from rfl) (by rw [hfr]; exact seq_n e1 (seq_ret e2)) d2 (by simp [resultA, resultsA, Tryz.f43, k2]), .inl ⟨rfl, rfl⟩, Keep.refl _ _⟩
  · obtain ⟨a2, e2, n2, d2, k0⟩ : ∃ a2, codeA (evalK (EL L) N n) (EL L) N none (fAt Tryz.f43 [1, 0]) a1 σ0 = some (.normal, a2, σ0) ∧ a2.n = 8 ∧ a2.df = [] ∧ a2.get 0 = x := by
      simp only [fAt, cAt, Tryz.f43]
      simp [code_skip, code_region, code_seq, code_cond, opsA, oneA, wantedA, opA, kindOf, readA, uponA, AFr.put, get_set, n_set, df_set, opd, n1, d1, b0, ht]
    obtain ⟨y, υ, hap, hown, hnx, hsm⟩ := copy38 (L := L) h hlim
    obtain ⟨a3, e3, d3, k2⟩ : ∃ a3, codeA (evalK (EL L) N n) (EL L) N none (fAt Tryz.f43 [1, 1]) a2 σ0 = some (.ret, a3, υ) ∧ a3.df = [] ∧ a3.get 2 = y := by
      simp only [fAt, cAt, Tryz.f43]
      simp [code_region, code_seq, code_ret, opsA, oneA, wantedA, opA, kindOf, readA, uponA, writeA, AFr.put, get_set, n_set, df_set, opd, n2, d2, k0, bs38e, hap]
    exact ⟨y, υ, call_ret hfn (show Tryz.f43.body = some (fAt Tryz.f43 []) from rfl) (by rw [hfr]; exact seq_n e1 (seq_n e2 e3)) d3 (by simp [resultA, resultsA, Tryz.f43, k2]), hown, ⟨by omega, hsm⟩⟩

theorem call21 {n : Nat} {L : SumL} {N : Nat} {σ : St} (x y : Int) : (evalK (EL L) N (n + 1)).call 21 [.i x, .i y] σ = some (.ret (.b (x == y)), σ) := by
  have hfn : (EL L).fn 21 = some Tryz.f21 := fnL Tryz.func21 rfl
  have hn : (frame0 Tryz.f21 [.i x, .i y]).n = 8 := rfl
  have g0 : (frame0 Tryz.f21 [.i x, .i y]).get 0 = .i x := rfl
  have g1 : (frame0 Tryz.f21 [.i x, .i y]).get 1 = .i y := rfl
  have hd : (frame0 Tryz.f21 [.i x, .i y]).df = [] := rfl
  generalize hfr : frame0 Tryz.f21 [.i x, .i y] = a at hn g0 g1 hd
  obtain ⟨a1, e1, d1, b0⟩ : ∃ a1, codeA (evalK (EL L) N n) (EL L) N none (fAt Tryz.f21 []) a σ = some (.ret, a1, σ) ∧ a1.df = [] ∧ a1.get 4 = .b (x == y) := by
    simp only [fAt, cAt, Tryz.f21]
    simp [code_region, code_seq, code_ret, opsA, oneA, wantedA, opA, kindOf, readA, uponA, AFr.put, get_set, n_set, df_set, opd, eq_int, hn, hd, g0, g1]
  exact call_ret (x := .b (x == y)) hfn (show Tryz.f21.body = some (fAt Tryz.f21 []) from rfl) (by rw [hfr]; exact e1) d1 (by simp [resultA, resultsA, Tryz.f21, b0])

/- SameInts, at equal lists. -/
noncomputable def in22 : Code := fAt Tryz.f22 [1, 1, 0, 1, 0, 0]
structure In22 (l : List Int) (x y : AV) (σ0 : St) (k : Nat) (a : AFr) (σ : St) : Prop where
  n : a.n = 26
  d : a.df = []
  g0 : a.get 0 = x
  g1 : a.get 1 = y
  g12 : a.get 12 = .i (l.length : Int)
  g13 : a.get 13 = .i (k : Int)
  s : σ = σ0
theorem call22 {n : Nat} {L : SumL} {N : Nat} {l : List Int} {x y : AV} {σ : St} (hx : SlAt σ 1 x (ones l)) (hy : SlAt σ 1 y (ones l)) (hN : l.length < N) (hl : l.length < 4611686018427387904) : (evalK (EL L) N (n + 1)).call 22 [x, y] σ = some (.ret (.b true), σ) := by
  have hfn : (EL L).fn 22 = some Tryz.f22 := fnL Tryz.func22 rfl
  have hn : (frame0 Tryz.f22 [x, y]).n = 26 := rfl
  have g0 : (frame0 Tryz.f22 [x, y]).get 0 = x := rfl
  have g1 : (frame0 Tryz.f22 [x, y]).get 1 = y := rfl
  have hd : (frame0 Tryz.f22 [x, y]).df = [] := rfl
  generalize hfr : frame0 Tryz.f22 [x, y] = a at hn g0 g1 hd
  have hlx := hx.len (E := EL L) (t := 38) (el := 3) Tryz.underlying38
  have hly := hy.len (E := EL L) (t := 38) (el := 3) Tryz.underlying38
  rw [ones_len] at hlx hly
  obtain ⟨a0, e0, n0, d0, m0, m1⟩ : ∃ a1, codeA (evalK (EL L) N n) (EL L) N none (fAt Tryz.f22 [0]) a σ = some (.normal, a1, σ) ∧ a1.n = 26 ∧ a1.df = [] ∧ a1.get 0 = x ∧ a1.get 1 = y := by
    simp only [fAt, cAt, Tryz.f22]
    simp [code_region, opsA, oneA, wantedA, opA, kindOf, readA, uponA, AFr.put, get_set, n_set, df_set, opd, hn, hd, g0, g1]
  obtain ⟨a1, e1, n1, d1, k0, k1⟩ : ∃ a1, codeA (evalK (EL L) N n) (EL L) N none (fAt Tryz.f22 [1, 0]) a0 σ = some (.normal, a1, σ) ∧ a1.n = 26 ∧ a1.df = [] ∧ a1.get 0 = x ∧ a1.get 1 = y := by
    simp only [fAt, cAt, Tryz.f22]
    simp [code_skip, code_region, code_seq, code_cond, opsA, oneA, wantedA, opA, kindOf, readA, uponA, AFr.put, get_set, n_set, df_set, opd, ne_int, n0, d0, m0, m1, hlx, hly]
  obtain ⟨a2, e2, i2⟩ : ∃ a2, codeA (evalK (EL L) N n) (EL L) N none (fAt Tryz.f22 [1, 1, 0, 0]) a1 σ = some (.normal, a2, σ) ∧ In22 l x y σ 0 a2 σ := by
    simp only [fAt, cAt, Tryz.f22]
    simp [code_region, opsA, oneA, wantedA, opA, kindOf, readA, uponA, AFr.put, get_set, n_set, opd, n1, k0, hlx]
    exact ⟨by simp [n_set, n1], by simp [df_set, d1], by simp [get_set, k0], by simp [get_set, k1], by simp [get_set], by simp [get_set], rfl⟩
  obtain ⟨a3, σ3, e3, rfl, d3, n3⟩ := loop_all (K := evalK (EL L) N n) (E := EL L) (N := N) (c := in22) 0 (In22 l x y σ) (fun a' σ' => σ' = σ ∧ a'.df = [] ∧ a'.n = 26) l.length
    (fun k a σ' hk hI => by
      obtain ⟨hn, hd, g0, g1, g12, g13, rfl⟩ := hI
      have hlt : (k : Int) < (l.length : Int) := by omega
      obtain ⟨p, hp, hr⟩ := hx.at (E := EL L) (t := 38) (el := 3) Tryz.underlying38 (z3 L) (ones_at hk) (k := .i64)
      obtain ⟨q, hq, hr'⟩ := hy.at (E := EL L) (t := 38) (el := 3) Tryz.underlying38 (z3 L) (ones_at hk) (k := .i64)
      have hld := load_one (agg3 L) hr
      have hld' := load_one (agg3 L) hr'
      have hw := wrap_nat (n := k) (by omega)
      simp only [in22, fAt, cAt, Tryz.f22]
      simp [code_skip, code_region, code_draw, code_seq, code_cond, code_block, opsA, oneA, wantedA, opA, kindOf, readA, uponA, AFr.put, get_set, n_set, opd, cmp_lss, ar_add, ne_int, ex2, regionA, dops, dopsGo, befOf, Region.binds, drawOk, nodupB, hasDefer, eager, drawA, dim, unord, sameIn, chk, beq_self, Nat.testBit, hn, g0, g1, g12, g13, hlt, hp, hq, hld, hld', hw]
      exact ⟨by simp [n_set, hn], by simp [df_set, hd], by simp [get_set, g0], by simp [get_set, g1], by simp [get_set, g12], by simp [get_set], rfl⟩)
    (fun a σ' hI => by
      obtain ⟨hn, hd, g0, g1, g12, g13, rfl⟩ := hI
      simp only [in22, fAt, cAt, Tryz.f22]
      simp [code_region, code_seq, code_cond, code_exit, opsA, oneA, wantedA, opA, kindOf, readA, uponA, AFr.put, get_set, n_set, df_set, opd, cmp_lss, ex2, hn, hd, g12, g13]) hN i2
  have e4 : codeA (evalK (EL L) N n) (EL L) N none (fAt Tryz.f22 [1, 1, 1]) a3 σ3 = some (.ret, a3.set 4 (.b true), σ3) := by
    simp only [fAt, cAt, Tryz.f22]
    simp [code_region, code_seq, code_ret, opsA, oneA, wantedA, opA, kindOf, readA, uponA, AFr.put, opd, n3]
  exact call_ret (x := .b true) hfn (show Tryz.f22.body = some (fAt Tryz.f22 []) from rfl) (by rw [hfr]; exact seq_n e0 (seq_n e1 (seq_n (seq_n e2 e3) e4))) (by rw [df_set]; exact d3) (by simp [resultA, resultsA, Tryz.f22, get_set])
end Go.Proofs.YtfmbpdacdopkgaaGreatDoor

namespace Go.Proofs.YtfmbpdacdopkgaaGreatDoor
set_option maxRecDepth 100000
open Go Go.Ai
open Go.RowKit (Below)

def inV (cs : List Int) (x : Lk) : Int := if x.k == 1 && cs.getD ((x.a.toNat - 1) * 64 + x.s.toNat) 0 != 0 then 1 else cs.getD ((x.a.toNat - 1) * 64 + x.s.toNat) 0
def inStep (cs : List Int) (c : List Int) (x : Lk) : List Int := if x.o then c else c.set x.c.toNat (inV cs x)
def inAll (cs : List Int) (l : List Lk) (c : List Int) : List Int := l.foldl (inStep cs) c
theorem inAll_len (cs : List Int) : ∀ (l : List Lk) (c : List Int), (inAll cs l c).length = c.length
  | [], _ => rfl
  | x :: l, c => by
    show (inAll cs l (inStep cs c x)).length = _
    rw [inAll_len cs l]
    unfold inStep
    split <;> simp
theorem inAll_take {cs : List Int} {l : List Lk} {c : List Int} {k : Nat} (hk : k < l.length) : inAll cs (l.take (k + 1)) c = inStep cs (inAll cs (l.take k) c) l[k] := by
  rw [List.take_succ_eq_append_getElem hk]
  simp only [inAll, List.foldl_append, List.foldl_cons, List.foldl_nil]

noncomputable def in14 : Code := fAt Tryz.f14 [1, 1, 1, 1, 1, 1, 0, 1, 0, 0]
structure In14 (cs : List Int) (ml : List Lk) (c : List Int) (z y : AV) (v b : Nat) (σ0 : St) (k : Nat) (a : AFr) (σ : St) : Prop where
  n : a.n = 67
  d : a.df = []
  g12 : a.get 12 = y
  g13 : a.get 13 = .ptr v 0 0 192
  g37 : a.get 37 = z
  g38 : a.get 38 = .i (ml.length : Int)
  g39 : a.get 39 = .i (k : Int)
  mv : σ.get v = some (.cells (ints cs) 0 0)
  vn : v < σ.next
  y : Own b σ y (inAll cs (ml.take k) c)
  kp : Keep b σ0 σ

set_option maxHeartbeats 1000000 in
theorem in14_step {n : Nat} {L : SumL} (h44 : sumOf L 44 = none) {N : Nat} {cs : List Int} (hcs : cs.length = 192) {ml : List Lk} {c : List Int} {z y : AV} {v b : Nat} {σ0 : St} (hb : b ≤ σ0.next) (hs : ∀ σ, Keep b σ0 σ → SlAt σ 6 z (lcs ml)) (hv : ∀ i n g s, y ≠ .sl v i n g s) (hl : ml.length ≤ 400) {k : Nat} (hk : k < ml.length)
    (hp0 : isP ml[k].a ml[k].s = true) (hc0 : 0 ≤ ml[k].c) (hc1 : ml[k].c < c.length) {a : AFr} {σ : St} (h : In14 cs ml c z y v b σ0 k a σ) :
    ∃ a' σ', codeA (evalK (EL L) N (n + 1)) (EL L) N none in14 a σ = some (.normal, a', σ') ∧ In14 cs ml c z y v b σ0 (k + 1) a' σ' := by
  obtain ⟨hn, hd, g12, g13, g37, g38, g39, mv, vn, hy, kp⟩ := h
  have hlt : (k : Int) < (ml.length : Int) := by omega
  obtain ⟨p, hp, hr⟩ := (hs σ kp).at (E := EL L) (t := 34) (el := 74) Tryz.underlying34 (z74 L) (lcs_at hk) (k := .i64)
  have hld := load_agg (agg74 L) (z74 L) hr
  have hw := wrap_nat (n := k) (by omega)
  have hst' := inAll_take (cs := cs) (c := c) hk
  have hlenk := inAll_len cs (ml.take k) c
  generalize hcur : inAll cs (ml.take k) c = cur at hy hst' hlenk
  generalize hz : ml[k] = x at hld hst' hp0 hc0 hc1
  have kle := kp.le
  obtain ⟨τ, -, hst, nτ, oτ, gp, m0, m1, m2, m3, m4, m5, ma⟩ := lay74 (L := L) (σ := σ) x
  obtain ⟨k0, k1, k2, k3, k4, k5⟩ := fa74s (L := L) (o := σ.next)
  have kτ : Keep b σ0 τ := keep_nx kp (by omega) (by omega) oτ
  have hyτ : Own b τ y cur := hy.keep (by omega) fun o _ h => oτ o h
  have mvτ : τ.get v = some (.cells (ints cs) 0 0) := (oτ v vn).trans mv
  cases ho : x.o with
  | true =>
    rw [ho] at hst hld m5
    have hst'' : inAll cs (ml.take (k + 1)) c = cur := by rw [hst']; simp [inStep, ho]
    simp only [in14, fAt, cAt, Tryz.f14]
    simp [code_skip, code_region, code_seq, code_cond, code_block, code_exit, opsA, oneA, wantedA, opA, kindOf, readA, uponA, writeA, AFr.put, get_set, n_set, opd, cmp_lss, ar_add, ex2, hn, g37, g38, g39, hlt, hp, hld, al74, hst, k5, m5, hw]
    exact ⟨by simp [n_set, hn], by simp [df_set, hd], by simp [get_set, g12], by simp [get_set, g13], by simp [get_set, g37], by simp [get_set, g38], by simp [get_set], mvτ, by omega, by rw [hst'']; exact hyτ, kτ⟩
  | false =>
    rw [ho] at hst hld m5
    have hst'' : inAll cs (ml.take (k + 1)) c = cur.set x.c.toNat (inV cs x) := by rw [hst']; simp [inStep, ho]
    have hP := isP_true hp0
    obtain ⟨q, σ', hq, hsq, hown, hnx, hsb, hso⟩ := hyτ.write (L := L) (j := x.c.toNat) (by omega) (inV cs x) (k := .i64)
    have ec : x.c = (x.c.toNat : Int) := by omega
    have ea : x.a = (x.a.toNat : Int) := by omega
    have es : x.s = (x.s.toNat : Int) := by omega
    have lv : loadA (EL L) τ 3 (.ptr v ((x.a.toNat - 1) * 64 + x.s.toNat) 0 1) = some (.i (cs.getD ((x.a.toNat - 1) * 64 + x.s.toNat) 0)) := load_one (agg3 L) (rd_ints mvτ (by omega))
    have hvV : inV cs x = if x.k == 1 && cs.getD ((x.a.toNat - 1) * 64 + x.s.toNat) 0 != 0 then 1 else cs.getD ((x.a.toNat - 1) * 64 + x.s.toNat) 0 := rfl
    generalize inV cs x = iv at hst'' hsq hown hvV
    generalize cs.getD ((x.a.toNat - 1) * 64 + x.s.toNat) 0 = w at lv hvV
    have hc44 : (evalK (EL L) N (n + 1)).call 44 [.ptr v 0 0 192, .i (x.a.toNat : Int)] τ = some (.ret (.ptr v ((x.a.toNat - 1) * 64) 0 64), τ) := area44 (by omega) (by omega)
    have hi := ix35 (L := L) (o := v) (b := (x.a.toNat - 1) * 64) (g := 0) (s := x.s.toNat) (by omega)
    rw [ec] at m1
    rw [ea] at m3
    rw [es] at m4
    generalize x.a.toNat = ar at m3 hc44 hi lv
    generalize x.s.toNat = sl at m4 hi lv
    generalize hj : x.c.toNat = j at m1 hq hst'' hown
    have kσ' : Keep b σ0 σ' := kτ.trans (b := b) (c := b) ⟨by omega, hsb⟩ (Nat.le_refl _)
    have fin : ∀ a', a'.n = 67 → a'.df = [] → a'.get 12 = y → a'.get 13 = .ptr v 0 0 192 → a'.get 37 = z → a'.get 38 = .i (ml.length : Int) → a'.get 39 = .i ((k + 1 : Nat) : Int) → In14 cs ml c z y v b σ0 (k + 1) a' σ' := fun a' h1 h2 h3 h4 h5 h6 h7 =>
      ⟨h1, h2, h3, h4, h5, h6, h7, (hso v hv).trans mvτ, by omega, by rw [hst'']; exact hown, kσ'⟩
    cases hk1 : (x.k == 1) with
    | false =>
      have hiv : iv = w := by rw [hvV, hk1]; rfl
      subst hiv
      simp only [in14, fAt, cAt, Tryz.f14]
      simp [code_skip, code_region, code_draw, code_seq, code_cond, code_block, opsA, oneA, wantedA, opA, kindOf, readA, uponA, writeA, AFr.put, get_set, n_set, df_set, opd, callee?, callA, cmp_lss, ar_add, eq_int, ex2, regionA, dops, dopsGo, befOf, Region.binds, drawOk, nodupB, hasDefer, eager, drawA, dim, unord, sameIn, chk, beq_self, Nat.testBit, hn, hd, g12, g13, g37, g38, g39, hlt, hp, hld, al74, hst, k1, k2, k3, k4, k5, m1, m2, m3, m4, m5, sum_eq, h44, fn44, hc44, hi, lv, hk1, hq, hsq, hw]
      exact fin _ (by simp [n_set, hn]) (by simp [df_set, hd]) (by simp [get_set, g12]) (by simp [get_set, g13]) (by simp [get_set, g37]) (by simp [get_set, g38]) (by simp [get_set])
    | true =>
      cases hw0 : (w != 0) with
      | false =>
        have hiv : iv = w := by rw [hvV, hk1, hw0]; rfl
        subst hiv
        simp only [in14, fAt, cAt, Tryz.f14]
        simp [code_skip, code_region, code_draw, code_seq, code_cond, code_block, opsA, oneA, wantedA, opA, kindOf, readA, uponA, writeA, AFr.put, get_set, n_set, df_set, opd, callee?, callA, cmp_lss, ar_add, eq_int, ne_int, ex2, regionA, dops, dopsGo, befOf, Region.binds, drawOk, nodupB, hasDefer, eager, drawA, dim, unord, sameIn, chk, beq_self, Nat.testBit, hn, hd, g12, g13, g37, g38, g39, hlt, hp, hld, al74, hst, k1, k2, k3, k4, k5, m1, m2, m3, m4, m5, sum_eq, h44, fn44, hc44, hi, lv, hk1, hw0, hq, hsq, hw]
        exact fin _ (by simp [n_set, hn]) (by simp [df_set, hd]) (by simp [get_set, g12]) (by simp [get_set, g13]) (by simp [get_set, g37]) (by simp [get_set, g38]) (by simp [get_set])
      | true =>
        have hiv : iv = 1 := by rw [hvV, hk1, hw0]; rfl
        subst hiv
        simp only [in14, fAt, cAt, Tryz.f14]
        simp [code_skip, code_region, code_draw, code_seq, code_cond, code_block, opsA, oneA, wantedA, opA, kindOf, readA, uponA, writeA, AFr.put, get_set, n_set, df_set, opd, callee?, callA, cmp_lss, ar_add, eq_int, ne_int, ex2, regionA, dops, dopsGo, befOf, Region.binds, drawOk, nodupB, hasDefer, eager, drawA, dim, unord, sameIn, chk, beq_self, Nat.testBit, hn, hd, g12, g13, g37, g38, g39, hlt, hp, hld, al74, hst, k1, k2, k3, k4, k5, m1, m2, m3, m4, m5, sum_eq, h44, fn44, hc44, hi, lv, hk1, hw0, hq, hsq, hw]
        exact fin _ (by simp [n_set, hn]) (by simp [df_set, hd]) (by simp [get_set, g12]) (by simp [get_set, g13]) (by simp [get_set, g37]) (by simp [get_set, g38]) (by simp [get_set])

def inE (l : List Lk) (cs c : List Int) (u : Int) : Int := if goodT l cs c then (if thereT l u c.length then 0 else 6) else 2
def inR (l : List Lk) (cs c : List Int) (u : Int) : List Int := if goodT l cs c && thereT l u c.length then inAll cs (mine u l) c else []

theorem good_parts {l : List Lk} {cs c : List Int} (h : goodT l cs c = true) : linked l = true ∧ cs.all isV = true ∧ c.length ≤ 400 ∧ c.all isV = true := by
  simp only [goodT, cellsOk, Bool.and_eq_true, decide_eq_true_eq] at h
  exact ⟨h.1.1, h.1.2, h.2.1, h.2.2⟩
theorem link_ok {l : List Lk} (h : linked l = true) {x : Lk} (hx : x ∈ l) : isP x.a x.s = true ∧ 0 ≤ x.c ∧ 0 ≤ x.u := by
  obtain ⟨hl, hok⟩ := linked_iff h
  obtain ⟨i, hi, rfl⟩ := List.getElem_of_mem hx
  have := hok i hi
  rw [okI_at hi] at this
  simp [okL] at this
  refine ⟨this.1.2, ?_, ?_⟩ <;> omega
theorem mine_ok {l : List Lk} {u : Int} {m : Nat} (h : linked l = true) (ht : thereT l u m = true) {x : Lk} (hx : x ∈ mine u l) : isP x.a x.s = true ∧ 0 ≤ x.c ∧ x.c < m := by
  unfold mine at hx
  rw [List.mem_filter] at hx
  obtain ⟨h1, h2, _⟩ := link_ok h hx.1
  refine ⟨h1, h2, ?_⟩
  unfold thereT at ht
  rw [List.all_eq_true] at ht
  have := ht x hx.1
  simp [hx.2] at this
  simpa using this

set_option maxHeartbeats 1000000 in
/-- image.In. -/
theorem call14 {n : Nat} {L : SumL} (h36 : sumOf L 36 = some S36) (h28 : sumOf L 28 = some S28) (h63 : sumOf L 63 = some SNV) (h53 : sumOf L 53 = none) (h62 : sumOf L 62 = none) (h77 : sumOf L 77 = none) (h41 : sumOf L 41 = none) (h42 : sumOf L 42 = none) (h43 : sumOf L 43 = none) (h44 : sumOf L 44 = none) {N : Nat} (hN : 400 < N)
    {cs : List Int} (hcs : cs.length = 192) {l : List Lk} {c : List Int} {x w : AV} (u : Int) {σ0 : St} (hs : ∀ σ, Keep σ0.next σ0 σ → SlAt σ 6 x (lcs l)) (hy : ∀ σ, Keep σ0.next σ0 σ → SlAt σ 1 w (ones c)) :
    ∃ y σ', (evalK (EL L) N (n + 4)).call 14 [x, .i u, .agg (ints cs), w] σ0 = some (.ret (.tup [y, .i (inE l cs c u)]), σ') ∧ Own σ0.next σ' y (inR l cs c u) ∧ Keep σ0.next σ0 σ' := by
  have hfn : (EL L).fn 14 = some Tryz.f14 := fnL Tryz.func14 rfl
  have f41 : (EL L).fn 41 = some Tryz.f41 := fnL Tryz.func41 rfl
  have f42 : (EL L).fn 42 = some Tryz.f42 := fnL Tryz.func42 rfl
  have f43 : (EL L).fn 43 = some Tryz.f43 := fnL Tryz.func43 rfl
  have hn : (frame0 Tryz.f14 [x, .i u, .agg (ints cs), w]).n = 67 := rfl
  have g0 : (frame0 Tryz.f14 [x, .i u, .agg (ints cs), w]).get 0 = x := rfl
  have g1 : (frame0 Tryz.f14 [x, .i u, .agg (ints cs), w]).get 1 = .i u := rfl
  have g2 : (frame0 Tryz.f14 [x, .i u, .agg (ints cs), w]).get 2 = .agg (ints cs) := rfl
  have g3 : (frame0 Tryz.f14 [x, .i u, .agg (ints cs), w]).get 3 = w := rfl
  have hd : (frame0 Tryz.f14 [x, .i u, .agg (ints cs), w]).df = [] := rfl
  generalize hfr : frame0 Tryz.f14 [x, .i u, .agg (ints cs), w] = a at hn g0 g1 g2 g3 hd
  have hbx := box37 (L := L) 2 cs hcs
  obtain ⟨a1, e1, n1, d1, b0, b1, b3, b6⟩ : ∃ a1, codeA (evalK (EL L) N (n + 3)) (EL L) N none (fAt Tryz.f14 [0]) a σ0 = some (.normal, a1, σ0.add (.cells (ints cs) 0 0)) ∧ a1.n = 67 ∧ a1.df = [] ∧ a1.get 0 = x ∧ a1.get 1 = .i u ∧ a1.get 3 = w ∧ a1.get 6 = .ptr σ0.next 0 0 192 := by
    simp only [fAt, cAt, Tryz.f14]
    simp [code_region, opsA, oneA, wantedA, opA, kindOf, readA, uponA, AFr.put, get_set, n_set, df_set, opd, hn, hd, g0, g1, g2, g3, hbx]
  have kA : Keep σ0.next σ0 (σ0.add (.cells (ints cs) 0 0)) := Keep.add _ (Nat.le_refl _)
  have hgA : (σ0.add (.cells (ints cs) 0 0)).get σ0.next = some (.cells (ints cs) 0 0) := St.get_add_same _ _
  have nA : (σ0.add (.cells (ints cs) 0 0)).next = σ0.next + 1 := rfl
  generalize σ0.add (.cells (ints cs) 0 0) = σA at e1 kA hgA nA
  obtain ⟨σB, c41, kB⟩ := call41 (n := n) (L := L) h36 h28 h63 h53 h62 h77 hN hcs (σ0 := σA) (fun τ hk => hs τ (kA.trans hk (by omega))) (fun τ hk => hy τ (kA.trans hk (by omega)))
  have kAB : Keep σ0.next σ0 σB := kA.trans kB (by omega)
  have hgB : σB.get σ0.next = some (.cells (ints cs) 0 0) := (kB.same _ (by omega)).trans hgA
  have leB := kB.le
  have lA := ld37 (L := L) hgA hcs
  have lB := ld37 (L := L) hgB hcs
  obtain ⟨a2, e2, n2, d2, p0, p1, p3, p6, p21⟩ : ∃ a2, codeA (evalK (EL L) N (n + 3)) (EL L) N none (fAt Tryz.f14 [1, 0, 0]) a1 σA = some (.normal, a2, σB) ∧ a2.n = 67 ∧ a2.df = [] ∧ a2.get 0 = x ∧ a2.get 1 = .i u ∧ a2.get 3 = w ∧ a2.get 6 = .ptr σ0.next 0 0 192 ∧ a2.get 21 = .b (!goodT l cs c) := by
    simp only [fAt, cAt, Tryz.f14]
    simp [code_region, opsA, oneA, wantedA, opA, kindOf, readA, uponA, writeA, AFr.put, get_set, n_set, df_set, opd, callee?, callA, un_not, n1, d1, b0, b1, b3, b6, lA, sum_eq, h41, f41, c41]
  cases hg : goodT l cs c with
  | false =>
    rw [hg] at p21
    obtain ⟨a3, e3, d3, k8, k9⟩ : ∃ a3, codeA (evalK (EL L) N (n + 3)) (EL L) N none (fAt Tryz.f14 [1, 0, 1]) a2 σB = some (.ret, a3, σB) ∧ a3.df = [] ∧ a3.get 8 = .v (.slice none 0 0) ∧ a3.get 9 = .i 2 := by
      simp only [fAt, cAt, Tryz.f14]
      simp [code_region, code_seq, code_cond, code_ret, opsA, oneA, wantedA, opA, kindOf, readA, uponA, AFr.put, get_set, n_set, df_set, opd, n2, d2, p21]
    exact ⟨.v (.slice none 0 0), σB, call_ret hfn (show Tryz.f14.body = some (fAt Tryz.f14 []) from rfl) (by rw [hfr]; exact seq_n e1 (seq_ret (seq_n e2 e3))) d3 (by simp [resultA, resultsA, Tryz.f14, k8, k9, inE, hg]), .inl ⟨by simp [inR, hg], rfl⟩, kAB⟩
  | true =>
    rw [hg] at p21
    obtain ⟨hlk, hv, hcl, hcv⟩ := good_parts hg
    obtain ⟨hl4, _⟩ := linked_iff hlk
    have e3 : codeA (evalK (EL L) N (n + 3)) (EL L) N none (fAt Tryz.f14 [1, 0, 1]) a2 σB = some (.normal, a2, σB) := by
      simp only [fAt, cAt, Tryz.f14]
      simp [code_skip, code_cond, opd, p21]
    have hlen := (hy σB kAB).len (E := EL L) (t := 38) (el := 3) Tryz.underlying38
    rw [ones_len] at hlen
    obtain ⟨z, σC, c42, hgz, kC⟩ := call42 (n := n + 2) (L := L) (N := N) hN hl4 u c.length (σ0 := σB) (fun τ hk => hs τ (kAB.trans hk (by omega)))
    have leC := kC.le
    have kAC : Keep σ0.next σ0 σC := kAB.trans kC (by omega)
    obtain ⟨a4, e4, n4, d4, q3, q6, q10, q11⟩ : ∃ a4, codeA (evalK (EL L) N (n + 3)) (EL L) N none (fAt Tryz.f14 [1, 1, 0]) a2 σB = some (.normal, a4, σC) ∧ a4.n = 67 ∧ a4.df = [] ∧ a4.get 3 = w ∧ a4.get 6 = .ptr σ0.next 0 0 192 ∧ a4.get 10 = z ∧ a4.get 11 = .i (if thereT l u c.length then 0 else 6) := by
      generalize (if thereT l u c.length then (0 : Int) else 6) = ee at c42
      simp only [fAt, cAt, Tryz.f14]
      simp [code_region, opsA, oneA, wantedA, opA, kindOf, readA, uponA, writeA, AFr.put, get_set, n_set, df_set, opd, callee?, callA, n2, d2, p0, p1, p3, p6, hlen, sum_eq, h42, f42, c42]
    cases ht : thereT l u c.length with
    | false =>
      rw [ht] at q11
      simp at q11
      obtain ⟨a5, e5, d5, k8, k9⟩ : ∃ a5, codeA (evalK (EL L) N (n + 3)) (EL L) N none (fAt Tryz.f14 [1, 1, 1, 0]) a4 σC = some (.ret, a5, σC) ∧ a5.df = [] ∧ a5.get 8 = .v (.slice none 0 0) ∧ a5.get 9 = .i 6 := by
        simp only [fAt, cAt, Tryz.f14]
        simp [code_region, code_seq, code_cond, code_ret, opsA, oneA, wantedA, opA, kindOf, readA, uponA, AFr.put, get_set, n_set, df_set, opd, ne_int, n4, d4, q11]
      exact ⟨.v (.slice none 0 0), σC, call_ret hfn (show Tryz.f14.body = some (fAt Tryz.f14 []) from rfl) (by rw [hfr]; exact seq_n e1 (seq_n (seq_n e2 e3) (seq_n e4 (seq_ret e5)))) d5 (by simp [resultA, resultsA, Tryz.f14, k8, k9, inE, hg, ht]), .inl ⟨by simp [inR, ht], rfl⟩, kAC⟩
    | true =>
      rw [ht] at q11 hgz
      simp at q11 hgz
      obtain ⟨a5, e5, n5, d5, r3, r6, r10⟩ : ∃ a5, codeA (evalK (EL L) N (n + 3)) (EL L) N none (fAt Tryz.f14 [1, 1, 1, 0]) a4 σC = some (.normal, a5, σC) ∧ a5.n = 67 ∧ a5.df = [] ∧ a5.get 3 = w ∧ a5.get 6 = .ptr σ0.next 0 0 192 ∧ a5.get 10 = z := by
        simp only [fAt, cAt, Tryz.f14]
        simp [code_skip, code_region, code_seq, code_cond, opsA, oneA, wantedA, opA, kindOf, readA, uponA, AFr.put, get_set, n_set, df_set, opd, ne_int, n4, d4, q3, q6, q10, q11]
      obtain ⟨y, σD, c43, hown, kD⟩ := call43 (n := n + 2) (L := L) (N := N) (c := c) (x := w) (σ0 := σC) (fun τ hk => hy τ (kAC.trans hk (by omega))) (by unfold maxElems; omega)
      have leD := kD.le
      obtain ⟨a6, e6, n6, d6, s6, s10, s12⟩ : ∃ a6, codeA (evalK (EL L) N (n + 3)) (EL L) N none (fAt Tryz.f14 [1, 1, 1, 1, 0]) a5 σC = some (.normal, a6, σD) ∧ a6.n = 67 ∧ a6.df = [] ∧ a6.get 6 = .ptr σ0.next 0 0 192 ∧ a6.get 10 = z ∧ a6.get 12 = y := by
        simp only [fAt, cAt, Tryz.f14]
        simp [code_region, opsA, oneA, wantedA, opA, kindOf, readA, uponA, writeA, AFr.put, get_set, n_set, df_set, opd, callee?, callA, n5, d5, r3, r6, r10, sum_eq, h43, f43, c43]
      have hgD : σD.get σ0.next = some (.cells (ints cs) 0 0) := (kD.same _ (by omega)).trans ((kC.same _ (by omega)).trans hgB)
      have lD := ld37 (L := L) hgD hcs
      have hst := st96 (L := L) (σ := σD.add (.cells (ints zimg) 0 0)) (o := σD.next) (cs := cs) (St.get_add_same _ _) rep_len hcs
      have hvn : ∀ i n g s, y ≠ .sl σD.next i n g s := by
        intro i n g s e
        rcases hown with ⟨_, rfl⟩ | ⟨p, g', m, rfl, _, _, _, h4⟩
        · cases e
        · cases e; omega
      obtain ⟨a7, σE, e7, n7, d7, t10, t12, t13, hσE⟩ : ∃ a7 σE, codeA (evalK (EL L) N (n + 3)) (EL L) N none (fAt Tryz.f14 [1, 1, 1, 1, 1, 0]) a6 σD = some (.normal, a7, σE) ∧ a7.n = 67 ∧ a7.df = [] ∧ a7.get 10 = z ∧ a7.get 12 = y ∧ a7.get 13 = .ptr σD.next 0 0 192 ∧ σE = (σD.add (.cells (ints zimg) 0 0)).set σD.next (.cells (ints cs) 0 0) := by
        simp only [fAt, cAt, Tryz.f14]
        simp [code_region, opsA, oneA, wantedA, opA, kindOf, readA, uponA, writeA, AFr.put, get_set, n_set, df_set, opd, ex2, n6, d6, s6, s10, s12, lD, bd96 hcs, al96, hst]
      have nE : σE.next = σD.next + 1 := by rw [hσE, next_set, next_add]
      have oE : ∀ o, o < σD.next → σE.get o = σD.get o := fun o ho => by rw [hσE, get_sset, if_neg (by omega), get_sadd, if_neg (by omega)]
      have kCE : Keep σC.next σC σE := kD.trans (b := σC.next) (c := σC.next) ⟨by omega, fun o ho => oE o (by omega)⟩ (Nat.le_refl _)
      have hz : ∀ τ, Keep σC.next σC τ → SlAt τ 6 z (lcs (mine u l)) := fun τ hk => (hgz.keep hk.le fun o _ h => hk.same o h).slAt
      have hlz := (hz σE kCE).len (E := EL L) (t := 34) (el := 74) Tryz.underlying34
      rw [lcs_len] at hlz
      have hml : (mine u l).length ≤ 400 := Nat.le_trans (List.length_filter_le ..) hl4
      obtain ⟨a8, e8, i8⟩ : ∃ a8, codeA (evalK (EL L) N (n + 3)) (EL L) N none (fAt Tryz.f14 [1, 1, 1, 1, 1, 1, 0, 0]) a7 σE = some (.normal, a8, σE) ∧ In14 cs (mine u l) c z y σD.next σC.next σC 0 a8 σE := by
        simp only [fAt, cAt, Tryz.f14]
        simp [code_region, opsA, oneA, wantedA, opA, kindOf, readA, uponA, AFr.put, get_set, n_set, opd, n7, t10, hlz]
        exact ⟨by simp [n_set, n7], by simp [df_set, d7], by simp [get_set, t12], by simp [get_set, t13], by simp [get_set], by simp [get_set], by simp [get_set], by rw [hσE, get_sset, if_pos rfl], by omega, hown.keep (by omega) fun o _ h => oE o h, kCE⟩
      obtain ⟨a9, σF, e9, n9, d9, v12, hownF, kF⟩ := loop_all (K := evalK (EL L) N (n + 3)) (E := EL L) (N := N) (c := in14) 0 (In14 cs (mine u l) c z y σD.next σC.next σC) (fun a σ => a.n = 67 ∧ a.df = [] ∧ a.get 12 = y ∧ Own σC.next σ y (inAll cs (mine u l) c) ∧ Keep σC.next σC σ) (mine u l).length
        (fun k a σ hk hI => by
          obtain ⟨h1, h2, h3⟩ := mine_ok hlk ht (List.getElem_mem hk)
          exact in14_step (n := n + 2) h44 hcs (Nat.le_refl _) hz hvn hml hk h1 h2 h3 hI)
        (fun a σ hI => by
          obtain ⟨hn, hd, g12, g13, g37, g38, g39, mv, vn, hyy, kp⟩ := hI
          rw [List.take_length] at hyy
          simp only [in14, fAt, cAt, Tryz.f14]
          simp [code_region, code_seq, code_cond, code_exit, opsA, oneA, wantedA, opA, kindOf, readA, uponA, AFr.put, get_set, n_set, df_set, opd, cmp_lss, ex2, hn, hd, g12, g38, g39]
          exact ⟨hyy, kp⟩) (by omega) i8
      obtain ⟨a10, e10, d10, k8, k9⟩ : ∃ a10, codeA (evalK (EL L) N (n + 3)) (EL L) N none (fAt Tryz.f14 [1, 1, 1, 1, 1, 1, 1]) a9 σF = some (.ret, a10, σF) ∧ a10.df = [] ∧ a10.get 8 = y ∧ a10.get 9 = .i 0 := by
        simp only [fAt, cAt, Tryz.f14]
        simp [code_region, code_seq, code_ret, opsA, oneA, wantedA, opA, kindOf, readA, uponA, AFr.put, get_set, n_set, df_set, opd, n9, d9, v12]
      refine ⟨y, σF, call_ret hfn (show Tryz.f14.body = some (fAt Tryz.f14 []) from rfl) (by rw [hfr]; exact seq_n e1 (seq_n (seq_n e2 e3) (seq_n e4 (seq_n e5 (seq_n e6 (seq_n e7 (seq_n (seq_n e8 e9) e10))))))) d10 (by simp [resultA, resultsA, Tryz.f14, k8, k9, inE, hg, ht]), ?_, kAC.trans kF (by omega)⟩
      have hR : inR l cs c u = inAll cs (mine u l) c := by simp [inR, hg, ht]
      rw [hR]
      rcases hownF with ⟨h1, h2⟩ | ⟨p, g, m, h1, h2, h3, h4, h5⟩
      · exact .inl ⟨h1, h2⟩
      · exact .inr ⟨p, g, m, h1, h2, h3, by omega, h5⟩
end Go.Proofs.YtfmbpdacdopkgaaGreatDoor
