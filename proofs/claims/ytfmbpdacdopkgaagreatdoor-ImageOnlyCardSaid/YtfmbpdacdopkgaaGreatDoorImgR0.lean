/- Links; the reference's Linked. Conditions: none. -/
import Derived.Test.YtfmbpdacdopkgaaGreatDoorImgM7
namespace Go.Proofs.YtfmbpdacdopkgaaGreatDoor
set_option maxRecDepth 100000
open Go Go.Ai
open Go.RowKit (Below)

structure Lk where
  u : Int
  c : Int
  k : Int
  a : Int
  s : Int
  o : Bool
def lc (x : Lk) : List AV := [.i x.u, .i x.c, .i x.k, .i x.a, .i x.s, .b x.o]
def lcs (l : List Lk) : List (List AV) := l.map lc
theorem lcs_len (l : List Lk) : (lcs l).length = l.length := by simp [lcs]
theorem lcs_at {l : List Lk} {k : Nat} (hk : k < l.length) : (lcs l)[k]? = some [.i l[k].u, .i l[k].c, .i l[k].k, .i l[k].a, .i l[k].s, .b l[k].o] := by simp [lcs, lc, hk]
/-- A link's own numbers are formed. -/
def okL (x : Lk) : Bool := !decide (x.u < 0) && !decide (x.c < 0) && !decide (x.k < 1) && !decide (3 < x.k) && isP x.a x.s
def same (x y : Lk) : Bool := x.u == y.u && x.c == y.c
/-- A link is formed, and no earlier one has its place. -/
def okI (l : List Lk) (i : Nat) : Bool := match l[i]? with
  | some x => okL x && !(l.take i).any (same x)
  | none => true
def linked (l : List Lk) : Bool := decide (l.length ≤ 400) && (List.range l.length).all (okI l)
theorem okI_at {l : List Lk} {i : Nat} (hi : i < l.length) : okI l i = (okL l[i] && !(l.take i).any (same l[i])) := by simp [okI, hi]
theorem linked_of {l : List Lk} (hl : l.length ≤ 400) (h : ∀ j, j < l.length → okI l j = true) : linked l = true := by
  simp only [linked, hl, decide_true, Bool.true_and, List.all_eq_true, List.mem_range]; exact h
theorem not_linked {l : List Lk} {j : Nat} (hj : j < l.length) (h : okI l j = false) : linked l = false := by
  rw [Bool.eq_false_iff]
  intro h'
  simp only [linked, Bool.and_eq_true, List.all_eq_true, List.mem_range] at h'
  rw [h'.2 j hj] at h; cases h
theorem linked_big {l : List Lk} (h : ¬ l.length ≤ 400) : linked l = false := by simp [linked, h]
theorem linked_iff {l : List Lk} (h : linked l = true) : l.length ≤ 400 ∧ ∀ j, j < l.length → okI l j = true := by
  simpa [linked, List.all_eq_true] using h

theorem agg74 (L : SumL) : (EL L).agg 74 = some true := by simp [Env.agg, und_eq, Tryz.underlying74]
theorem agg4 (L : SumL) : (EL L).agg 4 = some false := by simp [Env.agg, und_eq, Tryz.underlying4]
theorem zero74 (L : SumL) : (EL L).zero 74 = some (.agg #[.int .i64 0, .int .i64 0, .int .i64 0, .int .i64 0, .int .i64 0, .bool false]) := by
  show (match Tryz.prog.info? 74 with | some i => i.zero | none => none) = _
  kernel_rfl
def lz : List AV := [.i 0, .i 0, .i 0, .i 0, .i 0, .b false]
theorem al74 {L : SumL} {a : AFr} {o : Oper} (h : o.op = .alloc 74) : allocA (EL L) a o = some (.cells lz 0 0, fun n => .ptr n 0 0 6) := by
  simp [allocA, h, zero74, Value.cells, lz]
theorem st74 {L : SumL} {σ : St} {o : Nat} (x : Lk) (h : σ.get o = some (.cells lz 0 0)) : storeA (EL L) σ 74 (.ptr o 0 0 6) (.agg [.i x.u, .i x.c, .i x.k, .i x.a, .i x.s, .b x.o]) = some (σ.set o (.cells (lc x) 0 0)) := by
  simp [storeA, z74, AV.cells?, wrCells, h, lz, splice, lc, AV.one, lone1]
theorem fa74 {L : SumL} {o i g e k : Nat} (hk : k < 6) (he : k + 1 ≤ e) : fieldAddrA (EL L) 74 (.ptr o i g e) k = some (.ptr o (i + k) g 1) := by
  have h : k = 0 ∨ k = 1 ∨ k = 2 ∨ k = 3 ∨ k = 4 ∨ k = 5 := by omega
  rcases h with rfl | rfl | rfl | rfl | rfl | rfl <;> simp [fieldAddrA, und_eq, Tryz.underlying74, z3, z4] <;> omega
theorem rdL {σ : St} {o : Nat} {x : Lk} (h : σ.get o = some (.cells (lc x) 0 0)) : rdCells σ (.ptr o 0 0 1) 1 = some [.i x.u] ∧ rdCells σ (.ptr o 1 0 1) 1 = some [.i x.c] ∧ rdCells σ (.ptr o 2 0 1) 1 = some [.i x.k] ∧ rdCells σ (.ptr o 3 0 1) 1 = some [.i x.a] ∧
    rdCells σ (.ptr o 4 0 1) 1 = some [.i x.s] ∧ rdCells σ (.ptr o 5 0 1) 1 = some [.b x.o] := by
  simp [rdCells, h, lc]

/-- A link's part, of a slice's element. -/
theorem part74 {L : SumL} {σ : St} {p : AV} {x : Lk} (h : rdCells σ p 6 = some [.i x.u, .i x.c, .i x.k, .i x.a, .i x.s, .b x.o]) :
    ∃ p0 p1, fieldAddrA (EL L) 74 p 0 = some p0 ∧ fieldAddrA (EL L) 74 p 1 = some p1 ∧ loadA (EL L) σ 3 p0 = some (.i x.u) ∧ loadA (EL L) σ 3 p1 = some (.i x.c) := by
  cases p with
  | ptr o i g e =>
    have he : 6 ≤ e := by
      rcases Nat.lt_or_ge e 6 with h' | h'
      · simp [rdCells] at h
        omega
      · exact h'
    refine ⟨.ptr o (i + 0) g 1, .ptr o (i + 1) g 1, fa74 (by omega) (by omega), fa74 (by omega) (by omega), load_one (agg3 L) ?_, load_one (agg3 L) ?_⟩
    all_goals
      simp only [rdCells, he, if_true] at h ⊢
      split at h
      · rename_i cs g' m hg
        split at h
        · rename_i hc
          simp only [Bool.and_eq_true, decide_eq_true_eq] at hc
          simp only [Option.some.injEq] at h
          have h0 := congrArg (List.take 1) h
          have h1 := congrArg (fun l => List.take 1 (List.drop 1 l)) h
          simp [List.take_take, List.drop_take, List.drop_drop] at h0 h1
          simp [h0, h1]
          omega
        · cases h
      · cases h
  | cptr cs =>
    simp only [rdCells] at h
    split at h
    · rename_i hc
      simp only [Option.some.injEq] at h
      have h0 := congrArg (List.take 1) h
      have h1 := congrArg (fun l => List.take 1 (List.drop 1 l)) h
      simp [List.take_take, List.drop_take] at h0 h1
      refine ⟨.cptr (cs.drop 0), .cptr (cs.drop 1), by simp [fieldAddrA, und_eq, Tryz.underlying74, z3], by simp [fieldAddrA, und_eq, Tryz.underlying74, z3], load_one (agg3 L) ?_, load_one (agg3 L) ?_⟩
      · simp only [rdCells, List.drop_zero]
        rw [if_pos (by omega), h0]
      · simp only [rdCells]
        rw [if_pos (by simp; omega), List.drop_one, h1]
    · cases h
  | _ => simp [rdCells] at h

/- The reference's Linked. -/
noncomputable def in16 : Code := fAt Tryz.f16 [1, 0, 1, 0, 0, 1, 0, 0, 1, 1, 1, 0, 0]
noncomputable def out16 : Code := fAt Tryz.f16 [1, 0, 1, 0, 0]
structure In16 (l : List Lk) (x : AV) (i p : Nat) (z : Lk) (σi : St) (k : Nat) (a : AFr) (σ : St) : Prop where
  n : a.n = 73
  d : a.df = []
  g0 : a.get 0 = x
  g3 : a.get 3 = .i (i : Int)
  g4 : a.get 4 = .ptr p 0 0 6
  g5 : a.get 5 = .i (k : Int)
  ok : (l.take k).any (same z) = false
  s : σ = σi

theorem any_take {l : List Lk} {z : Lk} {k : Nat} (hk : k < l.length) : (l.take (k + 1)).any (same z) = ((l.take k).any (same z) || same z l[k]) := by
  rw [List.take_succ_eq_append_getElem hk, List.any_append]; simp

theorem in16_step {K : Kont} {L : SumL} {N : Nat} {l : List Lk} {x : AV} {i p : Nat} {z : Lk} {σi : St} (hs : SlAt σi 6 x (lcs l)) (hp : σi.get p = some (.cells (lc z) 0 0)) (hl : l.length ≤ 400) {k : Nat} (hi : i < l.length) (hk : k < i) {a : AFr} {σ : St} (h : In16 l x i p z σi k a σ) :
    (∃ a' σ', codeA K (EL L) N none in16 a σ = some (.normal, a', σ') ∧ In16 l x i p z σi (k + 1) a' σ') ∨ ∃ a' σ', codeA K (EL L) N none in16 a σ = some (.ret, a', σ') ∧ σ' = σi ∧ a'.df = [] ∧ a'.get 2 = .b false ∧ (l.take i).any (same z) = true := by
  obtain ⟨hn, hd, g0, g3, g4, g5, ok, rfl⟩ := h
  have hlt : (k : Int) < (i : Int) := by omega
  have hkl : k < l.length := by omega
  obtain ⟨q, hq, hr⟩ := hs.at (E := EL L) (t := 34) (el := 74) Tryz.underlying34 (z74 L) (lcs_at hkl) (k := .i64)
  obtain ⟨q0, q1, f0, f1, l0, l1⟩ := part74 (L := L) hr
  obtain ⟨r0, r1, -, -, -, -⟩ := rdL hp
  have m0 : loadA (EL L) σ 3 (.ptr p 0 0 1) = some (.i z.u) := load_one (agg3 L) r0
  have m1 : loadA (EL L) σ 3 (.ptr p 1 0 1) = some (.i z.c) := load_one (agg3 L) r1
  have k0 := fa74 (L := L) (o := p) (i := 0) (g := 0) (e := 6) (k := 0) (by omega) (by omega)
  have k1 := fa74 (L := L) (o := p) (i := 0) (g := 0) (e := 6) (k := 1) (by omega) (by omega)
  simp only [Nat.zero_add] at k0 k1
  have hw := wrap_nat (n := k) (by omega)
  have hat := any_take (l := l) (z := z) hkl
  cases hsm : same z l[k] with
  | false =>
    left
    rw [ok, hsm] at hat
    by_cases hu : l[k].u = z.u
    · have hc : (l[k].c == z.c) = false := by
        unfold same at hsm
        simp [hu] at hsm
        simpa using (Ne.symm hsm)
      simp only [in16, fAt, cAt, Tryz.f16]
      simp [code_skip, code_region, code_draw, code_seq, code_cond, code_block, opsA, oneA, wantedA, opA, kindOf, readA, uponA, AFr.put, get_set, n_set, opd, cmp_lss, ar_add, eq_int, ex2, regionA, dops, dopsGo, befOf, Region.binds, drawOk, nodupB, hasDefer, eager, drawA, dim, unord, sameIn, chk, beq_self, Nat.testBit, hn, g0, g3, g4, g5, hlt, hq, f0, f1, l0, l1, m0, m1, k0, k1, hu, hc, hw]
      exact ⟨by simp [n_set, hn], by simp [df_set, hd], by simp [get_set, g0], by simp [get_set, g3], by simp [get_set, g4], by simp [get_set], hat, rfl⟩
    · have hu' : (l[k].u == z.u) = false := by simpa using hu
      simp only [in16, fAt, cAt, Tryz.f16]
      simp [code_skip, code_region, code_draw, code_seq, code_cond, code_block, opsA, oneA, wantedA, opA, kindOf, readA, uponA, AFr.put, get_set, n_set, opd, cmp_lss, ar_add, eq_int, ex2, regionA, dops, dopsGo, befOf, Region.binds, drawOk, nodupB, hasDefer, eager, drawA, dim, unord, sameIn, chk, beq_self, Nat.testBit, hn, g0, g3, g4, g5, hlt, hq, f0, l0, m0, k0, hu', hw]
      exact ⟨by simp [n_set, hn], by simp [df_set, hd], by simp [get_set, g0], by simp [get_set, g3], by simp [get_set, g4], by simp [get_set], hat, rfl⟩
  | true =>
    right
    have hu : (l[k].u == z.u) = true := by unfold same at hsm; simp at hsm; simpa using hsm.1.symm
    have hc : (l[k].c == z.c) = true := by unfold same at hsm; simp at hsm; simpa using hsm.2.symm
    have hany : (l.take i).any (same z) = true := by
      rw [List.any_eq_true]
      exact ⟨l[k], List.mem_take_iff_getElem.2 ⟨k, by omega, rfl⟩, hsm⟩
    simp only [in16, fAt, cAt, Tryz.f16]
    simp [code_skip, code_region, code_draw, code_seq, code_cond, code_block, code_ret, opsA, oneA, wantedA, opA, kindOf, readA, uponA, AFr.put, get_set, n_set, df_set, opd, cmp_lss, eq_int, ex2, regionA, dops, dopsGo, befOf, Region.binds, drawOk, nodupB, hasDefer, eager, drawA, dim, unord, sameIn, chk, beq_self, Nat.testBit, hn, hd, g0, g3, g4, g5, hlt, hq, f0, f1, l0, l1, m0, m1, k0, k1, hu, hc]
    simpa using hany

structure Out16 (l : List Lk) (x : AV) (b : Nat) (σ0 : St) (i : Nat) (a : AFr) (σ : St) : Prop where
  n : a.n = 73
  d : a.df = []
  g0 : a.get 0 = x
  g3 : a.get 3 = .i (i : Int)
  ok : ∀ j, j < i → okI l j = true
  kp : Keep b σ0 σ

theorem out16_step {K : Kont} {L : SumL} (h11 : sumOf L 11 = some S36) {N : Nat} (hN : 400 < N) {l : List Lk} {x : AV} {b : Nat} {σ0 : St} (hb : b ≤ σ0.next) (hs : ∀ σ, Keep b σ0 σ → SlAt σ 6 x (lcs l)) (hl : l.length ≤ 400) {i : Nat} (hi : i < l.length) {a : AFr} {σ : St} (h : Out16 l x b σ0 i a σ) :
    (∃ a' σ', codeA K (EL L) N none out16 a σ = some (.normal, a', σ') ∧ Out16 l x b σ0 (i + 1) a' σ') ∨ ∃ a' σ', codeA K (EL L) N none out16 a σ = some (.ret, a', σ') ∧ Keep b σ0 σ' ∧ a'.df = [] ∧ a'.get 2 = .b false ∧ okI l i = false := by
  obtain ⟨hn, hd, g0, g3, ok, kp⟩ := h
  have hlt : (i : Int) < (l.length : Int) := by omega
  have hle : (l.length : Int) ≤ 400 := by omega
  have hlen := (hs σ kp).len (E := EL L) (t := 34) (el := 74) Tryz.underlying34
  rw [lcs_len] at hlen
  obtain ⟨q, hq, hr⟩ := (hs σ kp).at (E := EL L) (t := 34) (el := 74) Tryz.underlying34 (z74 L) (lcs_at hi) (k := .i64)
  have hld := load_agg (agg74 L) (z74 L) hr
  have hat := okI_at hi
  generalize hz : l[i] = z at hld hat
  obtain ⟨a1, e1, n1, d1, a10, a13⟩ : ∃ a1, codeA K (EL L) N none (fAt Tryz.f16 [1, 0, 1, 0, 0, 0]) a σ = some (.normal, a1, σ) ∧ a1.n = 73 ∧ a1.df = [] ∧ a1.get 0 = x ∧ a1.get 3 = .i (i : Int) := by
    simp only [fAt, cAt, Tryz.f16]
    simp [code_skip, code_region, code_seq, code_cond, opsA, oneA, wantedA, opA, kindOf, readA, uponA, AFr.put, get_set, n_set, df_set, opd, cmp_lss, cmp_leq, hn, hd, g0, g3, hlen, hlt, hle]
  have hst := st74 (L := L) (σ := σ.add (.cells lz 0 0)) (o := σ.next) z (St.get_add_same _ _)
  obtain ⟨a2, σ2, e2, n2, d2, a20, a23, a24, m2, x2, kp2⟩ : ∃ a2 σ2, codeA K (EL L) N none (fAt Tryz.f16 [1, 0, 1, 0, 0, 1, 0, 0, 0]) a1 σ = some (.normal, a2, σ2) ∧ a2.n = 73 ∧ a2.df = [] ∧ a2.get 0 = x ∧ a2.get 3 = .i (i : Int) ∧ a2.get 4 = .ptr σ.next 0 0 6 ∧ σ2.get σ.next = some (.cells (lc z) 0 0) ∧ σ2.next = σ.next + 1 ∧ Keep b σ0 σ2 := by
    have kk : Keep b σ0 ((σ.add (.cells lz 0 0)).set σ.next (.cells (lc z) 0 0)) := by
      have := kp.le
      exact (kp.trans (Keep.add (b := b) _ (by omega)) (Nat.le_refl _)).trans (Keep.set (b := b) _ (by omega)) (Nat.le_refl _)
    simp only [fAt, cAt, Tryz.f16]
    simp [code_region, opsA, oneA, wantedA, opA, kindOf, readA, uponA, writeA, AFr.put, get_set, n_set, df_set, opd, ex2, n1, d1, a10, a13, hq, hld, al74, hst, next_set, next_add, get_sset, kk]
  obtain ⟨r0, r1, r2, r3, r4, -⟩ := rdL m2
  have m0 : loadA (EL L) σ2 3 (.ptr σ.next 0 0 1) = some (.i z.u) := load_one (agg3 L) r0
  have m1 : loadA (EL L) σ2 3 (.ptr σ.next 1 0 1) = some (.i z.c) := load_one (agg3 L) r1
  have m2' : loadA (EL L) σ2 3 (.ptr σ.next 2 0 1) = some (.i z.k) := load_one (agg3 L) r2
  have m3 : loadA (EL L) σ2 3 (.ptr σ.next 3 0 1) = some (.i z.a) := load_one (agg3 L) r3
  have m4 : loadA (EL L) σ2 3 (.ptr σ.next 4 0 1) = some (.i z.s) := load_one (agg3 L) r4
  have k0 := fa74 (L := L) (o := σ.next) (i := 0) (g := 0) (e := 6) (k := 0) (by omega) (by omega)
  have k1 := fa74 (L := L) (o := σ.next) (i := 0) (g := 0) (e := 6) (k := 1) (by omega) (by omega)
  have k2 := fa74 (L := L) (o := σ.next) (i := 0) (g := 0) (e := 6) (k := 2) (by omega) (by omega)
  have k3 := fa74 (L := L) (o := σ.next) (i := 0) (g := 0) (e := 6) (k := 3) (by omega) (by omega)
  have k4 := fa74 (L := L) (o := σ.next) (i := 0) (g := 0) (e := 6) (k := 4) (by omega) (by omega)
  simp only [Nat.zero_add] at k0 k1 k2 k3 k4
  cases hok : okL z with
  | false =>
    right
    have hc : z.u < 0 ∨ (¬ z.u < 0 ∧ z.c < 0) ∨ (¬ z.u < 0 ∧ ¬ z.c < 0 ∧ z.k < 1) ∨ (¬ z.u < 0 ∧ ¬ z.c < 0 ∧ ¬ z.k < 1 ∧ 3 < z.k) ∨ (¬ z.u < 0 ∧ ¬ z.c < 0 ∧ ¬ z.k < 1 ∧ ¬ 3 < z.k ∧ isP z.a z.s = false) := by
      by_cases c1 : z.u < 0
      · exact .inl c1
      by_cases c2 : z.c < 0
      · exact .inr (.inl ⟨c1, c2⟩)
      by_cases c3 : z.k < 1
      · exact .inr (.inr (.inl ⟨c1, c2, c3⟩))
      by_cases c4 : 3 < z.k
      · exact .inr (.inr (.inr (.inl ⟨c1, c2, c3, c4⟩)))
      · refine .inr (.inr (.inr (.inr ⟨c1, c2, c3, c4, ?_⟩)))
        simpa [okL, c1, c2, c3, c4] using hok
    have e3 : ∃ a3, codeA K (EL L) N none (fAt Tryz.f16 [1, 0, 1, 0, 0, 1, 0, 0, 1, 0]) a2 σ2 = some (.ret, a3, σ2) ∧ a3.df = [] ∧ a3.get 2 = .b false := by
      simp only [fAt, cAt, Tryz.f16]
      rcases hc with c1 | ⟨c1, c2⟩ | ⟨c1, c2, c3⟩ | ⟨c1, c2, c3, c4⟩ | ⟨c1, c2, c3, c4, c5⟩ <;>
      simp [code_region, code_seq, code_cond, code_ret, opsA, oneA, wantedA, opA, kindOf, readA, uponA, writeA, AFr.put, get_set, n_set, df_set, opd, callee?, callA, cmp_lss, cmp_gtr, un_not, sum_eq, S36, *]
    obtain ⟨a3, e3, d3, g2⟩ := e3
    exact ⟨a3, σ2, seq_n e1 (seq_ret (block_ret (seq_n e2 (seq_ret e3)))), kp2, d3, g2, by rw [hat, hok]; rfl⟩
  | true =>
    have hc : ¬ z.u < 0 ∧ ¬ z.c < 0 ∧ ¬ z.k < 1 ∧ ¬ 3 < z.k ∧ isP z.a z.s = true := by
      simp [okL] at hok
      refine ⟨?_, ?_, ?_, ?_, hok.2⟩ <;> omega
    obtain ⟨c1, c2, c3, c4, c5⟩ := hc
    obtain ⟨a3, e3, n3, d3, a30, a33, a34⟩ : ∃ a3, codeA K (EL L) N none (fAt Tryz.f16 [1, 0, 1, 0, 0, 1, 0, 0, 1, 0]) a2 σ2 = some (.normal, a3, σ2) ∧ a3.n = 73 ∧ a3.df = [] ∧ a3.get 0 = x ∧ a3.get 3 = .i (i : Int) ∧ a3.get 4 = .ptr σ.next 0 0 6 := by
      simp only [fAt, cAt, Tryz.f16]
      simp [code_skip, code_region, code_seq, code_cond, opsA, oneA, wantedA, opA, kindOf, readA, uponA, writeA, AFr.put, get_set, n_set, df_set, opd, callee?, callA, cmp_lss, cmp_gtr, un_not, n2, d2, a20, a23, a24, k0, k1, k2, k3, k4, m0, m1, m2', m3, m4, sum_eq, h11, S36, c1, c2, c3, c4, c5]
    obtain ⟨a4, e4, i4⟩ : ∃ a4, codeA K (EL L) N none (fAt Tryz.f16 [1, 0, 1, 0, 0, 1, 0, 0, 1, 1, 0]) a3 σ2 = some (.normal, a4, σ2) ∧ In16 l x i σ.next z σ2 0 a4 σ2 := by
      simp only [fAt, cAt, Tryz.f16]
      simp [code_region, opsA, oneA, wantedA, opA, kindOf, readA, uponA, AFr.put, opd, n3]
      exact ⟨by simp [n_set, n3], by simp [df_set, d3], by simp [get_set, a30], by simp [get_set, a33], by simp [get_set, a34], by simp [get_set], rfl, rfl⟩
    have hlp := loop_inv (K := K) (E := EL L) (N := N) (c := in16) 2 (In16 l x i σ.next z σ2) (In16 l x i σ.next z σ2 i) (fun a' σ' => σ' = σ2 ∧ a'.df = [] ∧ a'.get 2 = .b false ∧ (l.take i).any (same z) = true) i
      (fun k a σ hk hI => in16_step (hs σ2 kp2) m2 hl hi hk hI)
      (fun a σ hI => by
        obtain ⟨hn, hd, g0, g3, g4, g5, ok, rfl⟩ := hI
        simp only [in16, fAt, cAt, Tryz.f16]
        simp [code_region, code_seq, code_cond, code_exit, opsA, oneA, wantedA, opA, kindOf, readA, uponA, AFr.put, get_set, n_set, opd, cmp_lss, ex2, hn, g3, g5]
        exact ⟨by simp [n_set, hn], by simp [df_set, hd], by simp [get_set, g0], by simp [get_set, g3], by simp [get_set, g4], by simp [get_set, g5], ok, rfl⟩) (by omega) i4
    rcases hlp with ⟨a5, σ5, e5, i5⟩ | ⟨a5, σ5, e5, rfl, d5, g2, hany⟩
    · obtain ⟨n5, d5, a50, a53, a54, a55, ok5, rfl⟩ := i5
      left
      have hw := wrap_nat (n := i) (by omega)
      obtain ⟨a6, e6, i6⟩ : ∃ a6, codeA K (EL L) N none (fAt Tryz.f16 [1, 0, 1, 0, 0, 1, 1]) a5 σ5 = some (.normal, a6, σ5) ∧ Out16 l x b σ0 (i + 1) a6 σ5 := by
        simp only [fAt, cAt, Tryz.f16]
        simp [code_region, opsA, oneA, wantedA, opA, kindOf, readA, uponA, AFr.put, get_set, n_set, opd, ar_add, n5, a53, hw]
        refine ⟨by simp [n_set, n5], by simp [df_set, d5], by simp [get_set, a50], by simp [get_set], ?_, kp2⟩
        intro j hj
        rcases Nat.lt_or_ge j i with h | h
        · exact ok j h
        · rw [show j = i by omega, hat, hok, ok5]; rfl
      exact ⟨a6, σ5, seq_n e1 (seq_n (block_n (seq_n e2 (seq_n e3 (seq_n e4 e5)))) e6), i6⟩
    · right
      exact ⟨a5, σ5, seq_n e1 (seq_ret (block_ret (seq_n e2 (seq_n e3 (seq_n e4 e5))))), kp2, d5, g2, by rw [hat, hok, hany]; rfl⟩

/-- The reference's Linked. -/
theorem call16 {n : Nat} {L : SumL} (h11 : sumOf L 11 = some S36) {N : Nat} (hN : 400 < N) {l : List Lk} {x : AV} {σ0 : St} (hs : ∀ σ, Keep σ0.next σ0 σ → SlAt σ 6 x (lcs l)) :
    ∃ σ', (evalK (EL L) N (n + 1)).call 16 [x] σ0 = some (.ret (.b (linked l)), σ') ∧ Keep σ0.next σ0 σ' := by
  have hfn : (EL L).fn 16 = some Tryz.f16 := fnL Tryz.func16 rfl
  have hn : (frame0 Tryz.f16 [x]).n = 73 := rfl
  have g0 : (frame0 Tryz.f16 [x]).get 0 = x := rfl
  have hd : (frame0 Tryz.f16 [x]).df = [] := rfl
  generalize hfr : frame0 Tryz.f16 [x] = a at hn g0 hd
  have hlen0 := (hs σ0 (Keep.refl _ _)).len (E := EL L) (t := 34) (el := 74) Tryz.underlying34
  rw [lcs_len] at hlen0
  obtain ⟨a1, e1, i1⟩ : ∃ a1, codeA (evalK (EL L) N n) (EL L) N none (.seq (fAt Tryz.f16 [0]) (fAt Tryz.f16 [1, 0, 0])) a σ0 = some (.normal, a1, σ0) ∧ Out16 l x σ0.next σ0 0 a1 σ0 := by
    simp only [fAt, cAt, Tryz.f16]
    simp [code_region, code_seq, opsA, oneA, wantedA, opA, kindOf, readA, uponA, AFr.put, n_set, opd, hn]
    exact ⟨by simp [n_set, hn], by simp [df_set, hd], by simp [get_set, g0], by simp [get_set], (fun j h => absurd h (by omega)), Keep.refl _ _⟩
  have hlp := loop_inv (K := evalK (EL L) N n) (E := EL L) (N := N) (c := out16) 0 (Out16 l x σ0.next σ0) (fun a' σ' => Keep σ0.next σ0 σ' ∧ a'.n = 73 ∧ a'.df = [] ∧ a'.get 0 = x ∧ (l.length ≤ 400 → ∀ j, j < l.length → okI l j = true)) (fun a' σ' => Keep σ0.next σ0 σ' ∧ a'.df = [] ∧ a'.get 2 = .b false ∧ linked l = false) (if l.length ≤ 400 then l.length else 0)
    (fun k a σ hk hI => by
      have hl : l.length ≤ 400 := by
        by_cases h : l.length ≤ 400
        · exact h
        · rw [if_neg h] at hk; omega
      rw [if_pos hl] at hk
      rcases out16_step h11 hN (Nat.le_refl _) hs hl hk hI with h | ⟨a', σ', h, k1, k2, k3, k4⟩
      · exact .inl h
      · exact .inr ⟨a', σ', h, k1, k2, k3, not_linked hk k4⟩)
    (fun a σ hI => by
      obtain ⟨hn, hd, g0, g3, ok, kp⟩ := hI
      have hlen := (hs σ kp).len (E := EL L) (t := 34) (el := 74) Tryz.underlying34
      rw [lcs_len] at hlen
      by_cases hl : l.length ≤ 400
      · rw [if_pos hl] at g3 ok
        simp only [out16, fAt, cAt, Tryz.f16]
        simp [code_region, code_seq, code_cond, code_exit, opsA, oneA, wantedA, opA, kindOf, readA, uponA, AFr.put, get_set, n_set, df_set, opd, cmp_lss, ex2, hn, hd, g0, g3, hlen]
        exact ⟨kp, fun _ => ok⟩
      · rw [if_neg hl] at g3 ok
        have hp : 0 < l.length := by omega
        have hg : ¬ ((l.length : Int) ≤ 400) := by omega
        simp only [out16, fAt, cAt, Tryz.f16]
        simp [code_region, code_seq, code_cond, code_exit, opsA, oneA, wantedA, opA, kindOf, readA, uponA, AFr.put, get_set, n_set, df_set, opd, cmp_lss, cmp_leq, ex2, hn, hd, g0, g3, hlen, hp, hg]
        exact ⟨kp, fun h => absurd h hl⟩) (by split <;> omega) i1
  rcases hlp with ⟨a2, σ2, e2, kp, n2, d2, a20, hok⟩ | ⟨a2, σ2, e2, kp, d2, k2, hnot⟩
  · have hlen := (hs σ2 kp).len (E := EL L) (t := 34) (el := 74) Tryz.underlying34
    rw [lcs_len] at hlen
    have hres : linked l = decide ((l.length : Int) ≤ 400) := by
      by_cases hl : l.length ≤ 400
      · rw [linked_of hl (hok hl)]; simp; omega
      · rw [linked_big hl]; simp; omega
    obtain ⟨a3, e3, d3, g2⟩ : ∃ a3, codeA (evalK (EL L) N n) (EL L) N none (fAt Tryz.f16 [1, 1]) a2 σ2 = some (.ret, a3, σ2) ∧ a3.df = [] ∧ a3.get 2 = .b (linked l) := by
      rw [hres]
      simp only [fAt, cAt, Tryz.f16]
      simp [code_region, code_seq, code_ret, opsA, oneA, wantedA, opA, kindOf, readA, uponA, AFr.put, get_set, n_set, df_set, opd, cmp_leq, n2, d2, a20, hlen]
    exact ⟨σ2, call_ret (x := .b (linked l)) hfn (show Tryz.f16.body = some (fAt Tryz.f16 []) from rfl) (by rw [hfr]; exact body_n e1 e2 e3) d3 (by simp [resultA, resultsA, Tryz.f16, g2]), kp⟩
  · exact ⟨σ2, call_ret (x := .b (linked l)) hfn (show Tryz.f16.body = some (fAt Tryz.f16 []) from rfl) (by rw [hfr]; exact body_ret e1 e2) d2 (by simp [resultA, resultsA, Tryz.f16, k2, hnot]), kp⟩
end Go.Proofs.YtfmbpdacdopkgaaGreatDoor

namespace Go.Proofs.YtfmbpdacdopkgaaGreatDoor
set_option maxRecDepth 100000
open Go Go.Ai
open Go.RowKit (Below)

def kv (x : Lk) : Value := .agg #[.int .i64 x.u, .int .i64 x.c]
theorem stood140 : Tryz.prog.stoodInHeld 140 = false := by kernel_rfl
theorem check140 (b : Bool) (u c : Int) : runA Tryz.prog (Instr.checkKey b 10000 140 (.agg #[.int .i64 u, .int .i64 c])) = some () := by kernel_rfl
theorem equal140 (x y : Lk) : runA Tryz.prog (Op.equal 140 (kv x) (kv y)) = some (same x y) := by
  have := runA_eq_struct (P := Tryz.prog) Tryz.underlying140 stood140 9999 #[.int .i64 x.u, .int .i64 x.c] #[.int .i64 y.u, .int .i64 y.c] (fun f => if f.offset = 0 then x.u == y.u else x.c == y.c) (by
    intro f hf
    simp only [List.mem_cons, List.not_mem_nil, or_false] at hf
    rcases hf with rfl | rfl
    · exact ⟨by decide, .int .i64 x.u, .int .i64 y.u, runA_part_int Tryz.underlying3 rfl, runA_part_int Tryz.underlying3 rfl, (runA_eq_int Tryz.underlying3 9998 .i64 x.u y.u).trans rfl⟩
    · exact ⟨by decide, .int .i64 x.c, .int .i64 y.c, runA_part_int Tryz.underlying3 rfl, runA_part_int Tryz.underlying3 rfl, (runA_eq_int Tryz.underlying3 9998 .i64 x.c y.c).trans rfl⟩)
  refine Eq.trans this ?_
  simp [same]

theorem findAsk {z : Lk} : ∀ (l : List Lk) (i : Nat), (l.any (same z) = false → findAskK Tryz.prog 140 (kv z) (l.map kv) i = some none) ∧ (l.any (same z) = true → ∃ j, j < l.length ∧ findAskK Tryz.prog 140 (kv z) (l.map kv) i = some (some (i + j)))
  | [], i => ⟨fun _ => rfl, fun h => by simp at h⟩
  | x :: l, i => by
    have he := equal140 z x
    obtain ⟨h1, h2⟩ := findAsk (z := z) l (i + 1)
    simp only [List.map_cons, findAskK, he, List.any_cons]
    cases hs : same z x with
    | true => exact ⟨fun h => by simp at h, fun _ => ⟨0, by simp, rfl⟩⟩
    | false =>
      refine ⟨fun h => h1 (by simpa using h), fun h => ?_⟩
      obtain ⟨j, hj, e⟩ := h2 (by simpa using h)
      exact ⟨j + 1, by simpa using hj, by rw [show i + (j + 1) = i + 1 + j by omega]; exact e⟩
theorem findKey {L : SumL} {z : Lk} (l : List Lk) : (l.any (same z) = false → findKeyA (EL L) 140 (kv z) (l.map kv) = some none) ∧ (l.any (same z) = true → ∃ j, j < l.length ∧ findKeyA (EL L) 140 (kv z) (l.map kv) = some (some j)) := by
  have key : findKeyA (EL L) 140 (kv z) (l.map kv) = findAskK Tryz.prog 140 (kv z) (l.map kv) 0 := by
    unfold findKeyA
    simp only [und_eq, Tryz.underlying140]
    cases l with
    | nil => rfl
    | cons x l => rfl
  obtain ⟨h1, h2⟩ := findAsk (z := z) l 0
  rw [key]
  refine ⟨h1, fun h => ?_⟩
  obtain ⟨j, hj, e⟩ := h2 h
  exact ⟨j, hj, by rw [e, Nat.zero_add]⟩

/-- The map of the places of some links. -/
structure MapOf (l : List Lk) (m : Nat) (σ : St) : Prop where
  has : ∃ es clk, σ.get m = some (.map es clk) ∧ es.map (·.key) = l.map kv ∧ es.map (·.val) = l.map fun _ => AV.b true

theorem look138 {L : SumL} {σ : St} {l : List Lk} {m : Nat} (z : Lk) (h : MapOf l m σ) : lookupA (EL L) σ 138 (.mp m) (.agg [.i z.u, .i z.c]) false = some (.b (l.any (same z))) := by
  obtain ⟨es, clk, hg, hk, hv⟩ := h.has
  obtain ⟨h1, h2⟩ := findKey (L := L) (z := z) l
  have hz : (EL L).zero 4 = some (.bool false) := by
    show (match Tryz.prog.info? 4 with | some i => i.zero | none => none) = _
    kernel_rfl
  have hP : (EL L).P = Tryz.prog := rfl
  have hck := fun b => check140 b z.u z.c
  have hkz : Value.agg #[Value.int .i64 z.u, Value.int .i64 z.c] = kv z := rfl
  simp only [lookupA, und_eq, Tryz.underlying138, AV.exact?, AV.exacts?, Option.map_some, keysOf, hg, hk, hv, hP, hck]
  simp only [hkz]
  cases ha : l.any (same z) with
  | false => simp [h1 ha, hz]
  | true =>
    obtain ⟨j, hj, e⟩ := h2 ha
    simp [e, hj]

theorem upd138 {L : SumL} {σ : St} {l : List Lk} {m : Nat} (z : Lk) (h : MapOf l m σ) (hn : l.any (same z) = false) : ∃ x, mapUpdateA (EL L) σ 138 (.mp m) (.agg [.i z.u, .i z.c]) (.b true) = some (σ.set m x) ∧ MapOf (l ++ [z]) m (σ.set m x) := by
  obtain ⟨es, clk, hg, hk, hv⟩ := h.has
  obtain ⟨h1, h2⟩ := findKey (L := L) (z := z) l
  have hP : (EL L).P = Tryz.prog := rfl
  have hck := check140 false z.u z.c
  have h1 := h1 hn
  have hkz : Value.agg #[Value.int .i64 z.u, Value.int .i64 z.c] = kv z := rfl
  refine ⟨.map (es ++ [⟨kv z, .b true, clk⟩]) (clk + 1), ?_, ⟨_, _, St.get_set_same _ _ _, by simp [hk], by simp [hv]⟩⟩
  simp only [mapUpdateA, und_eq, Tryz.underlying138, AV.exact?, AV.exacts?, Option.map_some, hg, hP, hck, hk]
  simp only [hkz, h1]

theorem MapOf.keep {l : List Lk} {m : Nat} {σ σ' : St} (h : MapOf l m σ) (hs : σ'.get m = σ.get m) : MapOf l m σ' := by
  obtain ⟨es, clk, hg, h⟩ := h.has
  exact ⟨es, clk, hs.trans hg, h⟩

theorem z140 (L : SumL) : (EL L).size 140 = some 2 := by show (Tryz.prog.info? 140).map _ = _; kernel_rfl
theorem zero140 (L : SumL) : (EL L).zero 140 = some (.agg #[.int .i64 0, .int .i64 0]) := by
  show (match Tryz.prog.info? 140 with | some i => i.zero | none => none) = _
  kernel_rfl
theorem agg140 (L : SumL) : (EL L).agg 140 = some true := by simp [Env.agg, und_eq, Tryz.underlying140]
theorem al140 {L : SumL} {a : AFr} {o : Oper} (h : o.op = .alloc 140) : allocA (EL L) a o = some (.cells [.i 0, .i 0] 0 0, fun n => .ptr n 0 0 2) := by
  simp [allocA, h, zero140, Value.cells]
theorem st140 {L : SumL} {σ : St} {o : Nat} {u c : Int} (h : σ.get o = some (.cells [.i 0, .i 0] 0 0)) : storeA (EL L) σ 140 (.ptr o 0 0 2) (.agg [.i u, .i c]) = some (σ.set o (.cells [.i u, .i c] 0 0)) := by
  simp [storeA, z140, AV.cells?, wrCells, h, splice, AV.one, lone1]
theorem bd140 {L : SumL} (u c : Int) : buildA (EL L) 140 [(0, .i u), (1, .i c)] = some (.agg [.i u, .i c]) := by
  simp [buildA, zero140, und_eq, Tryz.underlying140, z3, fillA, AV.cells?, splice, Value.cells]
theorem ld140 {L : SumL} {σ : St} {o : Nat} {u c : Int} (h : σ.get o = some (.cells [.i u, .i c] 0 0)) : loadA (EL L) σ 140 (.ptr o 0 0 2) = some (.agg [.i u, .i c]) := load_agg (agg140 L) (z140 L) (by simp [rdCells, h])
theorem mk138 {L : SumL} {a : AFr} {o : Oper} (h : o.op = .makeMap 138 none) : allocA (EL L) a o = some (.map [] 0, fun n => .mp n) := by
  simp [allocA, h]
end Go.Proofs.YtfmbpdacdopkgaaGreatDoor

namespace Go.Proofs.YtfmbpdacdopkgaaGreatDoor
set_option maxRecDepth 100000
open Go Go.Ai
open Go.RowKit (Below)

noncomputable def in53 : Code := fAt Tryz.f53 [1, 1, 1, 0, 1, 0, 0]
structure In53 (l : List Lk) (x : AV) (b m : Nat) (σ0 : St) (i : Nat) (a : AFr) (σ : St) : Prop where
  n : a.n = 56
  d : a.df = []
  g3 : a.get 3 = .mp m
  g11 : a.get 11 = x
  g12 : a.get 12 = .i (l.length : Int)
  g13 : a.get 13 = .i (i : Int)
  ok : ∀ j, j < i → okI l j = true
  mp : MapOf (l.take i) m σ
  mn : m < σ.next
  kp : Keep b σ0 σ

set_option maxHeartbeats 1000000 in
theorem in53_step {K : Kont} {L : SumL} (h36 : sumOf L 36 = some S36) {N : Nat} {l : List Lk} {x : AV} {b m : Nat} {σ0 : St} (_hb : b ≤ σ0.next) (hm : b ≤ m) (hs : ∀ σ, Keep b σ0 σ → SlAt σ 6 x (lcs l)) (hl : l.length ≤ 400) {i : Nat} (hi : i < l.length) {a : AFr} {σ : St} (h : In53 l x b m σ0 i a σ) :
    (∃ a' σ', codeA K (EL L) N none in53 a σ = some (.normal, a', σ') ∧ In53 l x b m σ0 (i + 1) a' σ') ∨ ∃ a' σ', codeA K (EL L) N none in53 a σ = some (.ret, a', σ') ∧ Keep b σ0 σ' ∧ a'.df = [] ∧ a'.get 2 = .b false ∧ okI l i = false := by
  obtain ⟨hn, hd, g3, g11, g12, g13, ok, mp, mn, kp⟩ := h
  have hlt : (i : Int) < (l.length : Int) := by omega
  obtain ⟨q, hq, hr⟩ := (hs σ kp).at (E := EL L) (t := 34) (el := 74) Tryz.underlying34 (z74 L) (lcs_at hi) (k := .i64)
  have hld := load_agg (agg74 L) (z74 L) hr
  have hat := okI_at hi
  have htk : l.take (i + 1) = l.take i ++ [l[i]] := List.take_succ_eq_append_getElem hi
  generalize hz : l[i] = z at hld hat htk
  have e0 : ∃ a0, codeA K (EL L) N none (fAt Tryz.f53 [1, 1, 1, 0, 1, 0, 0, 0]) a σ = some (.normal, a0, σ) ∧ a0.n = 56 ∧ a0.df = [] ∧ a0.get 3 = .mp m ∧ a0.get 11 = x ∧ a0.get 12 = .i (l.length : Int) ∧ a0.get 13 = .i (i : Int) ∧ a0.get 14 = .b true := by
    simp only [fAt, cAt, Tryz.f53]
    simp [code_region, opsA, oneA, wantedA, opA, kindOf, readA, uponA, AFr.put, get_set, n_set, df_set, opd, cmp_lss, hn, hd, g3, g11, g12, g13, hlt]
  obtain ⟨a0, e0, n0, d0, a03, a011, a012, a013, a014⟩ := e0
  have e1 : codeA K (EL L) N none (fAt Tryz.f53 [1, 1, 1, 0, 1, 0, 0, 1, 0]) a0 σ = some (.normal, a0, σ) := by
    simp only [fAt, cAt, Tryz.f53]
    simp [code_skip, code_cond, opd, a014]
  have hst := st74 (L := L) (σ := σ.add (.cells lz 0 0)) (o := σ.next) z (St.get_add_same _ _)
  have kle := kp.le
  obtain ⟨a2, σ2, e2, n2, d2, a23, a211, a212, a213, a25, m2, x2, o2⟩ : ∃ a2 σ2, codeA K (EL L) N none (fAt Tryz.f53 [1, 1, 1, 0, 1, 0, 0, 1, 1, 0, 0, 0]) a0 σ = some (.normal, a2, σ2) ∧ a2.n = 56 ∧ a2.df = [] ∧ a2.get 3 = .mp m ∧ a2.get 11 = x ∧ a2.get 12 = .i (l.length : Int) ∧ a2.get 13 = .i (i : Int) ∧ a2.get 5 = .ptr σ.next 0 0 6 ∧
      σ2.get σ.next = some (.cells (lc z) 0 0) ∧ σ2.next = σ.next + 1 ∧ ∀ o, o < σ.next → σ2.get o = σ.get o := by
    have ko : ∀ o, o < σ.next → ((σ.add (.cells lz 0 0)).set σ.next (.cells (lc z) 0 0)).get o = σ.get o := fun o ho => by rw [get_sset, if_neg (by omega), get_sadd, if_neg (by omega)]
    simp only [fAt, cAt, Tryz.f53]
    simp [code_region, opsA, oneA, wantedA, opA, kindOf, readA, uponA, writeA, AFr.put, get_set, n_set, df_set, opd, ex2, n0, d0, a03, a011, a012, a013, hq, hld, al74, hst, next_set, next_add]
    exact ⟨by rw [get_sset, if_pos rfl], ko⟩
  obtain ⟨r0, r1, r2, r3, r4, -⟩ := rdL m2
  have m0 : loadA (EL L) σ2 3 (.ptr σ.next 0 0 1) = some (.i z.u) := load_one (agg3 L) r0
  have m1 : loadA (EL L) σ2 3 (.ptr σ.next 1 0 1) = some (.i z.c) := load_one (agg3 L) r1
  have k0 := fa74 (L := L) (o := σ.next) (i := 0) (g := 0) (e := 6) (k := 0) (by omega) (by omega)
  have k1 := fa74 (L := L) (o := σ.next) (i := 0) (g := 0) (e := 6) (k := 1) (by omega) (by omega)
  have k2 := fa74 (L := L) (o := σ.next) (i := 0) (g := 0) (e := 6) (k := 2) (by omega) (by omega)
  have k3 := fa74 (L := L) (o := σ.next) (i := 0) (g := 0) (e := 6) (k := 3) (by omega) (by omega)
  have k4 := fa74 (L := L) (o := σ.next) (i := 0) (g := 0) (e := 6) (k := 4) (by omega) (by omega)
  simp only [Nat.zero_add] at k0 k1 k2 k3 k4
  have hst3 := st140 (L := L) (σ := σ2.add (.cells [.i 0, .i 0] 0 0)) (o := σ2.next) (u := z.u) (c := z.c) (St.get_add_same _ _)
  obtain ⟨a3, σ3, e3, n3, d3, a33, a311, a312, a313, a35, a36, m3, m3', x3, o3⟩ : ∃ a3 σ3, codeA K (EL L) N none (fAt Tryz.f53 [1, 1, 1, 0, 1, 0, 0, 1, 1, 0, 0, 1, 0]) a2 σ2 = some (.normal, a3, σ3) ∧ a3.n = 56 ∧ a3.df = [] ∧ a3.get 3 = .mp m ∧ a3.get 11 = x ∧ a3.get 12 = .i (l.length : Int) ∧ a3.get 13 = .i (i : Int) ∧ a3.get 5 = .ptr σ.next 0 0 6 ∧ a3.get 6 = .ptr (σ.next + 1) 0 0 2 ∧
      σ3.get σ.next = some (.cells (lc z) 0 0) ∧ σ3.get (σ.next + 1) = some (.cells [.i z.u, .i z.c] 0 0) ∧ σ3.next = σ.next + 2 ∧ ∀ o, o < σ.next → σ3.get o = σ.get o := by
    have ko : ∀ o, o < σ.next → ((σ2.add (.cells [.i 0, .i 0] 0 0)).set σ2.next (.cells [.i z.u, .i z.c] 0 0)).get o = σ.get o := fun o ho => by rw [get_sset, if_neg (by omega), get_sadd, if_neg (by omega), o2 o ho]
    rw [x2] at hst3 ko
    simp only [fAt, cAt, Tryz.f53]
    simp [code_region, opsA, oneA, wantedA, opA, kindOf, readA, uponA, writeA, AFr.put, get_set, n_set, df_set, opd, ex2, n2, d2, a23, a211, a212, a213, a25, k0, k1, m0, m1, bd140, al140, hst3, x2, next_set, next_add]
    exact ⟨by rw [get_sset, if_neg (by omega), get_sadd, if_neg (by omega)]; exact m2, by rw [get_sset, if_pos rfl], ko⟩
  obtain ⟨r0, r1, r2, r3, r4, -⟩ := rdL m3
  have m0 : loadA (EL L) σ3 3 (.ptr σ.next 0 0 1) = some (.i z.u) := load_one (agg3 L) r0
  have m1 : loadA (EL L) σ3 3 (.ptr σ.next 1 0 1) = some (.i z.c) := load_one (agg3 L) r1
  have m2' : loadA (EL L) σ3 3 (.ptr σ.next 2 0 1) = some (.i z.k) := load_one (agg3 L) r2
  have m3'' : loadA (EL L) σ3 3 (.ptr σ.next 3 0 1) = some (.i z.a) := load_one (agg3 L) r3
  have m4 : loadA (EL L) σ3 3 (.ptr σ.next 4 0 1) = some (.i z.s) := load_one (agg3 L) r4
  have mk := ld140 (L := L) m3'
  have mp3 : MapOf (l.take i) m σ3 := mp.keep (o3 m mn)
  have hlook := look138 (L := L) z mp3
  have kp3 : Keep b σ0 σ3 := kp.trans (b := b) (c := b) ⟨by omega, fun o ho => o3 o (by omega)⟩ (Nat.le_refl _)
  have retc : (∃ a4, codeA K (EL L) N none (fAt Tryz.f53 [1, 1, 1, 0, 1, 0, 0, 1, 1, 0, 0, 1, 1, 0]) a3 σ3 = some (.ret, a4, σ3) ∧ a4.df = [] ∧ a4.get 2 = .b false) → okI l i = false → ∃ a' σ', codeA K (EL L) N none in53 a σ = some (.ret, a', σ') ∧ Keep b σ0 σ' ∧ a'.df = [] ∧ a'.get 2 = .b false ∧ okI l i = false := by
    rintro ⟨a4, e4, d4, g2⟩ ho
    exact ⟨a4, σ3, seq_n e0 (seq_n e1 (seq_ret (block_ret (seq_n e2 (seq_n e3 (seq_ret e4)))))), kp3, d4, g2, ho⟩
  cases hok : okL z with
  | false =>
    right
    have hc : z.u < 0 ∨ (¬ z.u < 0 ∧ z.c < 0) ∨ (¬ z.u < 0 ∧ ¬ z.c < 0 ∧ z.k < 1) ∨ (¬ z.u < 0 ∧ ¬ z.c < 0 ∧ ¬ z.k < 1 ∧ 3 < z.k) ∨ (¬ z.u < 0 ∧ ¬ z.c < 0 ∧ ¬ z.k < 1 ∧ ¬ 3 < z.k ∧ isP z.a z.s = false) := by
      by_cases c1 : z.u < 0
      · exact .inl c1
      by_cases c2 : z.c < 0
      · exact .inr (.inl ⟨c1, c2⟩)
      by_cases c3 : z.k < 1
      · exact .inr (.inr (.inl ⟨c1, c2, c3⟩))
      by_cases c4 : 3 < z.k
      · exact .inr (.inr (.inr (.inl ⟨c1, c2, c3, c4⟩)))
      · refine .inr (.inr (.inr (.inr ⟨c1, c2, c3, c4, ?_⟩)))
        simpa [okL, c1, c2, c3, c4] using hok
    refine retc ?_ (by rw [hat, hok]; rfl)
    simp only [fAt, cAt, Tryz.f53]
    rcases hc with c1 | ⟨c1, c2⟩ | ⟨c1, c2, c3⟩ | ⟨c1, c2, c3, c4⟩ | ⟨c1, c2, c3, c4, c5⟩ <;>
    simp [code_region, code_seq, code_cond, code_ret, opsA, oneA, wantedA, opA, kindOf, readA, uponA, writeA, AFr.put, get_set, n_set, df_set, opd, callee?, callA, cmp_lss, cmp_gtr, un_not, sum_eq, S36, *]
  | true =>
    have hc : ¬ z.u < 0 ∧ ¬ z.c < 0 ∧ ¬ z.k < 1 ∧ ¬ 3 < z.k ∧ isP z.a z.s = true := by
      simp [okL] at hok
      refine ⟨?_, ?_, ?_, ?_, hok.2⟩ <;> omega
    obtain ⟨c1, c2, c3, c4, c5⟩ := hc
    cases hany : (l.take i).any (same z) with
    | true =>
      right
      rw [hany] at hlook
      refine retc ?_ (by rw [hat, hok, hany]; rfl)
      simp only [fAt, cAt, Tryz.f53]
      simp [code_region, code_seq, code_cond, code_ret, opsA, oneA, wantedA, opA, kindOf, readA, uponA, writeA, AFr.put, get_set, n_set, df_set, opd, callee?, callA, cmp_lss, cmp_gtr, un_not, n3, d3, a33, a35, a36, k0, k1, k2, k3, k4, m0, m1, m2', m3'', m4, sum_eq, h36, S36, c1, c2, c3, c4, c5, mk, hlook]
    | false =>
      left
      rw [hany] at hlook
      obtain ⟨a4, e4, n4, d4, a43, a411, a412, a413, a46⟩ : ∃ a4, codeA K (EL L) N none (fAt Tryz.f53 [1, 1, 1, 0, 1, 0, 0, 1, 1, 0, 0, 1, 1, 0]) a3 σ3 = some (.normal, a4, σ3) ∧ a4.n = 56 ∧ a4.df = [] ∧ a4.get 3 = .mp m ∧ a4.get 11 = x ∧ a4.get 12 = .i (l.length : Int) ∧ a4.get 13 = .i (i : Int) ∧ a4.get 6 = .ptr (σ.next + 1) 0 0 2 := by
        simp only [fAt, cAt, Tryz.f53]
        simp [code_skip, code_region, code_seq, code_cond, opsA, oneA, wantedA, opA, kindOf, readA, uponA, writeA, AFr.put, get_set, n_set, df_set, opd, callee?, callA, cmp_lss, cmp_gtr, un_not, n3, d3, a33, a35, a36, a311, a312, a313, k0, k1, k2, k3, k4, m0, m1, m2', m3'', m4, sum_eq, h36, S36, c1, c2, c3, c4, c5, mk, hlook]
      obtain ⟨y, hu, hmap⟩ := upd138 (L := L) z mp3 hany
      rw [← htk] at hmap
      obtain ⟨a5, e5, n5, d5, a53, a511, a512, a513⟩ : ∃ a5, codeA K (EL L) N none (fAt Tryz.f53 [1, 1, 1, 0, 1, 0, 0, 1, 1, 0, 0, 1, 1, 1]) a4 σ3 = some (.normal, a5, σ3.set m y) ∧ a5.n = 56 ∧ a5.df = [] ∧ a5.get 3 = .mp m ∧ a5.get 11 = x ∧ a5.get 12 = .i (l.length : Int) ∧ a5.get 13 = .i (i : Int) := by
        simp only [fAt, cAt, Tryz.f53]
        simp [code_region, opsA, oneA, wantedA, opA, kindOf, readA, uponA, writeA, AFr.put, get_set, n_set, df_set, opd, n4, d4, a43, a411, a412, a413, a46, mk, hu]
      have hw := wrap_nat (n := i) (by omega)
      obtain ⟨a6, e6, i6⟩ : ∃ a6, codeA K (EL L) N none (fAt Tryz.f53 [1, 1, 1, 0, 1, 0, 0, 1, 1, 1]) a5 (σ3.set m y) = some (.normal, a6, σ3.set m y) ∧ In53 l x b m σ0 (i + 1) a6 (σ3.set m y) := by
        simp only [fAt, cAt, Tryz.f53]
        simp [code_region, opsA, oneA, wantedA, opA, kindOf, readA, uponA, AFr.put, get_set, n_set, opd, ar_add, n5, a513, hw]
        refine ⟨by simp [n_set, n5], by simp [df_set, d5], by simp [get_set, a53], by simp [get_set, a511], by simp [get_set, a512], by simp [get_set], ?_, hmap, by rw [next_set]; omega, kp3.trans (Keep.set (b := b) _ hm) (Nat.le_refl _)⟩
        intro j hj
        rcases Nat.lt_or_ge j i with h | h
        · exact ok j h
        · rw [show j = i by omega, hat, hok, hany]; rfl
      exact ⟨a6, _, seq_n e0 (seq_n e1 (seq_n (block_n (seq_n e2 (seq_n e3 (seq_n e4 e5)))) e6)), i6⟩

/-- image.formed. -/
theorem call53 {n : Nat} {L : SumL} (h36 : sumOf L 36 = some S36) {N : Nat} (hN : 400 < N) {l : List Lk} {x : AV} {σ0 : St} (hs : ∀ σ, Keep σ0.next σ0 σ → SlAt σ 6 x (lcs l)) :
    ∃ σ', (evalK (EL L) N (n + 1)).call 53 [x] σ0 = some (.ret (.b (linked l)), σ') ∧ Keep σ0.next σ0 σ' := by
  have hfn : (EL L).fn 53 = some Tryz.f53 := fnL Tryz.func53 rfl
  have hn : (frame0 Tryz.f53 [x]).n = 56 := rfl
  have g0 : (frame0 Tryz.f53 [x]).get 0 = x := rfl
  have hd : (frame0 Tryz.f53 [x]).df = [] := rfl
  generalize hfr : frame0 Tryz.f53 [x] = a at hn g0 hd
  have hlen := (hs σ0 (Keep.refl _ _)).len (E := EL L) (t := 34) (el := 74) Tryz.underlying34
  rw [lcs_len] at hlen
  have e0 : codeA (evalK (EL L) N n) (EL L) N none (fAt Tryz.f53 [0]) a σ0 = some (.normal, a.set 2 (.b false), σ0) := by
    simp only [fAt, cAt, Tryz.f53]
    simp [code_region, opsA, oneA, wantedA, opA, kindOf, readA, uponA, AFr.put, opd, hn]
  by_cases hl : l.length ≤ 400
  · have hg : ¬ (400 < (l.length : Int)) := by omega
    obtain ⟨a1, e1, n1, d1, a10⟩ : ∃ a1, codeA (evalK (EL L) N n) (EL L) N none (fAt Tryz.f53 [1, 0]) (a.set 2 (.b false)) σ0 = some (.normal, a1, σ0) ∧ a1.n = 56 ∧ a1.df = [] ∧ a1.get 0 = x := by
      simp only [fAt, cAt, Tryz.f53]
      simp [code_skip, code_region, code_seq, code_cond, opsA, oneA, wantedA, opA, kindOf, readA, uponA, AFr.put, get_set, n_set, df_set, opd, cmp_gtr, hn, hd, g0, hlen, hg]
    obtain ⟨a2, e2, n2, d2, a20, a23⟩ : ∃ a2, codeA (evalK (EL L) N n) (EL L) N none (fAt Tryz.f53 [1, 1, 0]) a1 σ0 = some (.normal, a2, σ0.add (.map [] 0)) ∧ a2.n = 56 ∧ a2.df = [] ∧ a2.get 0 = x ∧ a2.get 3 = .mp σ0.next := by
      simp only [fAt, cAt, Tryz.f53]
      simp [code_region, opsA, oneA, wantedA, opA, kindOf, readA, uponA, AFr.put, get_set, n_set, df_set, opd, n1, d1, a10, mk138]
    have k2 : Keep σ0.next σ0 (σ0.add (.map [] 0)) := Keep.add _ (Nat.le_refl _)
    have hlen2 := (hs _ k2).len (E := EL L) (t := 34) (el := 74) Tryz.underlying34
    rw [lcs_len] at hlen2
    obtain ⟨a3, e3, i3⟩ : ∃ a3, codeA (evalK (EL L) N n) (EL L) N none (fAt Tryz.f53 [1, 1, 1, 0, 0]) a2 (σ0.add (.map [] 0)) = some (.normal, a3, σ0.add (.map [] 0)) ∧ In53 l x σ0.next σ0.next σ0 0 a3 (σ0.add (.map [] 0)) := by
      simp only [fAt, cAt, Tryz.f53]
      simp [code_region, opsA, oneA, wantedA, opA, kindOf, readA, uponA, AFr.put, get_set, n_set, opd, n2, a20, hlen2]
      exact ⟨by simp [n_set, n2], by simp [df_set, d2], by simp [get_set, a23], by simp [get_set], by simp [get_set], by simp [get_set], (fun j h => absurd h (by omega)), ⟨[], 0, St.get_add_same _ _, rfl, rfl⟩, by rw [next_add]; omega, k2⟩
    have hlp := loop_inv (K := evalK (EL L) N n) (E := EL L) (N := N) (c := in53) 0 (In53 l x σ0.next σ0.next σ0) (fun a' σ' => Keep σ0.next σ0 σ' ∧ a'.n = 56 ∧ a'.df = [] ∧ linked l = true) (fun a' σ' => Keep σ0.next σ0 σ' ∧ a'.df = [] ∧ a'.get 2 = .b false ∧ linked l = false) l.length
      (fun k a σ hk hI => by
        rcases in53_step h36 (Nat.le_refl _) (Nat.le_refl _) hs hl hk hI with h | ⟨a', σ', h, k1, k2, k3, k4⟩
        · exact .inl h
        · exact .inr ⟨a', σ', h, k1, k2, k3, not_linked hk k4⟩)
      (fun a σ hI => by
        obtain ⟨hn, hd, g3, g11, g12, g13, ok, mp, mn, kp⟩ := hI
        have := linked_of hl ok
        simp only [in53, fAt, cAt, Tryz.f53]
        simp [code_region, code_seq, code_cond, code_exit, opsA, oneA, wantedA, opA, kindOf, readA, uponA, AFr.put, get_set, n_set, df_set, opd, cmp_lss, ex2, hn, hd, g12, g13]
        exact ⟨kp, this⟩) (by omega) i3
    rcases hlp with ⟨a4, σ4, e4, kp, n4, d4, hok⟩ | ⟨a4, σ4, e4, kp, d4, k4, hnot⟩
    · have e5 : codeA (evalK (EL L) N n) (EL L) N none (fAt Tryz.f53 [1, 1, 1, 1]) a4 σ4 = some (.ret, a4.set 2 (.b true), σ4) := by
        simp only [fAt, cAt, Tryz.f53]
        simp [code_region, code_seq, code_ret, opsA, oneA, wantedA, opA, kindOf, readA, uponA, AFr.put, opd, n4]
      exact ⟨σ4, call_ret (x := .b (linked l)) hfn (show Tryz.f53.body = some (fAt Tryz.f53 []) from rfl) (by rw [hfr]; exact seq_n e0 (seq_n e1 (seq_n e2 (seq_n (seq_n e3 e4) e5)))) (by rw [df_set]; exact d4) (by simp [resultA, resultsA, Tryz.f53, get_set, hok]), kp⟩
    · exact ⟨σ4, call_ret (x := .b (linked l)) hfn (show Tryz.f53.body = some (fAt Tryz.f53 []) from rfl) (by rw [hfr]; exact seq_n e0 (seq_n e1 (seq_n e2 (seq_ret (seq_n e3 e4))))) d4 (by simp [resultA, resultsA, Tryz.f53, k4, hnot]), kp⟩
  · have hg : 400 < (l.length : Int) := by omega
    have hbig := linked_big hl
    obtain ⟨a1, e1, d1, g2⟩ : ∃ a1, codeA (evalK (EL L) N n) (EL L) N none (fAt Tryz.f53 [1, 0]) (a.set 2 (.b false)) σ0 = some (.ret, a1, σ0) ∧ a1.df = [] ∧ a1.get 2 = .b false := by
      simp only [fAt, cAt, Tryz.f53]
      simp [code_region, code_seq, code_cond, code_ret, opsA, oneA, wantedA, opA, kindOf, readA, uponA, AFr.put, get_set, n_set, df_set, opd, cmp_gtr, hn, hd, g0, hlen, hg]
    exact ⟨σ0, call_ret (x := .b (linked l)) hfn (show Tryz.f53.body = some (fAt Tryz.f53 []) from rfl) (by rw [hfr]; exact seq_n e0 (seq_ret e1)) d1 (by simp [resultA, resultsA, Tryz.f53, g2, hbig]), Keep.refl _ _⟩
end Go.Proofs.YtfmbpdacdopkgaaGreatDoor
