/- image.Out. Conditions: none. -/
import Derived.Test.YtfmbpdacdopkgaaGreatDoorImgS0
namespace Go.Proofs.YtfmbpdacdopkgaaGreatDoor
set_option maxRecDepth 100000
open Go Go.Ai
open Go.RowKit (Below)

def outStep (c : List Int) (cs : List Int) (x : Lk) : List Int := if x.o then cs.set ((x.a.toNat - 1) * 64 + x.s.toNat) (c.getD x.c.toNat 0) else cs
def outAll (c : List Int) (l : List Lk) (cs : List Int) : List Int := l.foldl (outStep c) cs
theorem outAll_len (c : List Int) : ∀ (l : List Lk) (cs : List Int), (outAll c l cs).length = cs.length
  | [], _ => rfl
  | x :: l, cs => by
    show (outAll c l (outStep c cs x)).length = _
    rw [outAll_len c l]
    unfold outStep
    split <;> simp
theorem outAll_take {c : List Int} {l : List Lk} {cs : List Int} {k : Nat} (hk : k < l.length) : outAll c (l.take (k + 1)) cs = outStep c (outAll c (l.take k) cs) l[k] := by
  rw [List.take_succ_eq_append_getElem hk]
  simp only [outAll, List.foldl_append, List.foldl_cons, List.foldl_nil]

noncomputable def in15 : Code := fAt Tryz.f15 [1, 1, 1, 1, 1, 0, 1, 0, 0]
structure In15 (cs : List Int) (ml : List Lk) (c : List Int) (z w : AV) (v r b : Nat) (σ0 : St) (k : Nat) (a : AFr) (σ : St) : Prop where
  n : a.n = 58
  d : a.df = []
  g2 : a.get 2 = w
  g8 : a.get 8 = .ptr r 0 0 192
  g12 : a.get 12 = .ptr v 0 0 192
  g35 : a.get 35 = z
  g36 : a.get 36 = .i (ml.length : Int)
  g37 : a.get 37 = .i (k : Int)
  mv : σ.get v = some (.cells (ints (outAll c (ml.take k) cs)) 0 0)
  vn : v < σ.next
  kp : Keep b σ0 σ

set_option maxHeartbeats 1000000 in
theorem in15_step {n : Nat} {L : SumL} (h44 : sumOf L 44 = none) {N : Nat} {cs : List Int} (hcs : cs.length = 192) {ml : List Lk} {c : List Int} {z w : AV} {v r b : Nat} {σ0 : St} (hb : b ≤ σ0.next) (hbv : b ≤ v) (hs : ∀ σ, Keep b σ0 σ → SlAt σ 6 z (lcs ml)) (hw0 : ∀ σ, Keep b σ0 σ → SlAt σ 1 w (ones c)) (hl : ml.length ≤ 400) {k : Nat} (hk : k < ml.length)
    (hp0 : isP ml[k].a ml[k].s = true) (hc0 : 0 ≤ ml[k].c) (hc1 : ml[k].c < c.length) {a : AFr} {σ : St} (h : In15 cs ml c z w v r b σ0 k a σ) :
    ∃ a' σ', codeA (evalK (EL L) N (n + 1)) (EL L) N none in15 a σ = some (.normal, a', σ') ∧ In15 cs ml c z w v r b σ0 (k + 1) a' σ' := by
  obtain ⟨hn, hd, g2, g8, g12, g35, g36, g37, mv, vn, kp⟩ := h
  have hlt : (k : Int) < (ml.length : Int) := by omega
  obtain ⟨p, hp, hr⟩ := (hs σ kp).at (E := EL L) (t := 34) (el := 74) Tryz.underlying34 (z74 L) (lcs_at hk) (k := .i64)
  have hld := load_agg (agg74 L) (z74 L) hr
  have hw := wrap_nat (n := k) (by omega)
  have hst' := outAll_take (cs := cs) (c := c) hk
  have hlenk := outAll_len c (ml.take k) cs
  generalize hcur : outAll c (ml.take k) cs = cur at mv hst' hlenk
  generalize hz : ml[k] = x at hld hst' hp0 hc0 hc1
  have kle := kp.le
  obtain ⟨τ, -, hst, nτ, oτ, gp, m0, m1, m2, m3, m4, m5, ma⟩ := lay74 (L := L) (σ := σ) x
  obtain ⟨k0, k1, k2, k3, k4, k5⟩ := fa74s (L := L) (o := σ.next)
  have kτ : Keep b σ0 τ := keep_nx kp (by omega) (by omega) oτ
  have mvτ : τ.get v = some (.cells (ints cur) 0 0) := (oτ v vn).trans mv
  cases ho : x.o with
  | false =>
    rw [ho] at hst hld m5
    have hst'' : outAll c (ml.take (k + 1)) cs = cur := by rw [hst']; simp [outStep, ho]
    simp only [in15, fAt, cAt, Tryz.f15]
    simp [code_skip, code_region, code_seq, code_cond, code_block, opsA, oneA, wantedA, opA, kindOf, readA, uponA, writeA, AFr.put, get_set, n_set, opd, cmp_lss, ar_add, ex2, hn, g35, g36, g37, hlt, hp, hld, al74, hst, k5, m5, hw]
    exact ⟨by simp [n_set, hn], by simp [df_set, hd], by simp [get_set, g2], by simp [get_set, g8], by simp [get_set, g12], by simp [get_set, g35], by simp [get_set, g36], by simp [get_set], by rw [hst'']; exact mvτ, by omega, kτ⟩
  | true =>
    rw [ho] at hst hld m5
    have hst'' : outAll c (ml.take (k + 1)) cs = cur.set ((x.a.toNat - 1) * 64 + x.s.toNat) (c.getD x.c.toNat 0) := by rw [hst']; simp [outStep, ho]
    have hP := isP_true hp0
    have ec : x.c = (x.c.toNat : Int) := by omega
    have ea : x.a = (x.a.toNat : Int) := by omega
    have es : x.s = (x.s.toNat : Int) := by omega
    have hjc : x.c.toNat < c.length := by omega
    obtain ⟨q, hq, hrq⟩ := (hw0 τ kτ).at (E := EL L) (t := 38) (el := 3) Tryz.underlying38 (z3 L) (ones_at hjc) (k := .i64)
    have hlq := load_one (agg3 L) hrq
    rw [getD_lt hjc] at hst''
    generalize c[x.c.toNat] = w0 at hlq hst''
    have hw3 := st3 (L := L) (σ := τ) (o := v) (j := (x.a.toNat - 1) * 64 + x.s.toNat) (v := w0) mvτ (by omega)
    have hc44 : (evalK (EL L) N (n + 1)).call 44 [.ptr v 0 0 192, .i (x.a.toNat : Int)] τ = some (.ret (.ptr v ((x.a.toNat - 1) * 64) 0 64), τ) := area44 (by omega) (by omega)
    have hi := ix35 (L := L) (o := v) (b := (x.a.toNat - 1) * 64) (g := 0) (s := x.s.toNat) (by omega)
    rw [ec] at m1
    rw [ea] at m3
    rw [es] at m4
    generalize x.a.toNat = ar at m3 hc44 hi hw3 hst''
    generalize x.s.toNat = sl at m4 hi hw3 hst''
    generalize hj : x.c.toNat = j at m1 hq
    simp only [in15, fAt, cAt, Tryz.f15]
    simp [code_skip, code_region, code_draw, code_seq, code_cond, code_block, opsA, oneA, wantedA, opA, kindOf, readA, uponA, writeA, AFr.put, get_set, n_set, df_set, opd, callee?, callA, cmp_lss, ar_add, ex2, regionA, dops, dopsGo, befOf, Region.binds, drawOk, nodupB, hasDefer, eager, drawA, dim, unord, sameIn, chk, beq_self, Nat.testBit, next_set, hn, hd, g2, g12, g35, g36, g37, hlt, hp, hld, al74, hst, k1, k3, k4, k5, m1, m3, m4, m5, sum_eq, h44, fn44, hc44, hi, hq, hlq, hw3, hw]
    exact ⟨by simp [n_set, hn], by simp [df_set, hd], by simp [get_set, g2], by simp [get_set, g8], by simp [get_set, g12], by simp [get_set, g35], by simp [get_set, g36], by simp [get_set], by rw [get_sset, if_pos rfl, hst''], by rw [next_set]; omega, kτ.trans (Keep.set (b := b) _ hbv) (Nat.le_refl _)⟩

def outR (l : List Lk) (cs c : List Int) (u : Int) : List Int := if goodT l cs c && thereT l u c.length then outAll c (mine u l) cs else zimg
theorem outR_len {cs : List Int} (hcs : cs.length = 192) (l : List Lk) (c : List Int) (u : Int) : (outR l cs c u).length = 192 := by
  unfold outR; split
  · rw [outAll_len, hcs]
  · exact zimg_len

set_option maxHeartbeats 1000000 in
/-- image.Out. -/
theorem call15 {n : Nat} {L : SumL} (h36 : sumOf L 36 = some S36) (h28 : sumOf L 28 = some S28) (h63 : sumOf L 63 = some SNV) (h53 : sumOf L 53 = none) (h62 : sumOf L 62 = none) (h77 : sumOf L 77 = none) (h41 : sumOf L 41 = none) (h42 : sumOf L 42 = none) (h44 : sumOf L 44 = none) {N : Nat} (hN : 400 < N)
    {cs : List Int} (hcs : cs.length = 192) {l : List Lk} {c : List Int} {x w : AV} (u : Int) {σ0 : St} (hs : ∀ σ, Keep σ0.next σ0 σ → SlAt σ 6 x (lcs l)) (hy : ∀ σ, Keep σ0.next σ0 σ → SlAt σ 1 w (ones c)) :
    ∃ σ', (evalK (EL L) N (n + 4)).call 15 [x, .i u, w, .agg (ints cs)] σ0 = some (.ret (.tup [.agg (ints (outR l cs c u)), .i (inE l cs c u)]), σ') ∧ Keep σ0.next σ0 σ' := by
  have hfn : (EL L).fn 15 = some Tryz.f15 := fnL Tryz.func15 rfl
  have f41 : (EL L).fn 41 = some Tryz.f41 := fnL Tryz.func41 rfl
  have f42 : (EL L).fn 42 = some Tryz.f42 := fnL Tryz.func42 rfl
  have hn : (frame0 Tryz.f15 [x, .i u, w, .agg (ints cs)]).n = 58 := rfl
  have g0 : (frame0 Tryz.f15 [x, .i u, w, .agg (ints cs)]).get 0 = x := rfl
  have g1 : (frame0 Tryz.f15 [x, .i u, w, .agg (ints cs)]).get 1 = .i u := rfl
  have g2 : (frame0 Tryz.f15 [x, .i u, w, .agg (ints cs)]).get 2 = w := rfl
  have g3 : (frame0 Tryz.f15 [x, .i u, w, .agg (ints cs)]).get 3 = .agg (ints cs) := rfl
  have hd : (frame0 Tryz.f15 [x, .i u, w, .agg (ints cs)]).df = [] := rfl
  generalize hfr : frame0 Tryz.f15 [x, .i u, w, .agg (ints cs)] = a at hn g0 g1 g2 g3 hd
  have hbx := box37 (L := L) 3 cs hcs
  have gA0 : ((σ0.add (.cells (ints cs) 0 0)).add (.cells (ints zimg) 0 0)).get σ0.next = some (.cells (ints cs) 0 0) := by
    rw [get_sadd, if_neg (by rw [next_add]; omega), get_sadd, if_pos rfl]
  have gA1 : ((σ0.add (.cells (ints cs) 0 0)).add (.cells (ints zimg) 0 0)).get (σ0.next + 1) = some (.cells (ints zimg) 0 0) := by
    rw [get_sadd, if_pos (by rw [next_add])]
  have kA : Keep σ0.next σ0 ((σ0.add (.cells (ints cs) 0 0)).add (.cells (ints zimg) 0 0)) := (Keep.add _ (Nat.le_refl _)).trans (Keep.add (b := σ0.next) _ (by rw [next_add]; omega)) (Nat.le_refl _)
  have nA : ((σ0.add (.cells (ints cs) 0 0)).add (.cells (ints zimg) 0 0)).next = σ0.next + 2 := by rw [next_add, next_add]
  obtain ⟨a1, e1, n1, d1, b0, b1, b2, b7, b8⟩ : ∃ a1, codeA (evalK (EL L) N (n + 3)) (EL L) N none (fAt Tryz.f15 [0]) a σ0 = some (.normal, a1, (σ0.add (.cells (ints cs) 0 0)).add (.cells (ints zimg) 0 0)) ∧ a1.n = 58 ∧ a1.df = [] ∧ a1.get 0 = x ∧ a1.get 1 = .i u ∧ a1.get 2 = w ∧ a1.get 7 = .ptr σ0.next 0 0 192 ∧ a1.get 8 = .ptr (σ0.next + 1) 0 0 192 := by
    simp only [fAt, cAt, Tryz.f15]
    simp [code_region, opsA, oneA, wantedA, opA, kindOf, readA, uponA, AFr.put, get_set, n_set, df_set, opd, next_add, hn, hd, g0, g1, g2, g3, hbx, al37]
  generalize (σ0.add (.cells (ints cs) 0 0)).add (.cells (ints zimg) 0 0) = σA at e1 kA gA0 gA1 nA
  obtain ⟨σB, c41, kB⟩ := call41 (n := n) (L := L) h36 h28 h63 h53 h62 h77 hN hcs (σ0 := σA) (fun τ hk => hs τ (kA.trans hk (by omega))) (fun τ hk => hy τ (kA.trans hk (by omega)))
  have kAB : Keep σ0.next σ0 σB := kA.trans kB (by omega)
  have leB := kB.le
  have gB0 : σB.get σ0.next = some (.cells (ints cs) 0 0) := (kB.same _ (by omega)).trans gA0
  have gB1 : σB.get (σ0.next + 1) = some (.cells (ints zimg) 0 0) := (kB.same _ (by omega)).trans gA1
  have lA := ld37 (L := L) gA0 hcs
  obtain ⟨a2, e2, n2, d2, p0, p1, p2, p7, p8, p19⟩ : ∃ a2, codeA (evalK (EL L) N (n + 3)) (EL L) N none (fAt Tryz.f15 [1, 0, 0]) a1 σA = some (.normal, a2, σB) ∧ a2.n = 58 ∧ a2.df = [] ∧ a2.get 0 = x ∧ a2.get 1 = .i u ∧ a2.get 2 = w ∧ a2.get 7 = .ptr σ0.next 0 0 192 ∧ a2.get 8 = .ptr (σ0.next + 1) 0 0 192 ∧ a2.get 19 = .b (!goodT l cs c) := by
    simp only [fAt, cAt, Tryz.f15]
    simp [code_region, opsA, oneA, wantedA, opA, kindOf, readA, uponA, writeA, AFr.put, get_set, n_set, df_set, opd, callee?, callA, un_not, n1, d1, b0, b1, b2, b7, b8, lA, sum_eq, h41, f41, c41]
  cases hg : goodT l cs c with
  | false =>
    rw [hg] at p19
    have hst := st37 (L := L) (σ := σB) (o := σ0.next + 1) (cs := zimg) gB1 rep_len zimg_len
    obtain ⟨a3, e3, d3, k8, k9⟩ : ∃ a3, codeA (evalK (EL L) N (n + 3)) (EL L) N none (fAt Tryz.f15 [1, 0, 1]) a2 σB = some (.ret, a3, σB.set (σ0.next + 1) (.cells (ints zimg) 0 0)) ∧ a3.df = [] ∧ a3.get 8 = .ptr (σ0.next + 1) 0 0 192 ∧ a3.get 9 = .i 2 := by
      simp only [fAt, cAt, Tryz.f15]
      simp [code_region, code_seq, code_cond, code_ret, opsA, oneA, wantedA, opA, kindOf, readA, uponA, writeA, AFr.put, get_set, n_set, df_set, opd, n2, d2, p8, p19, bd37z, hst]
    have hl' := ld37 (L := L) (σ := σB.set (σ0.next + 1) (.cells (ints zimg) 0 0)) (o := σ0.next + 1) (by rw [get_sset, if_pos rfl]) zimg_len
    exact ⟨_, call_ret hfn (show Tryz.f15.body = some (fAt Tryz.f15 []) from rfl) (by rw [hfr]; exact seq_n e1 (seq_ret (seq_n e2 e3))) d3 (by simp [resultA, resultsA, Tryz.f15, k8, k9, hl', inE, outR, hg]), kAB.trans (Keep.set (b := σ0.next) _ (by omega)) (Nat.le_refl _)⟩
  | true =>
    rw [hg] at p19
    obtain ⟨hlk, hv, hcl, hcv⟩ := good_parts hg
    obtain ⟨hl4, _⟩ := linked_iff hlk
    have e3 : codeA (evalK (EL L) N (n + 3)) (EL L) N none (fAt Tryz.f15 [1, 0, 1]) a2 σB = some (.normal, a2, σB) := by
      simp only [fAt, cAt, Tryz.f15]
      simp [code_skip, code_cond, opd, p19]
    have hlen := (hy σB kAB).len (E := EL L) (t := 38) (el := 3) Tryz.underlying38
    rw [ones_len] at hlen
    obtain ⟨z, σC, c42, hgz, kC⟩ := call42 (n := n + 2) (L := L) (N := N) hN hl4 u c.length (σ0 := σB) (fun τ hk => hs τ (kAB.trans hk (by omega)))
    have leC := kC.le
    have kAC : Keep σ0.next σ0 σC := kAB.trans kC (by omega)
    have gC0 : σC.get σ0.next = some (.cells (ints cs) 0 0) := (kC.same _ (by omega)).trans gB0
    have gC1 : σC.get (σ0.next + 1) = some (.cells (ints zimg) 0 0) := (kC.same _ (by omega)).trans gB1
    obtain ⟨a4, e4, n4, d4, q2, q7, q8, q10, q11⟩ : ∃ a4, codeA (evalK (EL L) N (n + 3)) (EL L) N none (fAt Tryz.f15 [1, 1, 0]) a2 σB = some (.normal, a4, σC) ∧ a4.n = 58 ∧ a4.df = [] ∧ a4.get 2 = w ∧ a4.get 7 = .ptr σ0.next 0 0 192 ∧ a4.get 8 = .ptr (σ0.next + 1) 0 0 192 ∧ a4.get 10 = z ∧ a4.get 11 = .i (if thereT l u c.length then 0 else 6) := by
      generalize (if thereT l u c.length then (0 : Int) else 6) = ee at c42
      simp only [fAt, cAt, Tryz.f15]
      simp [code_region, opsA, oneA, wantedA, opA, kindOf, readA, uponA, writeA, AFr.put, get_set, n_set, df_set, opd, callee?, callA, n2, d2, p0, p1, p2, p7, p8, hlen, sum_eq, h42, f42, c42]
    cases ht : thereT l u c.length with
    | false =>
      rw [ht] at q11
      simp at q11
      have hst := st37 (L := L) (σ := σC) (o := σ0.next + 1) (cs := zimg) gC1 rep_len zimg_len
      obtain ⟨a5, e5, d5, k8, k9⟩ : ∃ a5, codeA (evalK (EL L) N (n + 3)) (EL L) N none (fAt Tryz.f15 [1, 1, 1, 0]) a4 σC = some (.ret, a5, σC.set (σ0.next + 1) (.cells (ints zimg) 0 0)) ∧ a5.df = [] ∧ a5.get 8 = .ptr (σ0.next + 1) 0 0 192 ∧ a5.get 9 = .i 6 := by
        simp only [fAt, cAt, Tryz.f15]
        simp [code_region, code_seq, code_cond, code_ret, opsA, oneA, wantedA, opA, kindOf, readA, uponA, writeA, AFr.put, get_set, n_set, df_set, opd, ne_int, n4, d4, q8, q11, bd37z, hst]
      have hl' := ld37 (L := L) (σ := σC.set (σ0.next + 1) (.cells (ints zimg) 0 0)) (o := σ0.next + 1) (by rw [get_sset, if_pos rfl]) zimg_len
      exact ⟨_, call_ret hfn (show Tryz.f15.body = some (fAt Tryz.f15 []) from rfl) (by rw [hfr]; exact seq_n e1 (seq_n (seq_n e2 e3) (seq_n e4 (seq_ret e5)))) d5 (by simp [resultA, resultsA, Tryz.f15, k8, k9, hl', inE, outR, hg, ht]), kAC.trans (Keep.set (b := σ0.next) _ (by omega)) (Nat.le_refl _)⟩
    | true =>
      rw [ht] at q11 hgz
      simp at q11 hgz
      obtain ⟨a5, e5, n5, d5, r2, r7, r8, r10⟩ : ∃ a5, codeA (evalK (EL L) N (n + 3)) (EL L) N none (fAt Tryz.f15 [1, 1, 1, 0]) a4 σC = some (.normal, a5, σC) ∧ a5.n = 58 ∧ a5.df = [] ∧ a5.get 2 = w ∧ a5.get 7 = .ptr σ0.next 0 0 192 ∧ a5.get 8 = .ptr (σ0.next + 1) 0 0 192 ∧ a5.get 10 = z := by
        simp only [fAt, cAt, Tryz.f15]
        simp [code_skip, code_region, code_seq, code_cond, opsA, oneA, wantedA, opA, kindOf, readA, uponA, AFr.put, get_set, n_set, df_set, opd, ne_int, n4, d4, q2, q7, q8, q10, q11]
      have lC := ld37 (L := L) gC0 hcs
      have hst := st96 (L := L) (σ := σC.add (.cells (ints zimg) 0 0)) (o := σC.next) (cs := cs) (St.get_add_same _ _) rep_len hcs
      obtain ⟨a6, σE, e6, n6, d6, s2, s8, s10, s12, hσE⟩ : ∃ a6 σE, codeA (evalK (EL L) N (n + 3)) (EL L) N none (fAt Tryz.f15 [1, 1, 1, 1, 0]) a5 σC = some (.normal, a6, σE) ∧ a6.n = 58 ∧ a6.df = [] ∧ a6.get 2 = w ∧ a6.get 8 = .ptr (σ0.next + 1) 0 0 192 ∧ a6.get 10 = z ∧ a6.get 12 = .ptr σC.next 0 0 192 ∧ σE = (σC.add (.cells (ints zimg) 0 0)).set σC.next (.cells (ints cs) 0 0) := by
        simp only [fAt, cAt, Tryz.f15]
        simp [code_region, opsA, oneA, wantedA, opA, kindOf, readA, uponA, writeA, AFr.put, get_set, n_set, df_set, opd, ex2, n5, d5, r2, r7, r8, r10, lC, bd96 hcs, al96, hst]
      have nE : σE.next = σC.next + 1 := by rw [hσE, next_set, next_add]
      have oE : ∀ o, o < σC.next → σE.get o = σC.get o := fun o ho => by rw [hσE, get_sset, if_neg (by omega), get_sadd, if_neg (by omega)]
      have kCE : Keep σC.next σC σE := ⟨by omega, oE⟩
      have hz : ∀ τ, Keep σC.next σC τ → SlAt τ 6 z (lcs (mine u l)) := fun τ hk => (hgz.keep hk.le fun o _ h => hk.same o h).slAt
      have hwC : ∀ τ, Keep σC.next σC τ → SlAt τ 1 w (ones c) := fun τ hk => hy τ (kAC.trans hk (by omega))
      have hlz := (hz σE kCE).len (E := EL L) (t := 34) (el := 74) Tryz.underlying34
      rw [lcs_len] at hlz
      have hml : (mine u l).length ≤ 400 := Nat.le_trans (List.length_filter_le ..) hl4
      obtain ⟨a8, e8, i8⟩ : ∃ a8, codeA (evalK (EL L) N (n + 3)) (EL L) N none (fAt Tryz.f15 [1, 1, 1, 1, 1, 0, 0]) a6 σE = some (.normal, a8, σE) ∧ In15 cs (mine u l) c z w σC.next (σ0.next + 1) σC.next σC 0 a8 σE := by
        simp only [fAt, cAt, Tryz.f15]
        simp [code_region, opsA, oneA, wantedA, opA, kindOf, readA, uponA, AFr.put, get_set, n_set, opd, n6, s10, hlz]
        exact ⟨by simp [n_set, n6], by simp [df_set, d6], by simp [get_set, s2], by simp [get_set, s8], by simp [get_set, s12], by simp [get_set], by simp [get_set], by simp [get_set], by rw [hσE, get_sset, if_pos rfl]; rfl, by omega, kCE⟩
      obtain ⟨a9, σF, e9, n9, d9, v8, v12, mvF, kF⟩ := loop_all (K := evalK (EL L) N (n + 3)) (E := EL L) (N := N) (c := in15) 0 (In15 cs (mine u l) c z w σC.next (σ0.next + 1) σC.next σC) (fun a σ => a.n = 58 ∧ a.df = [] ∧ a.get 8 = .ptr (σ0.next + 1) 0 0 192 ∧ a.get 12 = .ptr σC.next 0 0 192 ∧ σ.get σC.next = some (.cells (ints (outAll c (mine u l) cs)) 0 0) ∧ Keep σC.next σC σ) (mine u l).length
        (fun k a σ hk hI => by
          obtain ⟨h1, h2, h3⟩ := mine_ok hlk ht (List.getElem_mem hk)
          exact in15_step (n := n + 2) h44 hcs (Nat.le_refl _) (Nat.le_refl _) hz hwC hml hk h1 h2 h3 hI)
        (fun a σ hI => by
          obtain ⟨hn, hd, g2, g8, g12, g35, g36, g37, mv, vn, kp⟩ := hI
          rw [List.take_length] at mv
          simp only [in15, fAt, cAt, Tryz.f15]
          simp [code_region, code_seq, code_cond, code_exit, opsA, oneA, wantedA, opA, kindOf, readA, uponA, AFr.put, get_set, n_set, df_set, opd, cmp_lss, ex2, hn, hd, g8, g12, g36, g37]
          exact ⟨mv, kp⟩) (by omega) i8
      have hRl : (outAll c (mine u l) cs).length = 192 := by rw [outAll_len, hcs]
      have hf96 : fieldAddrA (EL L) 96 (.ptr σC.next 0 0 192) 0 = some (.ptr σC.next 0 0 192) := by simp [fieldAddrA, und_eq, Tryz.underlying96, z37]
      have hst2 := st37 (L := L) (σ := σF) (o := σ0.next + 1) (cs := outAll c (mine u l) cs) ((kF.same _ (by omega)).trans gC1) rep_len hRl
      have lF := ld37 (L := L) mvF hRl
      have hR : outR l cs c u = outAll c (mine u l) cs := by simp [outR, hg, ht]
      rw [hR]
      generalize outAll c (mine u l) cs = rr at hRl hst2 lF
      obtain ⟨a10, e10, d10, k8, k9⟩ : ∃ a10, codeA (evalK (EL L) N (n + 3)) (EL L) N none (fAt Tryz.f15 [1, 1, 1, 1, 1, 1]) a9 σF = some (.ret, a10, σF.set (σ0.next + 1) (.cells (ints rr) 0 0)) ∧ a10.df = [] ∧ a10.get 8 = .ptr (σ0.next + 1) 0 0 192 ∧ a10.get 9 = .i 0 := by
        simp only [fAt, cAt, Tryz.f15]
        simp [code_region, code_seq, code_ret, opsA, oneA, wantedA, opA, kindOf, readA, uponA, writeA, AFr.put, get_set, n_set, df_set, opd, n9, d9, v8, v12, hf96, lF, hst2]
      have hl' := ld37 (L := L) (σ := σF.set (σ0.next + 1) (.cells (ints rr) 0 0)) (o := σ0.next + 1) (by rw [get_sset, if_pos rfl]) hRl
      exact ⟨_, call_ret hfn (show Tryz.f15.body = some (fAt Tryz.f15 []) from rfl) (by rw [hfr]; exact seq_n e1 (seq_n (seq_n e2 e3) (seq_n e4 (seq_n e5 (seq_n e6 (seq_n (seq_n e8 e9) e10)))))) d10 (by simp [resultA, resultsA, Tryz.f15, k8, k9, hl', inE, hg, ht]), (kAC.trans kF (by omega)).trans (Keep.set (b := σ0.next) _ (by omega)) (Nat.le_refl _)⟩
end Go.Proofs.YtfmbpdacdopkgaaGreatDoor

namespace Go.Proofs.YtfmbpdacdopkgaaGreatDoor
set_option maxRecDepth 100000
open Go Go.Ai
open Go.RowKit (Below)

theorem S31_of {cs : List Int} (hc : cs.length = 192) {x y : Int} (hp : isP x y = true) : S31 [.agg (ints cs), .i x, .i y] = some (.i (cs.getD ((x.toNat - 1) * 64 + y.toNat) 0)) := by simp [S31, ints?_ints, hc, hp]

noncomputable def in19 : Code := fAt Tryz.f19 [1, 1, 1, 1, 0, 1, 0, 0]
structure In19 (cs : List Int) (l : List Lk) (c : List Int) (x y : AV) (u : Int) (e b : Nat) (σ0 : St) (k : Nat) (a : AFr) (σ : St) : Prop where
  n : a.n = 56
  d : a.df = []
  g1 : a.get 1 = .i u
  g6 : a.get 6 = .ptr e 0 0 192
  g10 : a.get 10 = y
  g22 : a.get 22 = x
  g23 : a.get 23 = .i (l.length : Int)
  g24 : a.get 24 = .i (k : Int)
  me : σ.get e = some (.cells (ints cs) 0 0)
  y : Own b σ y (inAll cs (mine u (l.take k)) c)
  kp : Keep b σ0 σ

set_option maxHeartbeats 1000000 in
theorem in19_step {K : Kont} {L : SumL} (h31 : sumOf L 31 = some S31) {N : Nat} {cs : List Int} (hcs : cs.length = 192) {l : List Lk} {c : List Int} {x y : AV} {u : Int} {e b : Nat} {σ0 : St} (hb : b ≤ σ0.next) (heb : e < b) (hs : ∀ σ, Keep b σ0 σ → SlAt σ 6 x (lcs l)) (hl : l.length ≤ 400) {k : Nat} (hk : k < l.length)
    (hp0 : isP l[k].a l[k].s = true) (hc0 : 0 ≤ l[k].c) (hc1 : l[k].u = u → l[k].c < c.length) {a : AFr} {σ : St} (h : In19 cs l c x y u e b σ0 k a σ) :
    ∃ a' σ', codeA K (EL L) N none in19 a σ = some (.normal, a', σ') ∧ In19 cs l c x y u e b σ0 (k + 1) a' σ' := by
  obtain ⟨hn, hd, g1, g6, g10, g22, g23, g24, me, hy, kp⟩ := h
  have hlt : (k : Int) < (l.length : Int) := by omega
  obtain ⟨p, hp, hr⟩ := (hs σ kp).at (E := EL L) (t := 34) (el := 74) Tryz.underlying34 (z74 L) (lcs_at hk) (k := .i64)
  have hld := load_agg (agg74 L) (z74 L) hr
  have hw := wrap_nat (n := k) (by omega)
  have hmt := mine_take (u := u) hk
  have hlenk := inAll_len cs (mine u (l.take k)) c
  have hst' : inAll cs (mine u (l.take (k + 1))) c = if l[k].u == u then inStep cs (inAll cs (mine u (l.take k)) c) l[k] else inAll cs (mine u (l.take k)) c := by
    rw [hmt]
    cases (l[k].u == u) <;> simp [inAll]
  generalize hcur : inAll cs (mine u (l.take k)) c = cur at hy hst' hlenk
  generalize hz : l[k] = z at hld hst' hp0 hc0 hc1
  have kle := kp.le
  obtain ⟨τ, -, hst, nτ, oτ, gp, m0, m1, m2, m3, m4, m5, ma⟩ := lay74 (L := L) (σ := σ) z
  obtain ⟨k0, k1, k2, k3, k4, k5⟩ := fa74s (L := L) (o := σ.next)
  have kτ : Keep b σ0 τ := keep_nx kp (by omega) (by omega) oτ
  have hyτ : Own b τ y cur := hy.keep (by omega) fun o _ h => oτ o h
  have meτ : τ.get e = some (.cells (ints cs) 0 0) := (oτ e (by omega)).trans me
  have skip : inAll cs (mine u (l.take (k + 1))) c = cur → ∀ a', a'.n = 56 → a'.df = [] → a'.get 1 = .i u → a'.get 6 = .ptr e 0 0 192 → a'.get 10 = y → a'.get 22 = x → a'.get 23 = .i (l.length : Int) → a'.get 24 = .i ((k + 1 : Nat) : Int) → In19 cs l c x y u e b σ0 (k + 1) a' τ := fun hh a' h1 h2 h3 h4 h5 h6 h7 h8 =>
    ⟨h1, h2, h3, h4, h5, h6, h7, h8, meτ, by rw [hh]; exact hyτ, kτ⟩
  by_cases hu : z.u = u
  · have hu1 : (z.u != u) = false := by simpa using hu
    have hu2 : (z.u == u) = true := by simpa using hu
    rw [hu2] at hst'
    simp only [if_true] at hst'
    cases ho : z.o with
    | true =>
      rw [ho] at hst hld m5
      have hsk := skip (by rw [hst']; simp [inStep, ho])
      simp only [in19, fAt, cAt, Tryz.f19]
      simp [code_skip, code_region, code_seq, code_cond, code_block, code_exit, opsA, oneA, wantedA, opA, kindOf, readA, uponA, writeA, AFr.put, get_set, n_set, opd, cmp_lss, ar_add, ne_int, ex2, hn, g1, g22, g23, g24, hlt, hp, hld, al74, hst, k0, k5, m0, m5, hu1, hw]
      exact hsk _ (by simp [n_set, hn]) (by simp [df_set, hd]) (by simp [get_set, g1]) (by simp [get_set, g6]) (by simp [get_set, g10]) (by simp [get_set, g22]) (by simp [get_set, g23]) (by simp [get_set])
    | false =>
      rw [ho] at hst hld m5
      have hst'' : inAll cs (mine u (l.take (k + 1))) c = cur.set z.c.toNat (inV cs z) := by rw [hst']; simp [inStep, ho]
      have hcl := hc1 hu
      obtain ⟨q, σ', hq, hsq, hown, hnx, hsb, hso⟩ := hyτ.write (L := L) (j := z.c.toNat) (by omega) (inV cs z) (k := .i64)
      have ec : z.c = (z.c.toNat : Int) := by omega
      have s31 := S31_of hcs hp0
      have lm := ld37 (L := L) meτ hcs
      have hvV : inV cs z = if z.k == 1 && cs.getD ((z.a.toNat - 1) * 64 + z.s.toNat) 0 != 0 then 1 else cs.getD ((z.a.toNat - 1) * 64 + z.s.toNat) 0 := rfl
      generalize inV cs z = iv at hst'' hsq hown hvV
      generalize cs.getD ((z.a.toNat - 1) * 64 + z.s.toNat) 0 = w at s31 hvV
      rw [ec] at m1
      generalize hj : z.c.toNat = j at m1 hq hst'' hown
      have kσ' : Keep b σ0 σ' := kτ.trans (b := b) (c := b) ⟨by omega, hsb⟩ (Nat.le_refl _)
      have fin : ∀ a', a'.n = 56 → a'.df = [] → a'.get 1 = .i u → a'.get 6 = .ptr e 0 0 192 → a'.get 10 = y → a'.get 22 = x → a'.get 23 = .i (l.length : Int) → a'.get 24 = .i ((k + 1 : Nat) : Int) → In19 cs l c x y u e b σ0 (k + 1) a' σ' := fun a' h1 h2 h3 h4 h5 h6 h7 h8 =>
        ⟨h1, h2, h3, h4, h5, h6, h7, h8, (hsb e heb).trans meτ, by rw [hst'']; exact hown, kσ'⟩
      cases hk1 : (z.k == 1) with
      | false =>
        have hiv : iv = w := by rw [hvV, hk1]; rfl
        subst hiv
        simp only [in19, fAt, cAt, Tryz.f19]
        simp [code_skip, code_region, code_seq, code_cond, code_block, opsA, oneA, wantedA, opA, kindOf, readA, uponA, writeA, AFr.put, get_set, n_set, opd, callee?, callA, cmp_lss, ar_add, eq_int, ne_int, ex2, hn, g1, g6, g10, g22, g23, g24, hlt, hp, hld, al74, hst, k0, k1, k2, k3, k4, k5, m0, m1, m2, m3, m4, m5, hu1, lm, sum_eq, h31, s31, hk1, hq, hsq, hw]
        exact fin _ (by simp [n_set, hn]) (by simp [df_set, hd]) (by simp [get_set, g1]) (by simp [get_set, g6]) (by simp [get_set, g10]) (by simp [get_set, g22]) (by simp [get_set, g23]) (by simp [get_set])
      | true =>
        cases hw0 : (w != 0) with
        | false =>
          have hiv : iv = w := by rw [hvV, hk1, hw0]; rfl
          subst hiv
          simp only [in19, fAt, cAt, Tryz.f19]
          simp [code_skip, code_region, code_seq, code_cond, code_block, opsA, oneA, wantedA, opA, kindOf, readA, uponA, writeA, AFr.put, get_set, n_set, opd, callee?, callA, cmp_lss, ar_add, eq_int, ne_int, ex2, hn, g1, g6, g10, g22, g23, g24, hlt, hp, hld, al74, hst, k0, k1, k2, k3, k4, k5, m0, m1, m2, m3, m4, m5, hu1, lm, sum_eq, h31, s31, hk1, hw0, hq, hsq, hw]
          exact fin _ (by simp [n_set, hn]) (by simp [df_set, hd]) (by simp [get_set, g1]) (by simp [get_set, g6]) (by simp [get_set, g10]) (by simp [get_set, g22]) (by simp [get_set, g23]) (by simp [get_set])
        | true =>
          have hiv : iv = 1 := by rw [hvV, hk1, hw0]; rfl
          subst hiv
          simp only [in19, fAt, cAt, Tryz.f19]
          simp [code_skip, code_region, code_seq, code_cond, code_block, opsA, oneA, wantedA, opA, kindOf, readA, uponA, writeA, AFr.put, get_set, n_set, opd, callee?, callA, cmp_lss, ar_add, eq_int, ne_int, ex2, hn, g1, g6, g10, g22, g23, g24, hlt, hp, hld, al74, hst, k0, k1, k2, k3, k4, k5, m0, m1, m2, m3, m4, m5, hu1, lm, sum_eq, h31, s31, hk1, hw0, hq, hsq, hw]
          exact fin _ (by simp [n_set, hn]) (by simp [df_set, hd]) (by simp [get_set, g1]) (by simp [get_set, g6]) (by simp [get_set, g10]) (by simp [get_set, g22]) (by simp [get_set, g23]) (by simp [get_set])
  · have hu1 : (z.u != u) = true := by simpa using hu
    have hu2 : (z.u == u) = false := by simpa using hu
    rw [hu2] at hst'
    have hsk := skip (by rw [hst']; rfl)
    simp only [in19, fAt, cAt, Tryz.f19]
    simp [code_skip, code_region, code_seq, code_cond, code_block, code_exit, opsA, oneA, wantedA, opA, kindOf, readA, uponA, writeA, AFr.put, get_set, n_set, opd, cmp_lss, ar_add, ne_int, ex2, hn, g1, g22, g23, g24, hlt, hp, hld, al74, hst, k0, m0, hu1, hw]
    exact hsk _ (by simp [n_set, hn]) (by simp [df_set, hd]) (by simp [get_set, g1]) (by simp [get_set, g6]) (by simp [get_set, g10]) (by simp [get_set, g22]) (by simp [get_set, g23]) (by simp [get_set])

set_option maxHeartbeats 1000000 in
/-- The reference's In. -/
theorem call19 {n : Nat} {L : SumL} (h31 : sumOf L 31 = some S31) (h46 : sumOf L 46 = none) {N : Nat} (hN : 400 < N) {cs : List Int} (hcs : cs.length = 192) {l : List Lk} {c : List Int} (hg : goodT l cs c = true) {x w : AV} (u : Int) {σ0 : St} (hs : ∀ σ, Keep σ0.next σ0 σ → SlAt σ 6 x (lcs l)) (hy : ∀ σ, Keep σ0.next σ0 σ → SlAt σ 1 w (ones c)) :
    ∃ y σ', (evalK (EL L) N (n + 2)).call 19 [x, .i u, .agg (ints cs), w] σ0 = some (.ret (.tup [y, .i (inE l cs c u)]), σ') ∧ Own σ0.next σ' y (inR l cs c u) ∧ Keep σ0.next σ0 σ' := by
  have hfn : (EL L).fn 19 = some Tryz.f19 := fnL Tryz.func19 rfl
  have f46 : (EL L).fn 46 = some Tryz.f46 := fnL Tryz.func46 rfl
  obtain ⟨hlk, hv, hcl, hcv⟩ := good_parts hg
  obtain ⟨hl4, _⟩ := linked_iff hlk
  have hn : (frame0 Tryz.f19 [x, .i u, .agg (ints cs), w]).n = 56 := rfl
  have g0 : (frame0 Tryz.f19 [x, .i u, .agg (ints cs), w]).get 0 = x := rfl
  have g1 : (frame0 Tryz.f19 [x, .i u, .agg (ints cs), w]).get 1 = .i u := rfl
  have g2 : (frame0 Tryz.f19 [x, .i u, .agg (ints cs), w]).get 2 = .agg (ints cs) := rfl
  have g3 : (frame0 Tryz.f19 [x, .i u, .agg (ints cs), w]).get 3 = w := rfl
  have hd : (frame0 Tryz.f19 [x, .i u, .agg (ints cs), w]).df = [] := rfl
  generalize hfr : frame0 Tryz.f19 [x, .i u, .agg (ints cs), w] = a at hn g0 g1 g2 g3 hd
  have hbx := box37 (L := L) 2 cs hcs
  obtain ⟨a1, e1, n1, d1, b0, b1, b3, b6⟩ : ∃ a1, codeA (evalK (EL L) N (n + 1)) (EL L) N none (fAt Tryz.f19 [0]) a σ0 = some (.normal, a1, σ0.add (.cells (ints cs) 0 0)) ∧ a1.n = 56 ∧ a1.df = [] ∧ a1.get 0 = x ∧ a1.get 1 = .i u ∧ a1.get 3 = w ∧ a1.get 6 = .ptr σ0.next 0 0 192 := by
    simp only [fAt, cAt, Tryz.f19]
    simp [code_region, opsA, oneA, wantedA, opA, kindOf, readA, uponA, AFr.put, get_set, n_set, df_set, opd, hn, hd, g0, g1, g2, g3, hbx]
  have kA : Keep σ0.next σ0 (σ0.add (.cells (ints cs) 0 0)) := Keep.add _ (Nat.le_refl _)
  have hgA : (σ0.add (.cells (ints cs) 0 0)).get σ0.next = some (.cells (ints cs) 0 0) := St.get_add_same _ _
  have nA : (σ0.add (.cells (ints cs) 0 0)).next = σ0.next + 1 := rfl
  generalize σ0.add (.cells (ints cs) 0 0) = σA at e1 kA hgA nA
  obtain ⟨σB, c46, kB⟩ := call46 (n := n) (L := L) (N := N) hN hl4 u (σ0 := σA) (fun τ hk => hs τ (kA.trans hk (by omega))) (fun τ hk => hy τ (kA.trans hk (by omega)))
  have kAB : Keep σ0.next σ0 σB := kA.trans kB (by omega)
  have leB := kB.le
  have hgB : σB.get σ0.next = some (.cells (ints cs) 0 0) := (kB.same _ (by omega)).trans hgA
  cases ht : thereT l u c.length with
  | false =>
    rw [ht] at c46
    obtain ⟨a2, e2, d2, k8, k9⟩ : ∃ a2, codeA (evalK (EL L) N (n + 1)) (EL L) N none (fAt Tryz.f19 [1, 0]) a1 σA = some (.ret, a2, σB) ∧ a2.df = [] ∧ a2.get 8 = .v (.slice none 0 0) ∧ a2.get 9 = .i 6 := by
      simp only [fAt, cAt, Tryz.f19]
      simp [code_region, code_seq, code_cond, code_ret, opsA, oneA, wantedA, opA, kindOf, readA, uponA, writeA, AFr.put, get_set, n_set, df_set, opd, callee?, callA, un_not, n1, d1, b0, b1, b3, sum_eq, h46, f46, c46]
    exact ⟨.v (.slice none 0 0), σB, call_ret hfn (show Tryz.f19.body = some (fAt Tryz.f19 []) from rfl) (by rw [hfr]; exact seq_n e1 (seq_ret e2)) d2 (by simp [resultA, resultsA, Tryz.f19, k8, k9, inE, hg, ht]), .inl ⟨by simp [inR, ht], rfl⟩, kAB⟩
  | true =>
    rw [ht] at c46
    obtain ⟨a2, e2, n2, d2, p0, p1, p3, p6⟩ : ∃ a2, codeA (evalK (EL L) N (n + 1)) (EL L) N none (fAt Tryz.f19 [1, 0]) a1 σA = some (.normal, a2, σB) ∧ a2.n = 56 ∧ a2.df = [] ∧ a2.get 0 = x ∧ a2.get 1 = .i u ∧ a2.get 3 = w ∧ a2.get 6 = .ptr σ0.next 0 0 192 := by
      simp only [fAt, cAt, Tryz.f19]
      simp [code_skip, code_region, code_seq, code_cond, opsA, oneA, wantedA, opA, kindOf, readA, uponA, writeA, AFr.put, get_set, n_set, df_set, opd, callee?, callA, un_not, n1, d1, b0, b1, b3, b6, sum_eq, h46, f46, c46]
    obtain ⟨a3, e3, n3, d3, q0, q1, q3, q6, q10⟩ : ∃ a3, codeA (evalK (EL L) N (n + 1)) (EL L) N none (fAt Tryz.f19 [1, 1, 0]) a2 σB = some (.normal, a3, σB) ∧ a3.n = 56 ∧ a3.df = [] ∧ a3.get 0 = x ∧ a3.get 1 = .i u ∧ a3.get 3 = w ∧ a3.get 6 = .ptr σ0.next 0 0 192 ∧ a3.get 10 = .v (.slice none 0 0) := by
      simp only [fAt, cAt, Tryz.f19]
      simp [code_region, opsA, oneA, wantedA, opA, kindOf, readA, uponA, AFr.put, get_set, n_set, df_set, opd, n2, d2, p0, p1, p3, p6]
    obtain ⟨i3, zz, hi3, hz3, hsz, hzs, hbt⟩ := inf3 L
    have hby := bytesIs_spec bytes3 hi3
    have hap := append_nil (E := EL L) (σ := σB) (t := 38) (u := 38) (el := 3) (el' := 3) Tryz.underlying38 Tryz.underlying38 hi3 hz3 hsz hzs hbt (by decide) (hy σB kAB) (ones_one c) (by rw [ones_len, hby]; unfold maxElems; omega) (by rw [ones_len]; unfold maxElems; omega)
    rw [ones_len, ones_flat] at hap
    obtain ⟨y, σC, hap', hown, nC, oC⟩ : ∃ y σC, appendA (EL L) σB [38, 38] (.v (.slice none 0 0)) w = some (y, σC) ∧ Own σB.next σC y c ∧ σB.next ≤ σC.next ∧ ∀ o, o < σB.next → σC.get o = σB.get o := by
      by_cases h0 : c.length = 0
      · rw [if_pos h0] at hap
        exact ⟨_, _, hap, .inl ⟨List.eq_nil_of_length_eq_zero h0, rfl⟩, Nat.le_refl _, fun _ _ => rfl⟩
      · rw [if_neg h0] at hap
        exact ⟨_, _, hap, .inr ⟨σB.next, 0, 0, rfl, St.get_add_same _ _, Nat.le_refl _, Nat.le_refl _, by rw [next_add]; omega⟩, by rw [next_add]; omega, fun o ho => by rw [get_sadd, if_neg (by omega)]⟩
    have kBC : Keep σB.next σB σC := ⟨nC, oC⟩
    obtain ⟨a4, e4, n4, d4, r0, r1, r6, r10⟩ : ∃ a4, codeA (evalK (EL L) N (n + 1)) (EL L) N none (fAt Tryz.f19 [1, 1, 1, 0]) a3 σB = some (.normal, a4, σC) ∧ a4.n = 56 ∧ a4.df = [] ∧ a4.get 0 = x ∧ a4.get 1 = .i u ∧ a4.get 6 = .ptr σ0.next 0 0 192 ∧ a4.get 10 = y := by
      simp only [fAt, cAt, Tryz.f19]
      simp [code_region, opsA, oneA, wantedA, opA, kindOf, readA, uponA, writeA, AFr.put, get_set, n_set, df_set, opd, n3, d3, q0, q1, q3, q6, q10, hap']
    have hx : ∀ τ, Keep σB.next σB τ → SlAt τ 6 x (lcs l) := fun τ hk => hs τ (kAB.trans hk (by omega))
    have hlx := (hx σC kBC).len (E := EL L) (t := 34) (el := 74) Tryz.underlying34
    rw [lcs_len] at hlx
    obtain ⟨a5, e5, i5⟩ : ∃ a5, codeA (evalK (EL L) N (n + 1)) (EL L) N none (fAt Tryz.f19 [1, 1, 1, 1, 0, 0]) a4 σC = some (.normal, a5, σC) ∧ In19 cs l c x y u σ0.next σB.next σB 0 a5 σC := by
      simp only [fAt, cAt, Tryz.f19]
      simp [code_region, opsA, oneA, wantedA, opA, kindOf, readA, uponA, AFr.put, get_set, n_set, opd, n4, r0, hlx]
      exact ⟨by simp [n_set, n4], by simp [df_set, d4], by simp [get_set, r1], by simp [get_set, r6], by simp [get_set, r10], by simp [get_set], by simp [get_set], by simp [get_set], (oC _ (by omega)).trans hgB, hown, kBC⟩
    obtain ⟨a6, σF, e6, n6, d6, v10, hownF, kF⟩ := loop_all (K := evalK (EL L) N (n + 1)) (E := EL L) (N := N) (c := in19) 0 (In19 cs l c x y u σ0.next σB.next σB) (fun a σ => a.n = 56 ∧ a.df = [] ∧ a.get 10 = y ∧ Own σB.next σ y (inAll cs (mine u l) c) ∧ Keep σB.next σB σ) l.length
      (fun k a σ hk hI => by
        obtain ⟨h1, h2, _⟩ := link_ok hlk (List.getElem_mem hk)
        refine in19_step h31 hcs (Nat.le_refl _) (by omega) hx hl4 hk h1 h2 (fun hu => ?_) hI
        exact (mine_ok (u := u) hlk ht (x := l[k]) (by unfold mine; rw [List.mem_filter]; exact ⟨List.getElem_mem hk, by simpa using hu⟩)).2.2)
      (fun a σ hI => by
        obtain ⟨hn, hd, g1, g6, g10, g22, g23, g24, me, hyy, kp⟩ := hI
        rw [List.take_length] at hyy
        simp only [in19, fAt, cAt, Tryz.f19]
        simp [code_region, code_seq, code_cond, code_exit, opsA, oneA, wantedA, opA, kindOf, readA, uponA, AFr.put, get_set, n_set, df_set, opd, cmp_lss, ex2, hn, hd, g10, g23, g24]
        exact ⟨hyy, kp⟩) (by omega) i5
    obtain ⟨a7, e7, d7, k8, k9⟩ : ∃ a7, codeA (evalK (EL L) N (n + 1)) (EL L) N none (fAt Tryz.f19 [1, 1, 1, 1, 1]) a6 σF = some (.ret, a7, σF) ∧ a7.df = [] ∧ a7.get 8 = y ∧ a7.get 9 = .i 0 := by
      simp only [fAt, cAt, Tryz.f19]
      simp [code_region, code_seq, code_ret, opsA, oneA, wantedA, opA, kindOf, readA, uponA, AFr.put, get_set, n_set, df_set, opd, n6, d6, v10]
    refine ⟨y, σF, call_ret hfn (show Tryz.f19.body = some (fAt Tryz.f19 []) from rfl) (by rw [hfr]; exact seq_n e1 (seq_n e2 (seq_n e3 (seq_n e4 (seq_n (seq_n e5 e6) e7))))) d7 (by simp [resultA, resultsA, Tryz.f19, k8, k9, inE, hg, ht]), ?_, kAB.trans kF (by omega)⟩
    have hR : inR l cs c u = inAll cs (mine u l) c := by simp [inR, hg, ht]
    rw [hR]
    rcases hownF with ⟨h1, h2⟩ | ⟨p, g, m, h1, h2, h3, h4, h5⟩
    · exact .inl ⟨h1, h2⟩
    · exact .inr ⟨p, g, m, h1, h2, h3, by omega, h5⟩
end Go.Proofs.YtfmbpdacdopkgaaGreatDoor

namespace Go.Proofs.YtfmbpdacdopkgaaGreatDoor
set_option maxRecDepth 100000
open Go Go.Ai
open Go.RowKit (Below)

noncomputable def in20 : Code := fAt Tryz.f20 [1, 1, 0, 1, 0, 0]
structure In20 (cs : List Int) (l : List Lk) (c : List Int) (x w : AV) (u : Int) (b : Nat) (σ0 : St) (k : Nat) (a : AFr) (σ : St) : Prop where
  n : a.n = 45
  d : a.df = []
  g1 : a.get 1 = .i u
  g2 : a.get 2 = w
  g7 : a.get 7 = .ptr b 0 0 192
  g8 : a.get 8 = .ptr (b + 1) 0 0 192
  g18 : a.get 18 = x
  g19 : a.get 19 = .i (l.length : Int)
  g20 : a.get 20 = .i (k : Int)
  mb : σ.get b = some (.cells (ints (outAll c (mine u (l.take k)) cs)) 0 0)
  m1 : σ.get (b + 1) = some (.cells (ints zimg) 0 0)
  nx : b + 2 ≤ σ.next
  kp : Keep b σ0 σ

set_option maxHeartbeats 1000000 in
theorem in20_step {K : Kont} {L : SumL} (h47 : sumOf L 47 = some S47) {N : Nat} {cs : List Int} (hcs : cs.length = 192) {l : List Lk} {c : List Int} {x w : AV} {u : Int} {b : Nat} {σ0 : St} (hs : ∀ σ, Keep b σ0 σ → SlAt σ 6 x (lcs l)) (hw0 : ∀ σ, Keep b σ0 σ → SlAt σ 1 w (ones c)) (hl : l.length ≤ 400) {k : Nat} (hk : k < l.length)
    (hp0 : isP l[k].a l[k].s = true) (hc0 : 0 ≤ l[k].c) (hc1 : l[k].u = u → l[k].c < c.length) {a : AFr} {σ : St} (h : In20 cs l c x w u b σ0 k a σ) :
    ∃ a' σ', codeA K (EL L) N none in20 a σ = some (.normal, a', σ') ∧ In20 cs l c x w u b σ0 (k + 1) a' σ' := by
  obtain ⟨hn, hd, g1, g2, g7, g8, g18, g19, g20, mb, mb1, nx, kp⟩ := h
  have hlt : (k : Int) < (l.length : Int) := by omega
  obtain ⟨p, hp, hr⟩ := (hs σ kp).at (E := EL L) (t := 34) (el := 74) Tryz.underlying34 (z74 L) (lcs_at hk) (k := .i64)
  have hld := load_agg (agg74 L) (z74 L) hr
  have hw := wrap_nat (n := k) (by omega)
  have hmt := mine_take (u := u) hk
  have hlenk := outAll_len c (mine u (l.take k)) cs
  have hst' : outAll c (mine u (l.take (k + 1))) cs = if l[k].u == u then outStep c (outAll c (mine u (l.take k)) cs) l[k] else outAll c (mine u (l.take k)) cs := by
    rw [hmt]
    cases (l[k].u == u) <;> simp [outAll]
  generalize hcur : outAll c (mine u (l.take k)) cs = cur at mb hst' hlenk
  generalize hz : l[k] = z at hld hst' hp0 hc0 hc1
  obtain ⟨τ, -, hst, nτ, oτ, gp, m0, m1, m2, m3, m4, m5, ma⟩ := lay74 (L := L) (σ := σ) z
  obtain ⟨k0, k1, k2, k3, k4, k5⟩ := fa74s (L := L) (o := σ.next)
  have kτ : Keep b σ0 τ := keep_nx kp (by omega) (by omega) oτ
  have mbτ : τ.get b = some (.cells (ints cur) 0 0) := (oτ b (by omega)).trans mb
  have mb1τ : τ.get (b + 1) = some (.cells (ints zimg) 0 0) := (oτ _ (by omega)).trans mb1
  have hcl : cur.length = 192 := by omega
  have skip : outAll c (mine u (l.take (k + 1))) cs = cur → ∀ a', a'.n = 45 → a'.df = [] → a'.get 1 = .i u → a'.get 2 = w → a'.get 7 = .ptr b 0 0 192 → a'.get 8 = .ptr (b + 1) 0 0 192 → a'.get 18 = x → a'.get 19 = .i (l.length : Int) → a'.get 20 = .i ((k + 1 : Nat) : Int) → In20 cs l c x w u b σ0 (k + 1) a' τ := fun hh a' h1 h2 h3 h4 h5 h6 h7 h8 h9 =>
    ⟨h1, h2, h3, h4, h5, h6, h7, h8, h9, by rw [hh]; exact mbτ, mb1τ, by omega, kτ⟩
  by_cases hu : z.u = u
  · have hu2 : (z.u == u) = true := by simpa using hu
    rw [hu2] at hst'
    simp only [if_true] at hst'
    cases ho : z.o with
    | false =>
      rw [ho] at hst hld m5
      have hsk := skip (by rw [hst']; simp [outStep, ho])
      simp only [in20, fAt, cAt, Tryz.f20]
      simp [code_skip, code_region, code_seq, code_cond, code_block, opsA, oneA, wantedA, opA, kindOf, readA, uponA, writeA, AFr.put, get_set, n_set, opd, cmp_lss, ar_add, eq_int, ex2, hn, g1, g18, g19, g20, hlt, hp, hld, al74, hst, k0, k5, m0, m5, hu2, hw]
      exact hsk _ (by simp [n_set, hn]) (by simp [df_set, hd]) (by simp [get_set, g1]) (by simp [get_set, g2]) (by simp [get_set, g7]) (by simp [get_set, g8]) (by simp [get_set, g18]) (by simp [get_set, g19]) (by simp [get_set])
    | true =>
      rw [ho] at hst hld m5
      have hst'' : outAll c (mine u (l.take (k + 1))) cs = setP cur (z.a, z.s, c.getD z.c.toNat 0) := by rw [hst']; simp [outStep, ho, setP]
      have hcl1 := hc1 hu
      have ec : z.c = (z.c.toNat : Int) := by omega
      have hjc : z.c.toNat < c.length := by omega
      obtain ⟨q, hq, hrq⟩ := (hw0 τ kτ).at (E := EL L) (t := 38) (el := 3) Tryz.underlying38 (z3 L) (ones_at hjc) (k := .i64)
      have hlq := load_one (agg3 L) hrq
      rw [getD_lt hjc] at hst''
      generalize c[z.c.toNat] = w0 at hlq hst''
      have s47 := S47_eq hcl w0 hp0
      have hnl : (setP cur (z.a, z.s, w0)).length = 192 := by rw [setP_len, hcl]
      generalize setP cur (z.a, z.s, w0) = nw at s47 hnl hst''
      have lb := ld37 (L := L) mbτ hcl
      have hsb := st37 (L := L) (σ := τ) (o := b) (cs := nw) mbτ (by rw [ints_len, hcl]) hnl
      rw [ec] at m1
      generalize hj : z.c.toNat = j at m1 hq
      simp only [in20, fAt, cAt, Tryz.f20]
      simp [code_skip, code_region, code_draw, code_seq, code_cond, code_block, opsA, oneA, wantedA, opA, kindOf, readA, uponA, writeA, AFr.put, get_set, n_set, df_set, opd, callee?, callA, cmp_lss, ar_add, eq_int, ex2, regionA, dops, dopsGo, befOf, Region.binds, drawOk, nodupB, hasDefer, eager, drawA, dim, unord, sameIn, chk, beq_self, Nat.testBit, next_set, hn, hd, g1, g2, g7, g18, g19, g20, hlt, hp, hld, al74, hst, k0, k1, k3, k4, k5, m0, m1, m3, m4, m5, hu2, lb, sum_eq, h47, s47, hq, hlq, hsb, hw]
      exact ⟨by simp [n_set, hn], by simp [df_set, hd], by simp [get_set, g1], by simp [get_set, g2], by simp [get_set, g7], by simp [get_set, g8], by simp [get_set, g18], by simp [get_set, g19], by simp [get_set], by rw [get_sset, if_pos rfl, hst''], by rw [get_sset, if_neg (by omega)]; exact mb1τ, by rw [next_set]; omega, kτ.trans (Keep.set (b := b) _ (Nat.le_refl _)) (Nat.le_refl _)⟩
  · have hu2 : (z.u == u) = false := by simpa using hu
    rw [hu2] at hst'
    have hsk := skip (by rw [hst']; rfl)
    simp only [in20, fAt, cAt, Tryz.f20]
    simp [code_skip, code_region, code_seq, code_cond, code_block, opsA, oneA, wantedA, opA, kindOf, readA, uponA, writeA, AFr.put, get_set, n_set, opd, cmp_lss, ar_add, eq_int, ex2, hn, g1, g18, g19, g20, hlt, hp, hld, al74, hst, k0, m0, hu2, hw]
    exact hsk _ (by simp [n_set, hn]) (by simp [df_set, hd]) (by simp [get_set, g1]) (by simp [get_set, g2]) (by simp [get_set, g7]) (by simp [get_set, g8]) (by simp [get_set, g18]) (by simp [get_set, g19]) (by simp [get_set])

set_option maxHeartbeats 1000000 in
/-- The reference's Out. -/
theorem call20 {n : Nat} {L : SumL} (h47 : sumOf L 47 = some S47) (h46 : sumOf L 46 = none) {N : Nat} (hN : 400 < N) {cs : List Int} (hcs : cs.length = 192) {l : List Lk} {c : List Int} (hg : goodT l cs c = true) {x w : AV} (u : Int) {σ0 : St} (hs : ∀ σ, Keep σ0.next σ0 σ → SlAt σ 6 x (lcs l)) (hy : ∀ σ, Keep σ0.next σ0 σ → SlAt σ 1 w (ones c)) :
    ∃ σ', (evalK (EL L) N (n + 2)).call 20 [x, .i u, w, .agg (ints cs)] σ0 = some (.ret (.tup [.agg (ints (outR l cs c u)), .i (inE l cs c u)]), σ') ∧ Keep σ0.next σ0 σ' := by
  have hfn : (EL L).fn 20 = some Tryz.f20 := fnL Tryz.func20 rfl
  have f46 : (EL L).fn 46 = some Tryz.f46 := fnL Tryz.func46 rfl
  obtain ⟨hlk, hv, hcl, hcv⟩ := good_parts hg
  obtain ⟨hl4, _⟩ := linked_iff hlk
  have hn : (frame0 Tryz.f20 [x, .i u, w, .agg (ints cs)]).n = 45 := rfl
  have g0 : (frame0 Tryz.f20 [x, .i u, w, .agg (ints cs)]).get 0 = x := rfl
  have g1 : (frame0 Tryz.f20 [x, .i u, w, .agg (ints cs)]).get 1 = .i u := rfl
  have g2 : (frame0 Tryz.f20 [x, .i u, w, .agg (ints cs)]).get 2 = w := rfl
  have g3 : (frame0 Tryz.f20 [x, .i u, w, .agg (ints cs)]).get 3 = .agg (ints cs) := rfl
  have hd : (frame0 Tryz.f20 [x, .i u, w, .agg (ints cs)]).df = [] := rfl
  generalize hfr : frame0 Tryz.f20 [x, .i u, w, .agg (ints cs)] = a at hn g0 g1 g2 g3 hd
  have hbx := box37 (L := L) 3 cs hcs
  have gA0 : ((σ0.add (.cells (ints cs) 0 0)).add (.cells (ints zimg) 0 0)).get σ0.next = some (.cells (ints cs) 0 0) := by
    rw [get_sadd, if_neg (by rw [next_add]; omega), get_sadd, if_pos rfl]
  have gA1 : ((σ0.add (.cells (ints cs) 0 0)).add (.cells (ints zimg) 0 0)).get (σ0.next + 1) = some (.cells (ints zimg) 0 0) := by
    rw [get_sadd, if_pos (by rw [next_add])]
  have kA : Keep σ0.next σ0 ((σ0.add (.cells (ints cs) 0 0)).add (.cells (ints zimg) 0 0)) := (Keep.add _ (Nat.le_refl _)).trans (Keep.add (b := σ0.next) _ (by rw [next_add]; omega)) (Nat.le_refl _)
  have nA : ((σ0.add (.cells (ints cs) 0 0)).add (.cells (ints zimg) 0 0)).next = σ0.next + 2 := by rw [next_add, next_add]
  obtain ⟨a1, e1, n1, d1, b0, b1, b2, b7, b8⟩ : ∃ a1, codeA (evalK (EL L) N (n + 1)) (EL L) N none (fAt Tryz.f20 [0]) a σ0 = some (.normal, a1, (σ0.add (.cells (ints cs) 0 0)).add (.cells (ints zimg) 0 0)) ∧ a1.n = 45 ∧ a1.df = [] ∧ a1.get 0 = x ∧ a1.get 1 = .i u ∧ a1.get 2 = w ∧ a1.get 7 = .ptr σ0.next 0 0 192 ∧ a1.get 8 = .ptr (σ0.next + 1) 0 0 192 := by
    simp only [fAt, cAt, Tryz.f20]
    simp [code_region, opsA, oneA, wantedA, opA, kindOf, readA, uponA, AFr.put, get_set, n_set, df_set, opd, next_add, hn, hd, g0, g1, g2, g3, hbx, al37]
  generalize (σ0.add (.cells (ints cs) 0 0)).add (.cells (ints zimg) 0 0) = σA at e1 kA gA0 gA1 nA
  obtain ⟨σB, c46, kB⟩ := call46 (n := n) (L := L) (N := N) hN hl4 u (σ0 := σA) (fun τ hk => hs τ (kA.trans hk (by omega))) (fun τ hk => hy τ (kA.trans hk (by omega)))
  have kAB : Keep σ0.next σ0 σB := kA.trans kB (by omega)
  have leB := kB.le
  have gB0 : σB.get σ0.next = some (.cells (ints cs) 0 0) := (kB.same _ (by omega)).trans gA0
  have gB1 : σB.get (σ0.next + 1) = some (.cells (ints zimg) 0 0) := (kB.same _ (by omega)).trans gA1
  cases ht : thereT l u c.length with
  | false =>
    rw [ht] at c46
    have hst := st37 (L := L) (σ := σB) (o := σ0.next + 1) (cs := zimg) gB1 rep_len zimg_len
    obtain ⟨a2, e2, d2, k8, k9⟩ : ∃ a2, codeA (evalK (EL L) N (n + 1)) (EL L) N none (fAt Tryz.f20 [1, 0]) a1 σA = some (.ret, a2, σB.set (σ0.next + 1) (.cells (ints zimg) 0 0)) ∧ a2.df = [] ∧ a2.get 8 = .ptr (σ0.next + 1) 0 0 192 ∧ a2.get 9 = .i 6 := by
      simp only [fAt, cAt, Tryz.f20]
      simp [code_region, code_seq, code_cond, code_ret, opsA, oneA, wantedA, opA, kindOf, readA, uponA, writeA, AFr.put, get_set, n_set, df_set, opd, callee?, callA, un_not, n1, d1, b0, b1, b2, b8, sum_eq, h46, f46, c46, bd37z, hst]
    have hl' := ld37 (L := L) (σ := σB.set (σ0.next + 1) (.cells (ints zimg) 0 0)) (o := σ0.next + 1) (by rw [get_sset, if_pos rfl]) zimg_len
    exact ⟨_, call_ret hfn (show Tryz.f20.body = some (fAt Tryz.f20 []) from rfl) (by rw [hfr]; exact seq_n e1 (seq_ret e2)) d2 (by simp [resultA, resultsA, Tryz.f20, k8, k9, hl', inE, outR, hg, ht]), kAB.trans (Keep.set (b := σ0.next) _ (by omega)) (Nat.le_refl _)⟩
  | true =>
    rw [ht] at c46
    obtain ⟨a2, e2, n2, d2, p0, p1, p2, p7, p8⟩ : ∃ a2, codeA (evalK (EL L) N (n + 1)) (EL L) N none (fAt Tryz.f20 [1, 0]) a1 σA = some (.normal, a2, σB) ∧ a2.n = 45 ∧ a2.df = [] ∧ a2.get 0 = x ∧ a2.get 1 = .i u ∧ a2.get 2 = w ∧ a2.get 7 = .ptr σ0.next 0 0 192 ∧ a2.get 8 = .ptr (σ0.next + 1) 0 0 192 := by
      simp only [fAt, cAt, Tryz.f20]
      simp [code_skip, code_region, code_seq, code_cond, opsA, oneA, wantedA, opA, kindOf, readA, uponA, writeA, AFr.put, get_set, n_set, df_set, opd, callee?, callA, un_not, n1, d1, b0, b1, b2, b7, b8, sum_eq, h46, f46, c46]
    have hlx := (hs σB kAB).len (E := EL L) (t := 34) (el := 74) Tryz.underlying34
    rw [lcs_len] at hlx
    obtain ⟨a5, e5, i5⟩ : ∃ a5, codeA (evalK (EL L) N (n + 1)) (EL L) N none (fAt Tryz.f20 [1, 1, 0, 0]) a2 σB = some (.normal, a5, σB) ∧ In20 cs l c x w u σ0.next σ0 0 a5 σB := by
      simp only [fAt, cAt, Tryz.f20]
      simp [code_region, opsA, oneA, wantedA, opA, kindOf, readA, uponA, AFr.put, get_set, n_set, opd, n2, p0, hlx]
      exact ⟨by simp [n_set, n2], by simp [df_set, d2], by simp [get_set, p1], by simp [get_set, p2], by simp [get_set, p7], by simp [get_set, p8], by simp [get_set], by simp [get_set], by simp [get_set], gB0, gB1, by omega, kAB⟩
    obtain ⟨a6, σF, e6, n6, d6, v7, v8, mF, mF1, kF⟩ := loop_all (K := evalK (EL L) N (n + 1)) (E := EL L) (N := N) (c := in20) 0 (In20 cs l c x w u σ0.next σ0) (fun a σ => a.n = 45 ∧ a.df = [] ∧ a.get 7 = .ptr σ0.next 0 0 192 ∧ a.get 8 = .ptr (σ0.next + 1) 0 0 192 ∧ σ.get σ0.next = some (.cells (ints (outAll c (mine u l) cs)) 0 0) ∧ σ.get (σ0.next + 1) = some (.cells (ints zimg) 0 0) ∧ Keep σ0.next σ0 σ) l.length
      (fun k a σ hk hI => by
        obtain ⟨h1, h2, _⟩ := link_ok hlk (List.getElem_mem hk)
        refine in20_step h47 hcs hs hy hl4 hk h1 h2 (fun hu => ?_) hI
        exact (mine_ok (u := u) hlk ht (x := l[k]) (by unfold mine; rw [List.mem_filter]; exact ⟨List.getElem_mem hk, by simpa using hu⟩)).2.2)
      (fun a σ hI => by
        obtain ⟨hn, hd, g1, g2, g7, g8, g18, g19, g20, mb, mb1, nx, kp⟩ := hI
        rw [List.take_length] at mb
        simp only [in20, fAt, cAt, Tryz.f20]
        simp [code_region, code_seq, code_cond, code_exit, opsA, oneA, wantedA, opA, kindOf, readA, uponA, AFr.put, get_set, n_set, df_set, opd, cmp_lss, ex2, hn, hd, g7, g8, g19, g20]
        exact ⟨mb, mb1, kp⟩) (by omega) i5
    have hRl : (outAll c (mine u l) cs).length = 192 := by rw [outAll_len, hcs]
    have hR : outR l cs c u = outAll c (mine u l) cs := by simp [outR, hg, ht]
    have hst2 := st37 (L := L) (σ := σF) (o := σ0.next + 1) (cs := outAll c (mine u l) cs) mF1 rep_len hRl
    have lF := ld37 (L := L) mF hRl
    rw [hR]
    generalize outAll c (mine u l) cs = rr at hRl hst2 lF
    obtain ⟨a7, e7, d7, k8, k9⟩ : ∃ a7, codeA (evalK (EL L) N (n + 1)) (EL L) N none (fAt Tryz.f20 [1, 1, 1]) a6 σF = some (.ret, a7, σF.set (σ0.next + 1) (.cells (ints rr) 0 0)) ∧ a7.df = [] ∧ a7.get 8 = .ptr (σ0.next + 1) 0 0 192 ∧ a7.get 9 = .i 0 := by
      simp only [fAt, cAt, Tryz.f20]
      simp [code_region, code_seq, code_ret, opsA, oneA, wantedA, opA, kindOf, readA, uponA, writeA, AFr.put, get_set, n_set, df_set, opd, n6, d6, v7, v8, lF, hst2]
    have hl' := ld37 (L := L) (σ := σF.set (σ0.next + 1) (.cells (ints rr) 0 0)) (o := σ0.next + 1) (by rw [get_sset, if_pos rfl]) hRl
    exact ⟨_, call_ret hfn (show Tryz.f20.body = some (fAt Tryz.f20 []) from rfl) (by rw [hfr]; exact seq_n e1 (seq_n e2 (seq_n (seq_n e5 e6) e7))) d7 (by simp [resultA, resultsA, Tryz.f20, k8, k9, hl', inE, hg, ht]), kF.trans (Keep.set (b := σ0.next) _ (by omega)) (Nat.le_refl _)⟩
end Go.Proofs.YtfmbpdacdopkgaaGreatDoor
