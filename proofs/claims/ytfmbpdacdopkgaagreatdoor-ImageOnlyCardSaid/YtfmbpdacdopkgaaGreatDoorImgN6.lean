/- The law ImageSlots, evaluated. Conditions: an image of 192 numbers; slices of puts and links, of any length that memory bears. -/
import Derived.Test.YtfmbpdacdopkgaaGreatDoorImgR5
namespace Go.Proofs.YtfmbpdacdopkgaaGreatDoor
set_option maxRecDepth 100000
open Go Go.Ai
open Go.RowKit (Below)

theorem bs55e {L : SumL} {a : AFr} {o : Oper} (h : o.op = .buildSlice 55 0 #[]) : allocA (EL L) a o = some (.cells [] 0 0, fun id => .sl id 0 0 0 3) := by
  simp [allocA, h, und_eq, Tryz.underlying55, z79, zeros, zero79, repl, fillA]
theorem bs34e {L : SumL} {a : AFr} {o : Oper} (h : o.op = .buildSlice 34 0 #[]) : allocA (EL L) a o = some (.cells [] 0 0, fun id => .sl id 0 0 0 6) := by
  simp [allocA, h, und_eq, Tryz.underlying34, z74, zeros, zero74, repl, fillA]
theorem inf74 (L : SumL) : ∃ i z, (EL L).inf 74 = some i ∧ i.zero = some z ∧ i.size = 6 ∧ z.cells.size = 6 ∧ i.bytes ≤ 65536 := infoOk_spec (show infoOk 74 6 = true by kernel_rfl)
noncomputable def bytesIs (t n : Nat) : Bool := match Tryz.prog.info? t with | some i => i.bytes == n | none => false
theorem bytesIs_spec {t n : Nat} (h : bytesIs t n = true) {i : TypeInfo} (hi : Tryz.prog.info? t = some i) : i.bytes = n := by
  unfold bytesIs at h; rw [hi] at h; simpa using h
theorem bytes79 : bytesIs 79 24 = true := by kernel_rfl
theorem bytes74 : bytesIs 74 48 = true := by kernel_rfl

theorem fa63 {L : SumL} {o i g e k : Nat} (hk : k < 3) (he : k + 1 ≤ e) : fieldAddrA (EL L) 63 (.ptr o i g e) k = some (.ptr o (i + k) g 1) := by
  have h : k = 0 ∨ k = 1 ∨ k = 2 := by omega
  rcases h with rfl | rfl | rfl <;> simp [fieldAddrA, und_eq, Tryz.underlying63, z3, z34] <;> omega
theorem agg34 (L : SumL) : (EL L).agg 34 = some false := by simp [Env.agg, und_eq, Tryz.underlying34]

/-- A slice that was there before the call. -/
def Arg (sz : Nat) (x : AV) (xs : List (List AV)) : Prop := ∀ σ, SlAt σ sz x xs

theorem pcs_one (ps : List Put3) : ∀ y ∈ pcs ps, y.all (·.one) = true := by
  intro y hy
  simp only [pcs, List.mem_map] at hy
  obtain ⟨p, _, rfl⟩ := hy; rfl
theorem lcs_one (l : List Lk) : ∀ y ∈ lcs l, y.all (·.one) = true := by
  intro y hy
  simp only [lcs, List.mem_map] at hy
  obtain ⟨p, _, rfl⟩ := hy; rfl

/-- A copy of an argument's puts. -/
theorem copy79 {L : SumL} {σ : St} {ps : List Put3} {x : AV} (h : Arg 3 x (pcs ps)) (hlim : ps.length * 24 ≤ maxElems) :
    ∃ y υ, appendA (EL L) (σ.add (.cells [] 0 0)) [55, 55] (.sl σ.next 0 0 0 3) x = some (y, υ) ∧ υ.next = σ.next + 1 ∧ (∀ o, o < σ.next → υ.get o = σ.get o) ∧ ∀ τ, Keep υ.next υ τ → SlAt τ 3 y (pcs ps) := by
  obtain ⟨i, z, hi, hz, hsz, hzs, hbt⟩ := inf79 L
  have hby := bytesIs_spec bytes79 hi
  obtain ⟨y, υ, h1, h2, h3, h4, g, h5⟩ := append_all (E := EL L) (σ := σ.add (.cells [] 0 0)) (t := 55) (u := 55) (el := 79) (el' := 79) (p := σ.next) Tryz.underlying55 Tryz.underlying55 hi hz hsz hzs hbt (by decide) (h _) (pcs_one ps) (St.get_add_same _ _) (by rw [pcs_len, hby]; exact hlim) (by rw [pcs_len]; omega)
  refine ⟨y, υ, h1, by rw [h3, next_add], fun o ho => by rw [h4 o (by omega), get_sadd, if_neg (by omega)], fun τ hk => h2.keep fun o b n g' s e => ?_⟩
  rw [h5] at e
  cases e
  exact hk.same _ (by rw [h3, next_add]; omega)
/-- A copy of an argument's links. -/
theorem copy74 {L : SumL} {σ : St} {l : List Lk} {x : AV} (h : Arg 6 x (lcs l)) (hlim : l.length * 48 ≤ maxElems) :
    ∃ y υ, appendA (EL L) (σ.add (.cells [] 0 0)) [34, 34] (.sl σ.next 0 0 0 6) x = some (y, υ) ∧ υ.next = σ.next + 1 ∧ (∀ o, o < σ.next → υ.get o = σ.get o) ∧ ∀ τ, Keep υ.next υ τ → SlAt τ 6 y (lcs l) := by
  obtain ⟨i, z, hi, hz, hsz, hzs, hbt⟩ := inf74 L
  have hby := bytesIs_spec bytes74 hi
  obtain ⟨y, υ, h1, h2, h3, h4, g, h5⟩ := append_all (E := EL L) (σ := σ.add (.cells [] 0 0)) (t := 34) (u := 34) (el := 74) (el' := 74) (p := σ.next) Tryz.underlying34 Tryz.underlying34 hi hz hsz hzs hbt (by decide) (h _) (lcs_one l) (St.get_add_same _ _) (by rw [lcs_len, hby]; exact hlim) (by rw [lcs_len]; omega)
  refine ⟨y, υ, h1, by rw [h3, next_add], fun o ho => by rw [h4 o (by omega), get_sadd, if_neg (by omega)], fun τ hk => h2.keep fun o b n g' s e => ?_⟩
  rw [h5] at e
  cases e
  exact hk.same _ (by rw [h3, next_add]; omega)

def setI (cs : List Int) (ps : List Put3) : List Int := if cs.all isV && ps.all okP3 then setAll cs ps else zimg
def setE (cs : List Int) (ps : List Put3) : Int := if cs.all isV && ps.all okP3 then 0 else 2
theorem setI_len {cs : List Int} (hc : cs.length = 192) (ps : List Put3) : (setI cs ps).length = 192 := by
  unfold setI; split
  · rw [setAll_len, hc]
  · exact zimg_len
def getV (cs : List Int) (a n : Int) : Int := if cs.all isV && isP a n then cs.getD ((a.toNat - 1) * 64 + n.toNat) 0 else 0
def getE (cs : List Int) (a n : Int) : Int := if cs.all isV then (if isP a n then 0 else 6) else 2
theorem getS_eq (cs : List Int) (a n : Int) : getS cs a n = .tup [.i (getV cs a n), .i (getE cs a n)] := by
  unfold getS getV getE
  cases cs.all isV <;> cases isP a n <;> rfl

structure F6 (x1 : AV) (q : Nat) (rE gv ge ce ue : Int) (y : AV) (a : AFr) : Prop where
  n : a.n = 138
  d : a.df = []
  g1 : a.get 1 = x1
  g3 : a.get 3 = .ptr 0 0 0 192
  g5 : a.get 5 = .ptr 1 0 0 3
  g7 : a.get 7 = .ptr q 0 0 192
  g8 : a.get 8 = .i rE
  g9 : a.get 9 = .i gv
  g10 : a.get 10 = .i ge
  g11 : a.get 11 = .i ce
  g12 : a.get 12 = y
  g13 : a.get 13 = .i ue

set_option maxHeartbeats 600000 in
theorem law6a {n N : Nat} {cs : List Int} (hc : cs.length = 192) {ps : List Put3} {l : List Lk} {x1 x2 : AV} (h1 : Arg 3 x1 (pcs ps)) (h2 : Arg 6 x2 (lcs l)) (_hx2 : x2.cells? = some [x2]) (hp : ps.length * 24 ≤ maxElems) (hl : l.length * 48 ≤ maxElems) (hNp : ps.length < N) (hN : 400 < N) (ar sl : Int)
    {a : AFr} (hn : a.n = 138) (g0 : a.get 0 = .agg (ints cs)) (g1 : a.get 1 = x1) (g2 : a.get 2 = .agg [.i ar, .i sl, x2]) (hd : a.df = []) :
    ∃ a' σ' q y c, (∀ rest r, codeA (evalK (EL L4) N (n + 3)) (EL L4) N none rest a' σ' = r → codeA (evalK (EL L4) N (n + 3)) (EL L4) N none (.seq (fAt Tryz.f6 [0]) (.seq (fAt Tryz.f6 [1, 0]) (.seq (fAt Tryz.f6 [1, 1, 0]) (.seq (fAt Tryz.f6 [1, 1, 1, 0]) (.seq (fAt Tryz.f6 [1, 1, 1, 1, 0]) rest))))) a start = r) ∧
      F6 x1 q (setE cs ps) (getV cs ar sl) (getE cs ar sl) (if cs.all isV then 0 else 2) (if linked l then 0 else 2) y a' ∧
      σ'.get 0 = some (.cells (ints cs) 0 0) ∧ σ'.get 1 = some (.cells [.i ar, .i sl, x2] 0 0) ∧ σ'.get q = some (.cells (ints (setI cs ps)) 0 0) ∧ Grow c σ' 3 y (if linked l then pcs (gath (linkAt l) 192) else []) ∧ 2 ≤ q ∧ q < σ'.next := by
  have hst : start.next = 0 := rfl
  have hbx := box37 (L := L4) 0 cs hc
  have hbx2 : ∀ (b : AFr) (o : Oper), o.op = .box 63 (.tmp 2) → b.get 2 = .agg [.i ar, .i sl, x2] → allocA (EL L4) b o = some (.cells [.i ar, .i sl, x2] 0 0, fun n => .ptr n 0 0 3) := by
    intro b o ho hb
    simp [allocA, ho, opd, hb, AV.cells?]
  have m0 : ((start.add (.cells (ints cs) 0 0)).add (.cells [.i ar, .i sl, x2] 0 0)).get 0 = some (.cells (ints cs) 0 0) := by
    rw [get_sadd, if_neg (by rw [next_add, hst]; omega), get_sadd, if_pos hst]
  have m1 : ((start.add (.cells (ints cs) 0 0)).add (.cells [.i ar, .i sl, x2] 0 0)).get 1 = some (.cells [.i ar, .i sl, x2] 0 0) := by
    rw [get_sadd, if_pos (by rw [next_add, hst])]
  have nA : ((start.add (.cells (ints cs) 0 0)).add (.cells [.i ar, .i sl, x2] 0 0)).next = 2 := by rw [next_add, next_add, hst]
  obtain ⟨aA, eA, nAA, dA, a1, a3, a5⟩ : ∃ aA, codeA (evalK (EL L4) N (n + 3)) (EL L4) N none (fAt Tryz.f6 [0]) a start = some (.normal, aA, (start.add (.cells (ints cs) 0 0)).add (.cells [.i ar, .i sl, x2] 0 0)) ∧ aA.n = 138 ∧ aA.df = [] ∧ aA.get 1 = x1 ∧ aA.get 3 = .ptr 0 0 0 192 ∧ aA.get 5 = .ptr 1 0 0 3 := by
    simp only [fAt, cAt, Tryz.f6]
    simp [code_region, opsA, oneA, wantedA, opA, kindOf, readA, uponA, AFr.put, get_set, n_set, df_set, opd, hn, hd, g0, g1, g2, hbx, hbx2, next_add]
  generalize (start.add (.cells (ints cs) 0 0)).add (.cells [.i ar, .i sl, x2] 0 0) = σA at m0 m1 nA eA
  -- region 1
  obtain ⟨y1, υ, hap, nυ, oυ, sυ⟩ := copy79 (L := L4) (σ := σA) h1 hp
  rw [nA] at hap nυ oυ
  obtain ⟨σB, c24, kB⟩ := call24 (n := n) (L := L4) rfl rfl rfl rfl rfl (N := N) hc sυ hNp (by unfold maxElems at hp; omega)
  have c24' : (evalK (EL L4) N (n + 3)).call 24 [.agg (ints cs), y1] υ = some (.ret (.tup [.agg (ints (setI cs ps)), .i (setE cs ps)]), σB) := by
    rw [c24]
    unfold setI setE
    cases (cs.all isV && ps.all okP3) <;> rfl
  have leB := kB.le
  rw [nυ] at leB kB
  have mB0 := (kB.same 0 (by omega)).trans ((oυ 0 (by omega)).trans m0)
  have mB1 := (kB.same 1 (by omega)).trans ((oυ 1 (by omega)).trans m1)
  have l0 := ld37 (L := L4) m0 hc
  have lυ := ld37 (L := L4) (σ := υ) ((oυ 0 (by omega)).trans m0) hc
  have hil := setI_len hc ps
  have hs7 := st37 (L := L4) (σ := σB.add (.cells (ints zimg) 0 0)) (o := σB.next) (cs := setI cs ps) (St.get_add_same _ _) rep_len hil
  have f24 : (EL L4).fn 24 = some Tryz.f24 := fnL Tryz.func24 rfl
  have q24 : sumOf L4 24 = none := rfl
  obtain ⟨aB, eB, nB, dB, b1, b3, b5, b7, b8⟩ : ∃ aB, codeA (evalK (EL L4) N (n + 3)) (EL L4) N none (fAt Tryz.f6 [1, 0]) aA σA = some (.normal, aB, (σB.add (.cells (ints zimg) 0 0)).set σB.next (.cells (ints (setI cs ps)) 0 0)) ∧ aB.n = 138 ∧ aB.df = [] ∧ aB.get 1 = x1 ∧ aB.get 3 = .ptr 0 0 0 192 ∧ aB.get 5 = .ptr 1 0 0 3 ∧ aB.get 7 = .ptr σB.next 0 0 192 ∧ aB.get 8 = .i (setE cs ps) := by
    simp only [fAt, cAt, Tryz.f6]
    simp [code_draw, oneA, wantedA, opA, kindOf, readA, uponA, writeA, AFr.put, get_set, n_set, df_set, opd, callee?, callA, regionA, dops, dopsGo, befOf, Region.binds, drawOk, nodupB, hasDefer, eager, drawA, dim, unord, sameIn, chk, beq_self, Nat.testBit, next_set, next_add, nAA, dA, a1, a3, a5, nA, l0, lυ, bs55e, hap, sum_eq, q24, f24, c24', al37, hs7, leB, nυ]
  have kC : Keep 2 σA ((σB.add (.cells (ints zimg) 0 0)).set σB.next (.cells (ints (setI cs ps)) 0 0)) :=
    ⟨by rw [next_set, next_add, nA]; omega, fun o ho => by rw [get_sset, if_neg (by omega), get_sadd, if_neg (by omega), kB.same o (by omega), oυ o ho]⟩
  have mq : ((σB.add (.cells (ints zimg) 0 0)).set σB.next (.cells (ints (setI cs ps)) 0 0)).get σB.next = some (.cells (ints (setI cs ps)) 0 0) := by rw [get_sset, if_pos rfl]
  have nC : ((σB.add (.cells (ints zimg) 0 0)).set σB.next (.cells (ints (setI cs ps)) 0 0)).next = σB.next + 1 := rfl
  generalize (σB.add (.cells (ints zimg) 0 0)).set σB.next (.cells (ints (setI cs ps)) 0 0) = σC at eB kC mq nC
  have mC0 := (kC.same 0 (by omega)).trans m0
  have mC1 := (kC.same 1 (by omega)).trans m1
  -- region 2
  have lC := ld37 (L := L4) mC0 hc
  obtain ⟨r0, r1, r2⟩ := rdP mC1
  have la : loadA (EL L4) σC 3 (.ptr 1 0 0 1) = some (.i ar) := load_one (agg3 L4) r0
  have ls : loadA (EL L4) σC 3 (.ptr 1 1 0 1) = some (.i sl) := load_one (agg3 L4) r1
  have lx : loadA (EL L4) σC 34 (.ptr 1 2 0 1) = some x2 := load_one (agg34 L4) r2
  have k0 := fa63 (L := L4) (o := 1) (i := 0) (g := 0) (e := 3) (k := 0) (by omega) (by omega)
  have k1 := fa63 (L := L4) (o := 1) (i := 0) (g := 0) (e := 3) (k := 1) (by omega) (by omega)
  have k2 := fa63 (L := L4) (o := 1) (i := 0) (g := 0) (e := 3) (k := 2) (by omega) (by omega)
  simp only [Nat.zero_add] at k0 k1 k2
  have q27 : sumOf L4 27 = some S27 := rfl
  have s27 := S27_eq hc ar sl
  rw [getS_eq] at s27
  obtain ⟨aD, eD, nD, dD, d1, d3, d5, d7, d8, d9, d10⟩ : ∃ aD, codeA (evalK (EL L4) N (n + 3)) (EL L4) N none (fAt Tryz.f6 [1, 1, 0]) aB σC = some (.normal, aD, σC) ∧ aD.n = 138 ∧ aD.df = [] ∧ aD.get 1 = x1 ∧ aD.get 3 = .ptr 0 0 0 192 ∧ aD.get 5 = .ptr 1 0 0 3 ∧ aD.get 7 = .ptr σB.next 0 0 192 ∧ aD.get 8 = .i (setE cs ps) ∧ aD.get 9 = .i (getV cs ar sl) ∧ aD.get 10 = .i (getE cs ar sl) := by
    simp only [fAt, cAt, Tryz.f6]
    simp [code_region, opsA, oneA, wantedA, opA, kindOf, readA, uponA, writeA, AFr.put, get_set, n_set, df_set, opd, callee?, callA, nB, dB, b1, b3, b5, b7, b8, lC, k0, k1, la, ls, sum_eq, q27, s27]
  -- region 3
  have q28 : sumOf L4 28 = some S28 := rfl
  have s28 := S28_eq hc
  obtain ⟨aE, eE, nE, dE, e1, e3, e5, e7, e8, e9, e10, e11⟩ : ∃ aE, codeA (evalK (EL L4) N (n + 3)) (EL L4) N none (fAt Tryz.f6 [1, 1, 1, 0]) aD σC = some (.normal, aE, σC) ∧ aE.n = 138 ∧ aE.df = [] ∧ aE.get 1 = x1 ∧ aE.get 3 = .ptr 0 0 0 192 ∧ aE.get 5 = .ptr 1 0 0 3 ∧ aE.get 7 = .ptr σB.next 0 0 192 ∧ aE.get 8 = .i (setE cs ps) ∧ aE.get 9 = .i (getV cs ar sl) ∧ aE.get 10 = .i (getE cs ar sl) ∧ aE.get 11 = .i (if cs.all isV then 0 else 2) := by
    generalize (if cs.all isV then (0 : Int) else 2) = ce at s28
    simp only [fAt, cAt, Tryz.f6]
    simp [code_region, opsA, oneA, wantedA, opA, kindOf, readA, uponA, writeA, AFr.put, get_set, n_set, df_set, opd, callee?, callA, nD, dD, d1, d3, d5, d7, d8, d9, d10, lC, sum_eq, q28, s28]
  -- region 4
  obtain ⟨y2, υ2, hap2, nυ2, oυ2, sυ2⟩ := copy74 (L := L4) (σ := σC) h2 hl
  obtain ⟨y, σF, c, c29, hcl, hgr, kF⟩ := call29 (n := n) (L := L4) rfl rfl rfl rfl rfl hN sυ2
  have f29 : (EL L4).fn 29 = some Tryz.f29 := fnL Tryz.func29 rfl
  have q29 : sumOf L4 29 = none := rfl
  have leF := kF.le
  obtain ⟨aF, eF, iF⟩ : ∃ aF, codeA (evalK (EL L4) N (n + 3)) (EL L4) N none (fAt Tryz.f6 [1, 1, 1, 1, 0]) aE σC = some (.normal, aF, σF) ∧ F6 x1 σB.next (setE cs ps) (getV cs ar sl) (getE cs ar sl) (if cs.all isV then 0 else 2) (if linked l then 0 else 2) y aF := by
    generalize (if linked l then (0 : Int) else 2) = ue at c29
    generalize (if cs.all isV then (0 : Int) else 2) = ce at e11
    have lx' : ∀ z, loadA (EL L4) (σC.add (.cells z 0 0)) 34 (.ptr 1 2 0 1) = some x2 := fun z => load_one (agg34 L4) (rdP (by rw [get_sadd, if_neg (by omega)]; exact mC1)).2.2
    simp only [fAt, cAt, Tryz.f6]
    simp [code_region, opsA, oneA, wantedA, opA, kindOf, readA, uponA, writeA, AFr.put, get_set, n_set, opd, callee?, callA, nE, e5, k2, lx', bs34e, hap2, sum_eq, q29, f29, c29]
    exact ⟨by simp [n_set, nE], by simp [df_set, dE], by simp [get_set, e1], by simp [get_set, e3], by simp [get_set, e5], by simp [get_set, e7], by simp [get_set, e8], by simp [get_set, e9], by simp [get_set, e10], by simp [get_set, e11], by simp [get_set], by simp [get_set]⟩
  have hsame : ∀ o, o < σC.next → σF.get o = σC.get o := fun o ho => (kF.same o (by omega)).trans (oυ2 o ho)
  have hcode : ∀ rest r, codeA (evalK (EL L4) N (n + 3)) (EL L4) N none rest aF σF = r → codeA (evalK (EL L4) N (n + 3)) (EL L4) N none (.seq (fAt Tryz.f6 [0]) (.seq (fAt Tryz.f6 [1, 0]) (.seq (fAt Tryz.f6 [1, 1, 0]) (.seq (fAt Tryz.f6 [1, 1, 1, 0]) (.seq (fAt Tryz.f6 [1, 1, 1, 1, 0]) rest))))) a start = r := by
    intro rest r h
    rw [code_seq, eA]
    dsimp only
    rw [code_seq, eB]
    dsimp only
    rw [code_seq, eD]
    dsimp only
    rw [code_seq, eE]
    dsimp only
    rw [code_seq, eF]
    exact h
  refine ⟨aF, σF, σB.next, y, c, hcode, iF, (hsame 0 (by omega)).trans mC0, (hsame 1 (by omega)).trans mC1, (hsame _ (by omega)).trans mq, ?_, by omega, by omega⟩
  cases hlk : linked l with
  | true => rw [hlk, used_eq hlk] at hgr; exact hgr
  | false => rw [hlk] at hgr; simpa using hgr

theorem F6.set {x1 : AV} {q : Nat} {rE gv ge ce ue : Int} {y : AV} {a : AFr} (h : F6 x1 q rE gv ge ce ue y a) {t : Nat} (ht : 13 < t) (x : AV) : F6 x1 q rE gv ge ce ue y (a.set t x) := by
  have k : ∀ i, i ≤ 13 → (a.set t x).get i = a.get i := fun i hi => by rw [get_set, if_neg (by omega)]
  exact ⟨h.n, h.d, (k 1 (by omega)).trans h.g1, (k 3 (by omega)).trans h.g3, (k 5 (by omega)).trans h.g5, (k 7 (by omega)).trans h.g7, (k 8 (by omega)).trans h.g8, (k 9 (by omega)).trans h.g9, (k 10 (by omega)).trans h.g10, (k 11 (by omega)).trans h.g11, (k 12 (by omega)).trans h.g12, (k 13 (by omega)).trans h.g13⟩

set_option maxHeartbeats 1000000 in
/-- The links: Used agrees with the reference. -/
theorem law6b {n N : Nat} (hN : 400 < N) {l : List Lk} {x1 x2 y : AV} (h2 : Arg 6 x2 (lcs l)) {q c : Nat} {rE gv ge ce : Int} {cs rI : List Int} {ar sl : Int} {a : AFr} {σ : St} (f : F6 x1 q rE gv ge ce (if linked l then 0 else 2) y a)
    (m0 : σ.get 0 = some (.cells (ints cs) 0 0)) (m1 : σ.get 1 = some (.cells [.i ar, .i sl, x2] 0 0)) (mq : σ.get q = some (.cells (ints rI) 0 0)) (hgr : Grow c σ 3 y (if linked l then pcs (gath (linkAt l) 192) else [])) (hq2 : 2 ≤ q) (hqn : q < σ.next) :
    ∃ a' σ', codeA (evalK (EL L4) N (n + 1)) (EL L4) N none (fAt Tryz.f6 [1, 1, 1, 1, 1, 0]) a σ = some (.normal, a', σ') ∧ F6 x1 q rE gv ge ce (if linked l then 0 else 2) y a' ∧ σ'.get 0 = some (.cells (ints cs) 0 0) ∧ σ'.get 1 = some (.cells [.i ar, .i sl, x2] 0 0) ∧ σ'.get q = some (.cells (ints rI) 0 0) ∧ q < σ'.next := by
  have fd := f.d
  obtain ⟨hn, hd, g1, g3, g5, g7, g8, g9, g10, g11, g12, g13⟩ := f
  have lx : loadA (EL L4) σ 34 (.ptr 1 2 0 1) = some x2 := load_one (agg34 L4) (rdP m1).2.2
  have k2 := fa63 (L := L4) (o := 1) (i := 0) (g := 0) (e := 3) (k := 2) (by omega) (by omega)
  simp only [Nat.zero_add] at k2
  obtain ⟨σ1, c16, k1⟩ := call16 (n := n) (L := L4) rfl hN (σ0 := σ) (fun τ _ => h2 τ)
  have f16 : (EL L4).fn 16 = some Tryz.f16 := fnL Tryz.func16 rfl
  have q16 : sumOf L4 16 = none := rfl
  obtain ⟨aA, eA, iA, a44⟩ : ∃ aA, codeA (evalK (EL L4) N (n + 1)) (EL L4) N none (fAt Tryz.f6 [1, 1, 1, 1, 1, 0, 0]) a σ = some (.normal, aA, σ1) ∧ F6 x1 q rE gv ge ce (if linked l then 0 else 2) y aA ∧ aA.get 44 = .b (!linked l) := by
    generalize linked l = b at c16 g13
    simp only [fAt, cAt, Tryz.f6]
    simp [code_region, opsA, oneA, wantedA, opA, kindOf, readA, uponA, writeA, AFr.put, get_set, n_set, opd, callee?, callA, un_not, hn, g5, k2, lx, sum_eq, q16, f16, c16]
    exact ⟨by simp [n_set, hn], by simp [df_set, hd], by simp [get_set, g1], by simp [get_set, g3], by simp [get_set, g5], by simp [get_set, g7], by simp [get_set, g8], by simp [get_set, g9], by simp [get_set, g10], by simp [get_set, g11], by simp [get_set, g12], by simpa [get_set] using g13⟩
  have le1 := k1.le
  have n0 := (k1.same 0 (by omega)).trans m0
  have n1 := (k1.same 1 (by omega)).trans m1
  have nq := (k1.same q (by omega)).trans mq
  have hg1 : Grow c σ1 3 y (if linked l then pcs (gath (linkAt l) 192) else []) := hgr.keep le1 fun o _ h => k1.same o h
  obtain ⟨hn, hd, g1, g3, g5, g7, g8, g9, g10, g11, g12, g13⟩ := iA
  cases hlk : linked l with
  | false =>
    rw [hlk] at a44 hg1 g13
    simp at hg1 g13
    have hlen := hg1.slAt.len (E := EL L4) (t := 55) (el := 79) Tryz.underlying55
    simp at hlen
    obtain ⟨aB, eB, iB⟩ : ∃ aB, codeA (evalK (EL L4) N (n + 1)) (EL L4) N none (fAt Tryz.f6 [1, 1, 1, 1, 1, 0, 1]) aA σ1 = some (.normal, aB, σ1) ∧ F6 x1 q rE gv ge ce 2 y aB := by
      simp only [fAt, cAt, Tryz.f6]
      simp [code_skip, code_region, code_seq, code_cond, opsA, oneA, wantedA, opA, kindOf, readA, uponA, AFr.put, get_set, n_set, opd, ne_int, hn, a44, g12, g13, hlen]
      exact ⟨by simp [n_set, hn], by simp [df_set, hd], by simp [get_set, g1], by simp [get_set, g3], by simp [get_set, g5], by simp [get_set, g7], by simp [get_set, g8], by simp [get_set, g9], by simp [get_set, g10], by simp [get_set, g11], by simp [get_set, g12], by simp [get_set, g13]⟩
    exact ⟨aB, σ1, seq_n eA eB, by simpa using iB, n0, n1, nq, by omega⟩
  | true =>
    rw [hlk] at a44 hg1 g13
    simp at hg1 g13
    obtain ⟨hl4, _⟩ := linked_iff hlk
    have lx1 : loadA (EL L4) σ1 34 (.ptr 1 2 0 1) = some x2 := load_one (agg34 L4) (rdP n1).2.2
    obtain ⟨y3, σ2, c30, hg3, k2'⟩ := call30 (n := n) (L := L4) (N := N) hN (σ0 := σ1) hl4 (fun τ _ => h2 τ)
    have le2 := k2'.le
    have hgl := gath_len (linkAt l) 192
    have c25 := call25 (n := n) (L := L4) (N := N) (hg1.keep le2 fun o _ h => k2'.same o h).slAt hg3.slAt (by omega) (by omega)
    have f30 : (EL L4).fn 30 = some Tryz.f30 := fnL Tryz.func30 rfl
    have q30 : sumOf L4 30 = none := rfl
    have f25 : (EL L4).fn 25 = some Tryz.f25 := fnL Tryz.func25 rfl
    have q25 : sumOf L4 25 = none := rfl
    obtain ⟨aB, eB, iB⟩ : ∃ aB, codeA (evalK (EL L4) N (n + 1)) (EL L4) N none (fAt Tryz.f6 [1, 1, 1, 1, 1, 0, 1]) aA σ1 = some (.normal, aB, σ2) ∧ F6 x1 q rE gv ge ce 0 y aB := by
      simp only [fAt, cAt, Tryz.f6]
      simp [code_skip, code_region, code_seq, code_cond, opsA, oneA, wantedA, opA, kindOf, readA, uponA, writeA, AFr.put, get_set, n_set, opd, callee?, callA, un_not, ne_int, hn, a44, g5, g12, g13, k2, lx1, sum_eq, q30, f30, c30, q25, f25, c25]
      exact ⟨by simp [n_set, hn], by simp [df_set, hd], by simp [get_set, g1], by simp [get_set, g3], by simp [get_set, g5], by simp [get_set, g7], by simp [get_set, g8], by simp [get_set, g9], by simp [get_set, g10], by simp [get_set, g11], by simp [get_set, g12], by simp [get_set, g13]⟩
    exact ⟨aB, σ2, seq_n eA eB, by simpa using iB, (k2'.same 0 (by omega)).trans n0, (k2'.same 1 (by omega)).trans n1, (k2'.same q (by omega)).trans nq, by omega⟩

set_option maxHeartbeats 1000000 in
/-- The rest: the image. -/
theorem law6c {n N : Nat} {cs : List Int} (hc : cs.length = 192) {ps : List Put3} {x1 x2 y : AV} (h1 : Arg 3 x1 (pcs ps)) (hp : ps.length * 24 ≤ maxElems) (hNp : ps.length < N) {q : Nat} {ue ar sl : Int} {a : AFr} {σ : St} (f : F6 x1 q (setE cs ps) (getV cs ar sl) (getE cs ar sl) (if cs.all isV then 0 else 2) ue y a)
    (m0 : σ.get 0 = some (.cells (ints cs) 0 0)) (m1 : σ.get 1 = some (.cells [.i ar, .i sl, x2] 0 0)) (mq : σ.get q = some (.cells (ints (setI cs ps)) 0 0)) (hqn : q < σ.next) (hn2 : 2 ≤ σ.next) :
    ∃ a' σ', codeA (evalK (EL L4) N (n + 1)) (EL L4) N none (fAt Tryz.f6 [1, 1, 1, 1, 1, 1]) a σ = some (.ret, a', σ') ∧ a'.df = [] ∧ a'.get 6 = .b true := by
  obtain ⟨hn, hd, g1, g3, g5, g7, g8, g9, g10, g11, g12, g13⟩ := f
  have q12 : sumOf L4 12 = some S12 := rfl
  have s12 : S12 [] = some (.b true) := rfl
  have q17 : sumOf L4 17 = some S17 := rfl
  have s17 := S17_eq hc
  have l0 := ld37 (L := L4) m0 hc
  have lq := ld37 (L := L4) mq (setI_len hc ps)
  have hz := fun xo yo => (eq37 (L := L4) zimg_len xo yo).1
  cases hv : cs.all isV with
  | false =>
    have e1 : setI cs ps = zimg := by simp [setI, hv]
    have e2 : setE cs ps = 2 := by simp [setE, hv]
    have e3 : getV cs ar sl = 0 := by simp [getV, hv]
    have e4 : getE cs ar sl = 2 := by simp [getE, hv]
    rw [e2] at g8
    rw [e3] at g9
    rw [e4] at g10
    rw [hv] at g11 s17
    simp at g11
    rw [e1] at lq
    obtain ⟨a1, h, hd', h6⟩ : ∃ a1, codeA (evalK (EL L4) N (n + 1)) (EL L4) N none (fAt Tryz.f6 [1, 1, 1, 1, 1, 1, 0]) a σ = some (.ret, a1, σ) ∧ a1.df = [] ∧ a1.get 6 = .b true := by
      simp only [fAt, cAt, Tryz.f6]
      simp [code_region, code_seq, code_cond, code_ret, opsA, oneA, wantedA, opA, kindOf, readA, uponA, writeA, AFr.put, get_set, n_set, df_set, opd, callee?, callA, un_not, eq_int, hn, hd, g3, g7, g8, g9, g10, g11, l0, lq, sum_eq, q17, s17, q12, s12, bd37z, hz]
    exact ⟨a1, σ, seq_ret h, hd', h6⟩
  | true =>
    rw [hv] at g11 s17
    simp at g11
    obtain ⟨a1, e1, hn, hd, g1, g3, g5, g7, g8, g9, g10, g11⟩ : ∃ a1, codeA (evalK (EL L4) N (n + 1)) (EL L4) N none (fAt Tryz.f6 [1, 1, 1, 1, 1, 1, 0]) a σ = some (.normal, a1, σ) ∧ a1.n = 138 ∧ a1.df = [] ∧ a1.get 1 = x1 ∧ a1.get 3 = .ptr 0 0 0 192 ∧ a1.get 5 = .ptr 1 0 0 3 ∧ a1.get 7 = .ptr q 0 0 192 ∧ a1.get 8 = .i (setE cs ps) ∧ a1.get 9 = .i (getV cs ar sl) ∧ a1.get 10 = .i (getE cs ar sl) ∧ a1.get 11 = .i 0 := by
      simp only [fAt, cAt, Tryz.f6]
      simp [code_skip, code_region, code_seq, code_cond, opsA, oneA, wantedA, opA, kindOf, readA, uponA, writeA, AFr.put, get_set, n_set, df_set, opd, callee?, callA, un_not, hn, hd, g1, g3, g5, g7, g8, g9, g10, g11, l0, sum_eq, q17, s17]
    obtain ⟨a2, e2, hn, hd, g1, g3, g5, g7, g8, g9, g10⟩ : ∃ a2, codeA (evalK (EL L4) N (n + 1)) (EL L4) N none (fAt Tryz.f6 [1, 1, 1, 1, 1, 1, 1, 0]) a1 σ = some (.normal, a2, σ) ∧ a2.n = 138 ∧ a2.df = [] ∧ a2.get 1 = x1 ∧ a2.get 3 = .ptr 0 0 0 192 ∧ a2.get 5 = .ptr 1 0 0 3 ∧ a2.get 7 = .ptr q 0 0 192 ∧ a2.get 8 = .i (setE cs ps) ∧ a2.get 9 = .i (getV cs ar sl) ∧ a2.get 10 = .i (getE cs ar sl) := by
      simp only [fAt, cAt, Tryz.f6]
      simp [code_skip, code_region, code_seq, code_cond, opsA, oneA, wantedA, opA, kindOf, readA, uponA, AFr.put, get_set, n_set, df_set, opd, ne_int, hn, hd, g1, g3, g5, g7, g8, g9, g10, g11]
    obtain ⟨r0, r1, -⟩ := rdP m1
    have la : loadA (EL L4) σ 3 (.ptr 1 0 0 1) = some (.i ar) := load_one (agg3 L4) r0
    have ls : loadA (EL L4) σ 3 (.ptr 1 1 0 1) = some (.i sl) := load_one (agg3 L4) r1
    have k0 := fa63 (L := L4) (o := 1) (i := 0) (g := 0) (e := 3) (k := 0) (by omega) (by omega)
    have k1 := fa63 (L := L4) (o := 1) (i := 0) (g := 0) (e := 3) (k := 1) (by omega) (by omega)
    simp only [Nat.zero_add] at k0 k1
    have q11 : sumOf L4 11 = some S36 := rfl
    have q31 : sumOf L4 31 = some S31 := rfl
    obtain ⟨a3, e3, hn, hd, g1, g3, g7, g8⟩ : ∃ a3, codeA (evalK (EL L4) N (n + 1)) (EL L4) N none (fAt Tryz.f6 [1, 1, 1, 1, 1, 1, 1, 1, 0]) a2 σ = some (.normal, a3, σ) ∧ a3.n = 138 ∧ a3.df = [] ∧ a3.get 1 = x1 ∧ a3.get 3 = .ptr 0 0 0 192 ∧ a3.get 7 = .ptr q 0 0 192 ∧ a3.get 8 = .i (setE cs ps) := by
      cases hpl : isP ar sl with
      | false =>
        have e3 : getV cs ar sl = 0 := by simp [getV, hpl]
        have e4 : getE cs ar sl = 6 := by simp [getE, hv, hpl]
        rw [e3] at g9
        rw [e4] at g10
        simp only [fAt, cAt, Tryz.f6]
        simp [code_skip, code_region, code_seq, code_cond, opsA, oneA, wantedA, opA, kindOf, readA, uponA, writeA, AFr.put, get_set, n_set, df_set, opd, callee?, callA, un_not, ne_int, hn, hd, g1, g3, g5, g7, g8, g9, g10, k0, k1, la, ls, sum_eq, q11, S36, hpl]
      | true =>
        have s31 : S31 [.agg (ints cs), .i ar, .i sl] = some (.i (getV cs ar sl)) := by simp [S31, ints?_ints, hc, hpl, getV, hv]
        have e4 : getE cs ar sl = 0 := by simp [getE, hv, hpl]
        rw [e4] at g10
        generalize getV cs ar sl = w at g9 s31
        simp only [fAt, cAt, Tryz.f6]
        simp [code_skip, code_region, code_seq, code_cond, opsA, oneA, wantedA, opA, kindOf, readA, uponA, writeA, AFr.put, get_set, n_set, df_set, opd, callee?, callA, un_not, ne_int, hn, hd, g1, g3, g5, g7, g8, g9, g10, k0, k1, la, ls, l0, sum_eq, q11, q31, s31, S36, hpl]
    obtain ⟨σ2, c32, kp⟩ := call32 (n := n) (L := L4) rfl rfl (σ0 := σ) (fun τ _ => h1 τ) hNp (by unfold maxElems at hp; omega)
    have f32 : (EL L4).fn 32 = some Tryz.f32 := fnL Tryz.func32 rfl
    have q32 : sumOf L4 32 = none := rfl
    have lq2 := ld37 (L := L4) (σ := σ2) (o := q) ((kp.same q hqn).trans mq) (setI_len hc ps)
    have l02 := ld37 (L := L4) (σ := σ2) (o := 0) ((kp.same 0 (by omega)).trans m0) hc
    cases hps : ps.all okP3 with
    | false =>
      have e1' : setI cs ps = zimg := by simp [setI, hps]
      have e2' : setE cs ps = 2 := by simp [setE, hps]
      rw [e2'] at g8
      rw [e1'] at lq2
      rw [hps] at c32
      obtain ⟨a4, e4, hd', h6⟩ : ∃ a4, codeA (evalK (EL L4) N (n + 1)) (EL L4) N none (fAt Tryz.f6 [1, 1, 1, 1, 1, 1, 1, 1, 1, 0]) a3 σ = some (.ret, a4, σ2) ∧ a4.df = [] ∧ a4.get 6 = .b true := by
        simp only [fAt, cAt, Tryz.f6]
        simp [code_region, code_seq, code_cond, code_ret, opsA, oneA, wantedA, opA, kindOf, readA, uponA, writeA, AFr.put, get_set, n_set, df_set, opd, callee?, callA, un_not, eq_int, hn, hd, g1, g7, g8, sum_eq, q32, f32, c32, lq2, bd37z, hz, q12, s12]
      exact ⟨a4, σ2, seq_n e1 (seq_n e2 (seq_n e3 (seq_ret e4))), hd', h6⟩
    | true =>
      have e1' : setI cs ps = setAll cs ps := by simp [setI, hps, hv]
      have e2' : setE cs ps = 0 := by simp [setE, hps, hv]
      rw [e2'] at g8
      rw [e1'] at lq2
      rw [hps] at c32
      obtain ⟨a4, e4, hn, hd, g1, g3, g7, g8⟩ : ∃ a4, codeA (evalK (EL L4) N (n + 1)) (EL L4) N none (fAt Tryz.f6 [1, 1, 1, 1, 1, 1, 1, 1, 1, 0]) a3 σ = some (.normal, a4, σ2) ∧ a4.n = 138 ∧ a4.df = [] ∧ a4.get 1 = x1 ∧ a4.get 3 = .ptr 0 0 0 192 ∧ a4.get 7 = .ptr q 0 0 192 ∧ a4.get 8 = .i 0 := by
        simp only [fAt, cAt, Tryz.f6]
        simp [code_skip, code_region, code_seq, code_cond, opsA, oneA, wantedA, opA, kindOf, readA, uponA, writeA, AFr.put, get_set, n_set, df_set, opd, callee?, callA, un_not, hn, hd, g1, g3, g7, g8, sum_eq, q32, f32, c32]
      obtain ⟨σ3, c33, kp3⟩ := call33 (n := n) (L := L4) rfl hc hps (σ0 := σ2) (fun τ _ => h1 τ) hNp (by unfold maxElems at hp; omega)
      have f33 : (EL L4).fn 33 = some Tryz.f33 := fnL Tryz.func33 rfl
      have q33 : sumOf L4 33 = none := rfl
      have le2 := kp.le
      have lq3 := ld37 (L := L4) (σ := σ3) (o := q) ((kp3.same q (by omega)).trans ((kp.same q hqn).trans (by rw [mq, e1']))) (by rw [setAll_len, hc])
      have hz2 := fun xo yo => (eq37 (L := L4) (cs := setAll cs ps) (by rw [setAll_len, hc]) xo yo).1
      generalize setAll cs ps = rs at c33 lq2 lq3 hz2
      obtain ⟨a5, e5, hd', h6⟩ : ∃ a5, codeA (evalK (EL L4) N (n + 1)) (EL L4) N none (fAt Tryz.f6 [1, 1, 1, 1, 1, 1, 1, 1, 1, 1]) a4 σ2 = some (.ret, a5, σ3) ∧ a5.df = [] ∧ a5.get 6 = .b true := by
        simp only [fAt, cAt, Tryz.f6]
        simp [code_draw, code_seq, code_ret, oneA, wantedA, opA, kindOf, readA, uponA, writeA, AFr.put, get_set, n_set, df_set, opd, callee?, callA, eq_int, regionA, dops, dopsGo, befOf, Region.binds, drawOk, nodupB, hasDefer, eager, drawA, dim, unord, sameIn, chk, beq_self, Nat.testBit, hn, hd, g1, g3, g7, g8, lq2, lq3, l02, sum_eq, q33, f33, c33, hz2, q12, s12, kp3.le]
      exact ⟨a5, σ3, seq_n e1 (seq_n e2 (seq_n e3 (seq_n e4 e5))), hd', h6⟩

/-- **The law, evaluated.** -/
theorem law6 {n N : Nat} {cs : List Int} (hc : cs.length = 192) {ps : List Put3} {l : List Lk} {x1 x2 : AV} (h1 : Arg 3 x1 (pcs ps)) (h2 : Arg 6 x2 (lcs l)) (hx2 : x2.cells? = some [x2]) (hp : ps.length * 24 ≤ maxElems) (hl : l.length * 48 ≤ maxElems) (hNp : ps.length < N) (hN : 400 < N) (ar sl : Int) :
    ∃ σ', (evalK (EL L4) N (n + 4)).call 6 [.agg (ints cs), x1, .agg [.i ar, .i sl, x2]] start = some (.ret (.b true), σ') := by
  have hfn : (EL L4).fn 6 = some Tryz.f6 := fnL Tryz.func6 rfl
  obtain ⟨a1, σ1, q, y, c, hcode, f, m0, m1, mq, hgr, hq2, hqn⟩ := law6a (n := n) (N := N) hc h1 h2 hx2 hp hl hNp hN ar sl (a := frame0 Tryz.f6 [.agg (ints cs), x1, .agg [.i ar, .i sl, x2]]) rfl rfl rfl rfl rfl
  obtain ⟨a2, σ2, e2, f2, m0, m1, mq, hqn⟩ := law6b (n := n + 2) (N := N) hN h2 f m0 m1 mq hgr hq2 hqn
  obtain ⟨a3, σ3, e3, hd, h6⟩ := law6c (n := n + 2) (N := N) hc h1 hp hNp f2 m0 m1 mq hqn (by omega)
  exact ⟨σ3, call_ret (x := .b true) hfn (show Tryz.f6.body = some (fAt Tryz.f6 []) from rfl) (hcode (fAt Tryz.f6 [1, 1, 1, 1, 1]) _ (seq_n e2 e3)) hd (by simp [resultA, resultsA, Tryz.f6, h6])⟩
end Go.Proofs.YtfmbpdacdopkgaaGreatDoor
