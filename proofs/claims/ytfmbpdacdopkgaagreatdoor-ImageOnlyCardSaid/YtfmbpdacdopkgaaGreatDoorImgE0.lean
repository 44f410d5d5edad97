/- The law ImageOnly: plain facts of In and Out; its array and its list. Conditions: none. -/
import Derived.Test.YtfmbpdacdopkgaaGreatDoorImgS4
import Derived.Test.YtfmbpdacdopkgaaGreatDoorImgN4
namespace Go.Proofs.YtfmbpdacdopkgaaGreatDoor
set_option maxRecDepth 100000
open Go Go.Ai
open Go.RowKit (Below)

/-- The number of a link's slot. -/
def pl (x : Lk) : Nat := (x.a.toNat - 1) * 64 + x.s.toNat
def rdStep (u : Int) (rd : List Bool) (x : Lk) : List Bool := if x.u == u && !x.o then rd.set x.c.toNat true else rd
def wrStep (u : Int) (wr : List Int) (x : Lk) : List Int := if x.u == u && x.o then wr.set (pl x) (wr.getD (pl x) 0 + 1) else wr
def rdAll (u : Int) (l : List Lk) (rd : List Bool) : List Bool := l.foldl (rdStep u) rd
def wrAll (u : Int) (l : List Lk) (wr : List Int) : List Int := l.foldl (wrStep u) wr
theorem getD_set {α : Type} (l : List α) (i j : Nat) (v d : α) : (l.set j v).getD i d = if j = i ∧ j < l.length then v else l.getD i d := by
  simp only [List.getD, List.getElem?_set]
  by_cases h : j = i
  · subst h
    by_cases hj : j < l.length
    · simp [hj]
    · simp [hj]
  · simp [h]
theorem rdAll_len (u : Int) : ∀ (l : List Lk) (rd : List Bool), (rdAll u l rd).length = rd.length
  | [], _ => rfl
  | x :: l, rd => by
    show (rdAll u l (rdStep u rd x)).length = _
    rw [rdAll_len u l]
    unfold rdStep; split <;> simp
theorem wrAll_len (u : Int) : ∀ (l : List Lk) (wr : List Int), (wrAll u l wr).length = wr.length
  | [], _ => rfl
  | x :: l, wr => by
    show (wrAll u l (wrStep u wr x)).length = _
    rw [wrAll_len u l]
    unfold wrStep; split <;> simp
theorem rdAll_take {u : Int} {l : List Lk} {rd : List Bool} {k : Nat} (hk : k < l.length) : rdAll u (l.take (k + 1)) rd = rdStep u (rdAll u (l.take k) rd) l[k] := by
  rw [List.take_succ_eq_append_getElem hk]
  simp only [rdAll, List.foldl_append, List.foldl_cons, List.foldl_nil]
theorem wrAll_take {u : Int} {l : List Lk} {wr : List Int} {k : Nat} (hk : k < l.length) : wrAll u (l.take (k + 1)) wr = wrStep u (wrAll u (l.take k) wr) l[k] := by
  rw [List.take_succ_eq_append_getElem hk]
  simp only [wrAll, List.foldl_append, List.foldl_cons, List.foldl_nil]
theorem mine_cons (u : Int) (x : Lk) (l : List Lk) : mine u (x :: l) = if x.u == u then x :: mine u l else mine u l := by
  unfold mine; rw [List.filter_cons]

/-- A cell that no link reads into is as it was. -/
theorem rd_in (cs c : List Int) (u : Int) (i : Nat) : ∀ (l : List Lk) (rd : List Bool) (c1 : List Int), rd.length = c1.length → (rd.getD i false = false → c1.getD i 0 = c.getD i 0) → (rdAll u l rd).getD i false = false → (inAll cs (mine u l) c1).getD i 0 = c.getD i 0
  | [], rd, c1, _, h, hf => h hf
  | x :: l, rd, c1, hl, h, hf => by
    have hf' : (rdAll u l (rdStep u rd x)).getD i false = false := hf
    rw [mine_cons]
    cases hu : x.u == u with
    | false =>
      have e : rdStep u rd x = rd := by simp [rdStep, hu]
      rw [e] at hf'
      simpa using rd_in cs c u i l rd c1 hl h hf'
    | true =>
      simp only [if_true]
      show (inAll cs (mine u l) (inStep cs c1 x)).getD i 0 = _
      cases ho : x.o with
      | true =>
        have e : rdStep u rd x = rd := by simp [rdStep, ho]
        have e2 : inStep cs c1 x = c1 := by simp [inStep, ho]
        rw [e] at hf'
        rw [e2]
        exact rd_in cs c u i l rd c1 hl h hf'
      | false =>
        have e : rdStep u rd x = rd.set x.c.toNat true := by simp [rdStep, hu, ho]
        have e2 : inStep cs c1 x = c1.set x.c.toNat (inV cs x) := by simp [inStep, ho]
        rw [e] at hf'
        rw [e2]
        refine rd_in cs c u i l _ _ (by simp [hl]) ?_ hf'
        rw [getD_set, getD_set, hl]
        by_cases hh : x.c.toNat = i ∧ x.c.toNat < c1.length
        · rw [if_pos hh]; intro hx; cases hx
        · rw [if_neg hh, if_neg hh]; exact h

theorem wr_mono (u : Int) (j : Nat) : ∀ (l : List Lk) (wr : List Int), wr.getD j 0 ≤ (wrAll u l wr).getD j 0
  | [], wr => Int.le_refl _
  | x :: l, wr => by
    refine Int.le_trans ?_ (wr_mono u j l (wrStep u wr x))
    unfold wrStep
    split
    · rw [getD_set]; split
      · rename_i h; rw [h.1]; omega
      · exact Int.le_refl _
    · exact Int.le_refl _
theorem wr_max (u : Int) (j : Nat) : ∀ (l : List Lk) (wr : List Int), (wrAll u l wr).getD j 0 ≤ wr.getD j 0 + l.length
  | [], wr => by simp [wrAll]
  | x :: l, wr => by
    have h := wr_max u j l (wrStep u wr x)
    have h2 : (wrStep u wr x).getD j 0 ≤ wr.getD j 0 + 1 := by
      unfold wrStep
      split
      · rw [getD_set]; split
        · rename_i h; rw [h.1]; omega
        · omega
      · omega
    have h3 : (wrAll u (x :: l) wr).getD j 0 = (wrAll u l (wrStep u wr x)).getD j 0 := rfl
    rw [h3, List.length_cons]; omega

/-- A slot that no link writes is as it was. -/
theorem wr_keep (c : List Int) (u : Int) {j : Nat} : ∀ (l : List Lk) (wr cs : List Int), j < wr.length → (wrAll u l wr).getD j 0 ≤ wr.getD j 0 → (outAll c (mine u l) cs).getD j 0 = cs.getD j 0
  | [], _, _, _, _ => rfl
  | x :: l, wr, cs, hj, h => by
    have h' : (wrAll u l (wrStep u wr x)).getD j 0 ≤ wr.getD j 0 := h
    rw [mine_cons]
    cases hu : x.u == u with
    | false =>
      have e : wrStep u wr x = wr := by simp [wrStep, hu]
      rw [e] at h'
      simpa using wr_keep c u l wr cs hj h'
    | true =>
      simp only [if_true]
      show (outAll c (mine u l) (outStep c cs x)).getD j 0 = _
      cases ho : x.o with
      | false =>
        have e : wrStep u wr x = wr := by simp [wrStep, ho]
        have e2 : outStep c cs x = cs := by simp [outStep, ho]
        rw [e] at h'
        rw [e2]
        exact wr_keep c u l wr cs hj h'
      | true =>
        have e : wrStep u wr x = wr.set (pl x) (wr.getD (pl x) 0 + 1) := by simp [wrStep, hu, ho]
        have e2 : outStep c cs x = cs.set (pl x) (c.getD x.c.toNat 0) := by simp [outStep, ho, pl]
        rw [e] at h'
        by_cases hp : pl x = j
        · exfalso
          have hm := wr_mono u j l (wr.set (pl x) (wr.getD (pl x) 0 + 1))
          rw [getD_set, if_pos ⟨hp, by omega⟩, hp] at hm
          rw [hp] at h'
          omega
        · rw [e2, wr_keep c u l (wr.set (pl x) (wr.getD (pl x) 0 + 1)) _ (by simpa using hj) (by rw [getD_set, if_neg (fun hh => hp hh.1)]; exact h'), getD_set, if_neg (fun hh => hp hh.1)]

/-- A slot that one link alone writes has its cell. -/
theorem wr_one (c : List Int) (u : Int) {x : Lk} (hu : (x.u == u) = true) (ho : x.o = true) : ∀ (l : List Lk) (wr cs : List Int), pl x < wr.length → pl x < cs.length → 0 ≤ wr.getD (pl x) 0 → x ∈ l → (wrAll u l wr).getD (pl x) 0 ≤ 1 → (outAll c (mine u l) cs).getD (pl x) 0 = c.getD x.c.toNat 0
  | [], _, _, _, _, _, hx, _ => by cases hx
  | y :: l, wr, cs, hw, hc, h0, hx, h => by
    have h' : (wrAll u l (wrStep u wr y)).getD (pl x) 0 ≤ 1 := h
    rcases List.mem_cons.1 hx with e | hx
    · subst e
      have e : wrStep u wr x = wr.set (pl x) (wr.getD (pl x) 0 + 1) := by simp [wrStep, hu, ho]
      have e2 : outStep c cs x = cs.set (pl x) (c.getD x.c.toNat 0) := by simp [outStep, ho, pl]
      rw [mine_cons, hu]
      simp only [if_true]
      show (outAll c (mine u l) (outStep c cs x)).getD (pl x) 0 = _
      rw [e] at h'
      rw [e2, wr_keep c u l (wr.set (pl x) (wr.getD (pl x) 0 + 1)) _ (by simpa using hw) (by rw [getD_set, if_pos ⟨rfl, hw⟩]; omega), getD_set, if_pos ⟨rfl, hc⟩]
    · have hm : 0 ≤ (wrStep u wr y).getD (pl x) 0 := Int.le_trans h0 (by
        unfold wrStep
        split
        · rw [getD_set]; split
          · rename_i h; rw [h.1]; omega
          · exact Int.le_refl _
        · exact Int.le_refl _)
      have hl : (wrStep u wr y).length = wr.length := by unfold wrStep; split <;> simp
      rw [mine_cons]
      cases hy : y.u == u with
      | false => simpa using wr_one c u hu ho l _ cs (by omega) hc hm hx h'
      | true =>
        simp only [if_true]
        exact wr_one c u hu ho l _ _ (by omega) (by have : (outStep c cs y).length = cs.length := by { unfold outStep; split <;> simp }
                                                    omega) hm hx h'

theorem zimg_at (j : Nat) : zimg.getD j 0 = 0 := by
  unfold zimg
  simp only [List.getD, List.getElem?_replicate]
  split <;> rfl
theorem isV_at {c : List Int} (h : c.all isV = true) (i : Nat) : isV (c.getD i 0) = true := by
  rw [List.all_eq_true] at h
  rcases Nat.lt_or_ge i c.length with hi | hi
  · rw [getD_lt hi]; exact h _ (List.getElem_mem hi)
  · simp only [List.getD, List.getElem?_eq_none hi]; rfl
theorem outAll_V {c : List Int} (hc : c.all isV = true) : ∀ (l : List Lk) {cs : List Int}, cs.all isV = true → (outAll c l cs).all isV = true
  | [], _, h => h
  | x :: l, cs, h => by
    refine outAll_V hc l (cs := outStep c cs x) ?_
    unfold outStep
    split
    · rw [List.all_eq_true] at h ⊢
      intro y hy
      rcases List.mem_or_eq_of_mem_set hy with hy | rfl
      · exact h y hy
      · exact isV_at hc _
    · exact h

theorem dif_mem {ca cb : List Int} {p : Put3} : ∀ {k : Nat}, p ∈ dif ca cb k → ∃ j, j < k ∧ ca.getD j 0 ≠ cb.getD j 0 ∧ p = (((j / 64 + 1 : Nat) : Int), ((j % 64 : Nat) : Int), cb.getD j 0)
  | 0, h => by cases h
  | k + 1, h => by
    unfold dif at h
    rw [List.mem_append] at h
    rcases h with h | h
    · obtain ⟨j, hj, h2⟩ := dif_mem h
      exact ⟨j, by omega, h2⟩
    · split at h
      · cases h
      · rename_i hne
        exact ⟨k, by omega, hne, by simpa using h⟩

theorem pl_lt {x : Lk} (h : isP x.a x.s = true) : pl x < 192 := by
  have := isP_true h; unfold pl; omega

/- The list of what is read. -/
def bls (l : List Bool) : List AV := l.map AV.b
theorem bls_len (l : List Bool) : (bls l).length = l.length := by simp [bls]
theorem z75 (L : SumL) : (EL L).size 75 = some 1 := by show (Tryz.prog.info? 75).map _ = _; kernel_rfl
theorem z76 (L : SumL) : (EL L).size 76 = some 192 := by show (Tryz.prog.info? 76).map _ = _; kernel_rfl
theorem zi76 : zeroImg (zeroOf 76) = true := by kernel_rfl
theorem al76 {L : SumL} {a : AFr} {o : Oper} (h : o.op = .alloc 76) : allocA (EL L) a o = some (.cells (ints zimg) 0 0, fun n => .ptr n 0 0 192) := by
  obtain ⟨v, hv, hc⟩ : ∃ v, (EL L).zero 76 = some v ∧ v.cells.toList.map AV.v = ints zimg := by rw [zero_eq]; exact zeroImg_spec zi76
  have hvl : v.cells.toList.length = 192 := by have : (v.cells.toList.map AV.v).length = 192 := by rw [hc]; simp [ints, zimg_len]
                                               simpa using this
  simp only [allocA, h, hv, hc, hvl]
theorem ix76 {L : SumL} {o s : Nat} (hs : s < 192) : indexAddrA (EL L) 76 (.ptr o 0 0 192) (.i (s : Int)) = some (.ptr o s 0 1) := by
  have hneg : ¬ ((s : Int) < 0) := by omega
  simp [indexAddrA, und_eq, Tryz.underlying76, z3, hneg]
  omega
theorem zero4 (L : SumL) : (EL L).zero 4 = some (.bool false) := by
  show (match Tryz.prog.info? 4 with | some i => i.zero | none => none) = _
  kernel_rfl
theorem bytes4 : bytesIs 4 1 = true := by kernel_rfl
theorem inf4 (L : SumL) : ∃ i z, (EL L).inf 4 = some i ∧ i.zero = some z ∧ i.size = 1 ∧ z.cells.size = 1 ∧ i.bytes ≤ 65536 := infoOk_spec (show infoOk 4 1 = true by kernel_rfl)
theorem repl_eq (z : AV) : ∀ n, repl n [z] = List.replicate n z
  | 0 => rfl
  | n + 1 => by
    show [z] ++ repl n [z] = _
    rw [repl_eq z n]; rfl
theorem mk75 {L : SumL} {a : AFr} {o : Oper} {n : Nat} (h : o.op = .makeSlice 75 (.tmp 97) (.tmp 97)) (hg : a.get 97 = .i (n : Int)) (hn : n ≤ 400) :
    allocA (EL L) a o = some (.cells (bls (List.replicate n false)) 0 0, fun id => .sl id 0 n 0 1) := by
  obtain ⟨i, z, hi, hz, hsz, hzs, hbt⟩ := inf4 L
  have hby := bytesIs_spec bytes4 hi
  have h1 : (n : Int) ≤ 1099511627776 := by omega
  simp [allocA, h, und_eq, Tryz.underlying75, opd, hg, hi, zeros, zero4, Value.cells, repl_eq, hby, hsz, bls, h1]
theorem rd_bls {σ : St} {o : Nat} {rd : List Bool} (h : σ.get o = some (.cells (bls rd) 0 0)) {j : Nat} (hj : j < rd.length) : rdCells σ (.ptr o j 0 1) 1 = some [.b (rd.getD j false)] := by
  simp only [rdCells, h, bls_len]
  simp only [Nat.le_refl, if_true, decide_true, Bool.and_self, Bool.true_and, decide_eq_true_eq]
  rw [if_pos (by omega)]
  have : (rd.drop j).take 1 = [rd.getD j false] := by
    rw [List.drop_eq_getElem_cons hj, getD_lt hj]; rfl
  have e : ((bls rd).drop j).take 1 = bls ((rd.drop j).take 1) := by simp [bls]
  rw [e, this]; rfl
theorem ix75 {L : SumL} {o j n : Nat} (hj : j < n) : indexAddrA (EL L) 75 (.sl o 0 n 0 1) (.i (j : Int)) = some (.ptr o j 0 1) := by
  have hneg : ¬ ((j : Int) < 0) := by omega
  simp [indexAddrA, und_eq, Tryz.underlying75, z4, hneg, hj]
theorem splice_bls {rd : List Bool} {j : Nat} {v : Bool} (hj : j < rd.length) : splice (bls rd) j [.b v] = bls (rd.set j v) := by
  unfold splice
  simp only [List.length_singleton]
  rw [List.set_eq_take_append_cons_drop, if_pos hj]
  simp [bls]
theorem st4 {L : SumL} {σ : St} {o j : Nat} {rd : List Bool} {v : Bool} (h : σ.get o = some (.cells (bls rd) 0 0)) (hj : j < rd.length) : storeA (EL L) σ 4 (.ptr o j 0 1) (.b v) = some (σ.set o (.cells (bls (rd.set j v)) 0 0)) := by
  have hle : j + 1 ≤ (bls rd).length := by rw [bls_len]; omega
  simp [storeA, z4, AV.cells?, Value.cells, wrCells, AV.one, lone1, h, hle, splice_bls hj]
theorem len75 {L : SumL} {σ : St} {o n : Nat} : lenA (EL L) σ 75 (.sl o 0 n 0 1) = some (.i (n : Int)) := by
  simp [lenA, und_eq, Tryz.underlying75]

/-- The number of a slot. -/
theorem call34 {n : Nat} {L : SumL} {N ar s : Nat} (h1 : 1 ≤ ar) (h3 : ar ≤ 3) (hs : s < 64) {σ : St} : (evalK (EL L) N (n + 1)).call 34 [.i (ar : Int), .i (s : Int)] σ = some (.ret (.i (((ar - 1) * 64 + s : Nat) : Int)), σ) := by
  have hfn : (EL L).fn 34 = some Tryz.f34 := fnL Tryz.func34 rfl
  have hn : (frame0 Tryz.f34 [.i (ar : Int), .i (s : Int)]).n = 10 := rfl
  have g0 : (frame0 Tryz.f34 [.i (ar : Int), .i (s : Int)]).get 0 = .i (ar : Int) := rfl
  have g1 : (frame0 Tryz.f34 [.i (ar : Int), .i (s : Int)]).get 1 = .i (s : Int) := rfl
  have hd : (frame0 Tryz.f34 [.i (ar : Int), .i (s : Int)]).df = [] := rfl
  generalize hfr : frame0 Tryz.f34 [.i (ar : Int), .i (s : Int)] = a at hn g0 g1 hd
  have w1 : IntKind.i64.wrap ((ar : Int) - 1) = (ar : Int) - 1 := wrap_id (by omega) (by omega)
  have w2 : IntKind.i64.wrap (((ar : Int) - 1) * 64) = ((ar : Int) - 1) * 64 := wrap_id (by omega) (by omega)
  have w3 : IntKind.i64.wrap (((ar : Int) - 1) * 64 + (s : Int)) = (((ar - 1) * 64 + s : Nat) : Int) := by rw [wrap_id (by omega) (by omega)]; omega
  generalize (ar - 1) * 64 + s = q at w3 ⊢
  obtain ⟨a', e1, e2, e3⟩ : ∃ a', codeA (evalK (EL L) N n) (EL L) N none (fAt Tryz.f34 []) a σ = some (.ret, a', σ) ∧ a'.df = [] ∧ a'.get 4 = .i (q : Int) := by
    simp only [fAt, cAt, Tryz.f34]
    simp [code_region, code_seq, code_ret, opsA, oneA, wantedA, opA, kindOf, readA, uponA, AFr.put, get_set, n_set, df_set, opd, ar_add, ar_sub, ar_mul, hn, g0, g1, hd, w1, w2, w3]
  exact call_ret (x := .i (q : Int)) hfn (show Tryz.f34.body = some (fAt Tryz.f34 []) from rfl) (by rw [hfr]; exact e1) e2 (by simp [resultA, resultsA, Tryz.f34, e3])
end Go.Proofs.YtfmbpdacdopkgaaGreatDoor

namespace Go.Proofs.YtfmbpdacdopkgaaGreatDoor
set_option maxRecDepth 100000
open Go Go.Ai
open Go.RowKit (Below)

theorem Bx.ld2 {L : SumL} {cs : List Int} {u : Int} {w : AV} {σ : St} (h : Bx cs u w σ) : loadA (EL L) σ 3 (.ptr 1 0 0 1) = some (.i u) ∧ loadA (EL L) σ 38 (.ptr 1 1 0 1) = some w :=
  ⟨load_one (agg3 L) (by simp [rdCells, h.m1]), load_one (agg38 L) (by simp [rdCells, h.m1])⟩

noncomputable def in7a : Code := fAt Tryz.f7 [1, 1, 0, 1, 0, 0]
structure In7a (l : List Lk) (x1 : AV) (u : Int) (m : Nat) (σ0 : St) (k : Nat) (a : AFr) (σ : St) : Prop where
  n : a.n = 227
  d : a.df = []
  g0 : a.get 0 = x1
  g4 : a.get 4 = .ptr 0 0 0 192
  g5 : a.get 5 = .ptr 1 0 0 2
  g41 : a.get 41 = x1
  g42 : a.get 42 = .i (l.length : Int)
  g43 : a.get 43 = .i (k : Int)
  ok : thereT (l.take k) u m = true
  kp : Keep σ0.next σ0 σ

theorem in7a_step {K : Kont} {N : Nat} {l : List Lk} {c cs : List Int} {x1 w : AV} {u : Int} {σ0 : St} (h1 : Arg 6 x1 (lcs l)) (h2 : Arg 1 w (ones c)) (hbx : ∀ τ, Keep σ0.next σ0 τ → Bx cs u w τ) (hl : l.length ≤ 400) {k : Nat} (hk : k < l.length) {a : AFr} {σ : St} (h : In7a l x1 u c.length σ0 k a σ) :
    (∃ a' σ', codeA K (EL L5) N none in7a a σ = some (.normal, a', σ') ∧ In7a l x1 u c.length σ0 (k + 1) a' σ') ∨ ∃ a' σ', codeA K (EL L5) N none in7a a σ = some (.ret, a', σ') ∧ a'.df = [] ∧ a'.get 6 = .b true ∧ thereT l u c.length = false := by
  obtain ⟨hn, hd, g0, g4, g5, g41, g42, g43, ok, kp⟩ := h
  have hlt : (k : Int) < (l.length : Int) := by omega
  obtain ⟨p, hp, hr⟩ := (h1 σ).at (E := EL L5) (t := 34) (el := 74) Tryz.underlying34 (z74 L5) (lcs_at hk) (k := .i64)
  have hld := load_agg (agg74 L5) (z74 L5) hr
  have hw := wrap_nat (n := k) (by omega)
  have htt := there_take (u := u) (m := c.length) hk
  have htf := there_false (u := u) (m := c.length) hk
  generalize hz : l[k] = z at hld htt
  have kle := kp.le
  obtain ⟨τ, -, hst, nτ, oτ, gp, m0, m1, m2, m3, m4, m5, ma⟩ := lay74 (L := L5) (σ := σ) z
  obtain ⟨k0, k1, -⟩ := fa74s (L := L5) (o := σ.next)
  obtain ⟨w0, w1⟩ := fa40s (L := L5) (o := 1)
  have kτ : Keep σ0.next σ0 τ := keep_nx kp (by omega) (by omega) oτ
  obtain ⟨lu, lw⟩ := (hbx τ kτ).ld2 (L := L5)
  have hlen := (h2 τ).len (E := EL L5) (t := 38) (el := 3) Tryz.underlying38
  rw [ones_len] at hlen
  have q12 : sumOf L5 12 = some S12 := rfl
  have s12 : S12 [] = some (.b true) := rfl
  by_cases hu : z.u = u
  · have hu2 : (z.u == u) = true := by simpa using hu
    rw [hu2] at htt
    by_cases hcl : (c.length : Int) ≤ z.c
    · right
      rw [ok] at htt
      have htl := htf (by rw [htt]; simp [hcl])
      rw [htl]
      simp only [in7a, fAt, cAt, Tryz.f7]
      simp [code_skip, code_region, code_seq, code_cond, code_block, code_ret, opsA, oneA, wantedA, opA, kindOf, readA, uponA, writeA, AFr.put, get_set, n_set, df_set, opd, callee?, callA, cmp_lss, cmp_geq, eq_int, hn, hd, g5, g41, g42, g43, hlt, hp, hld, al74, hst, k0, k1, w0, w1, lu, lw, hlen, m0, m1, hu2, hcl, sum_eq, q12, s12]
    · left
      simp only [in7a, fAt, cAt, Tryz.f7]
      simp [code_skip, code_region, code_seq, code_cond, code_block, opsA, oneA, wantedA, opA, kindOf, readA, uponA, writeA, AFr.put, get_set, n_set, opd, cmp_lss, cmp_geq, ar_add, eq_int, ex2, hn, g5, g41, g42, g43, hlt, hp, hld, al74, hst, k0, k1, w0, w1, lu, lw, hlen, m0, m1, hu2, hcl, hw]
      exact ⟨by simp [n_set, hn], by simp [df_set, hd], by simp [get_set, g0], by simp [get_set, g4], by simp [get_set, g5], by simp [get_set, g41], by simp [get_set, g42], by simp [get_set], by rw [htt, ok]; simp [hcl], kτ⟩
  · left
    have hu2 : (z.u == u) = false := by simpa using hu
    rw [hu2] at htt
    simp only [in7a, fAt, cAt, Tryz.f7]
    simp [code_skip, code_region, code_seq, code_cond, code_block, opsA, oneA, wantedA, opA, kindOf, readA, uponA, writeA, AFr.put, get_set, n_set, opd, cmp_lss, ar_add, eq_int, ex2, hn, g5, g41, g42, g43, hlt, hp, hld, al74, hst, k0, w0, lu, m0, hu2, hw]
    exact ⟨by simp [n_set, hn], by simp [df_set, hd], by simp [get_set, g0], by simp [get_set, g4], by simp [get_set, g5], by simp [get_set, g41], by simp [get_set, g42], by simp [get_set], by rw [htt, ok]; rfl, kτ⟩

noncomputable def in7b : Code := fAt Tryz.f7 [1, 1, 1, 1, 1, 1, 1, 1, 0, 1, 0, 0]
structure In7b (l : List Lk) (x1 y : AV) (u : Int) (m q b : Nat) (σ0 : St) (k : Nat) (a : AFr) (σ : St) : Prop where
  n : a.n = 227
  d : a.df = []
  g0 : a.get 0 = x1
  g4 : a.get 4 = .ptr 0 0 0 192
  g5 : a.get 5 = .ptr 1 0 0 2
  g9 : a.get 9 = y
  g11 : a.get 11 = .ptr q 0 0 192
  g13 : a.get 13 = .sl b 0 m 0 1
  g14 : a.get 14 = .ptr (b + 1) 0 0 192
  g99 : a.get 99 = x1
  g100 : a.get 100 = .i (l.length : Int)
  g101 : a.get 101 = .i (k : Int)
  mr : σ.get b = some (.cells (bls (rdAll u (l.take k) (List.replicate m false))) 0 0)
  mw : σ.get (b + 1) = some (.cells (ints (wrAll u (l.take k) zimg)) 0 0)
  nx : b + 2 ≤ σ.next
  kp : Keep b σ0 σ

theorem in7b_step {n : Nat} {N : Nat} {l : List Lk} {c cs : List Int} {x1 y w : AV} {u : Int} {q b : Nat} {σ0 : St} (h1 : Arg 6 x1 (lcs l)) (hbx : ∀ τ, Keep b σ0 τ → Bx cs u w τ) (_hb : σ0.next = b) (hl : l.length ≤ 400) (hlk : linked l = true) (hth : thereT l u c.length = true) {k : Nat} (hk : k < l.length) {a : AFr} {σ : St} (h : In7b l x1 y u c.length q b σ0 k a σ) :
    ∃ a' σ', codeA (evalK (EL L5) N (n + 1)) (EL L5) N none in7b a σ = some (.normal, a', σ') ∧ In7b l x1 y u c.length q b σ0 (k + 1) a' σ' := by
  obtain ⟨hn, hd, g0, g4, g5, g9, g11, g13, g14, g99, g100, g101, mr, mw, nx, kp⟩ := h
  have hlt : (k : Int) < (l.length : Int) := by omega
  obtain ⟨p, hp, hr⟩ := (h1 σ).at (E := EL L5) (t := 34) (el := 74) Tryz.underlying34 (z74 L5) (lcs_at hk) (k := .i64)
  have hld := load_agg (agg74 L5) (z74 L5) hr
  have hw := wrap_nat (n := k) (by omega)
  have hrt := rdAll_take (u := u) (rd := List.replicate c.length false) hk
  have hwt := wrAll_take (u := u) (wr := zimg) hk
  have hrl := rdAll_len u (l.take k) (List.replicate c.length false)
  have hwl := wrAll_len u (l.take k) zimg
  rw [List.length_replicate] at hrl
  rw [zimg_len] at hwl
  obtain ⟨hpz, hc0, -⟩ := link_ok hlk (List.getElem_mem hk)
  have hcz : l[k].u = u → l[k].c < c.length := fun he => (mine_ok hlk hth (x := l[k]) (by unfold mine; rw [List.mem_filter]; exact ⟨List.getElem_mem hk, by simpa using he⟩)).2.2
  have hbd : ∀ j, 0 ≤ (wrAll u (l.take k) zimg).getD j 0 ∧ (wrAll u (l.take k) zimg).getD j 0 ≤ 400 := fun j => by
    have e1 := wr_mono u j (l.take k) zimg
    have e2 := wr_max u j (l.take k) zimg
    have e3 := zimg_at j
    have e4 : (l.take k).length ≤ 400 := by rw [List.length_take]; omega
    constructor <;> omega
  generalize hz : l[k] = z at hld hrt hwt hpz hc0 hcz
  generalize rdAll u (l.take k) (List.replicate c.length false) = rd at mr hrt hrl
  generalize wrAll u (l.take k) zimg = wr at mw hwt hwl hbd
  have kle := kp.le
  obtain ⟨τ, -, hst, nτ, oτ, gp, m0, m1, m2, m3, m4, m5, ma⟩ := lay74 (L := L5) (σ := σ) z
  obtain ⟨k0, k1, k2, k3, k4, k5⟩ := fa74s (L := L5) (o := σ.next)
  obtain ⟨w0, w1⟩ := fa40s (L := L5) (o := 1)
  have kτ : Keep b σ0 τ := keep_nx kp (by omega) (by omega) oτ
  obtain ⟨lu, lw⟩ := (hbx τ kτ).ld2 (L := L5)
  have mrτ : τ.get b = some (.cells (bls rd) 0 0) := (oτ b (by omega)).trans mr
  have mwτ : τ.get (b + 1) = some (.cells (ints wr) 0 0) := (oτ (b + 1) (by omega)).trans mw
  by_cases hu : z.u = u
  · have hu2 : (z.u == u) = true := by simpa using hu
    have hu3 : (z.u != u) = false := by simpa using hu
    cases ho : z.o with
    | true =>
      rw [ho] at hst hld m5
      have hrt' : rdAll u (l.take (k + 1)) (List.replicate c.length false) = rd := by rw [hrt]; simp [rdStep, ho]
      have hwt' : wrAll u (l.take (k + 1)) zimg = wr.set (pl z) (wr.getD (pl z) 0 + 1) := by rw [hwt]; simp [wrStep, hu2, ho]
      have hP := isP_true hpz
      have hpl := pl_lt hpz
      have ea : z.a = (z.a.toNat : Int) := by omega
      have es : z.s = (z.s.toNat : Int) := by omega
      have c34 := call34 (n := n) (L := L5) (N := N) (ar := z.a.toNat) (s := z.s.toNat) (σ := τ) (by omega) (by omega) (by omega)
      have f34 : (EL L5).fn 34 = some Tryz.f34 := fnL Tryz.func34 rfl
      have q34 : sumOf L5 34 = none := rfl
      have hpe : pl z = (z.a.toNat - 1) * 64 + z.s.toNat := rfl
      rw [← hpe] at c34
      have hi := ix76 (L := L5) (o := b + 1) hpl
      have hlw := load_one (agg3 L5) (rd_ints mwτ (j := pl z) (by omega))
      have hws := st3 (L := L5) (σ := τ) (o := b + 1) (j := pl z) (v := wr.getD (pl z) 0 + 1) mwτ (by omega)
      obtain ⟨b0, b4⟩ := hbd (pl z)
      generalize pl z = j at c34 hi hlw hws hwt' b0 b4 hpl
      rw [ea] at m3
      rw [es] at m4
      generalize z.a.toNat = ar at m3 c34
      generalize z.s.toNat = sl at m4 c34
      generalize wr.getD j 0 = v at hlw hws hwt' b0 b4
      have hwv : IntKind.i64.wrap (v + 1) = v + 1 := wrap_id (by omega) (by omega)
      simp only [in7b, fAt, cAt, Tryz.f7]
      simp [code_skip, code_region, code_seq, code_cond, code_block, opsA, oneA, wantedA, opA, kindOf, readA, uponA, writeA, AFr.put, get_set, n_set, opd, callee?, callA, cmp_lss, ar_add, ne_int, ex2, hn, g5, g14, g99, g100, g101, hlt, hp, hld, al74, hst, k0, k3, k4, k5, w0, lu, m0, m3, m4, m5, hu3, sum_eq, q34, f34, c34, hi, hlw, hwv, hws, hw]
      exact ⟨by simp [n_set, hn], by simp [df_set, hd], by simp [get_set, g0], by simp [get_set, g4], by simp [get_set, g5], by simp [get_set, g9], by simp [get_set, g11], by simp [get_set, g13], by simp [get_set, g14], by simp [get_set, g99], by simp [get_set, g100], by simp [get_set], by rw [hrt', get_sset, if_neg (by omega)]; exact mrτ, by rw [hwt', get_sset, if_pos rfl], by rw [next_set]; omega, kτ.trans (Keep.set (b := b) _ (by omega)) (Nat.le_refl _)⟩
    | false =>
      rw [ho] at hst hld m5
      have hrt' : rdAll u (l.take (k + 1)) (List.replicate c.length false) = rd.set z.c.toNat true := by rw [hrt]; simp [rdStep, hu2, ho]
      have hwt' : wrAll u (l.take (k + 1)) zimg = wr := by rw [hwt]; simp [wrStep, ho]
      have hcl := hcz hu
      have ec : z.c = (z.c.toNat : Int) := by omega
      have hi := ix75 (L := L5) (o := b) (j := z.c.toNat) (n := c.length) (by omega)
      have hws := st4 (L := L5) (σ := τ) (o := b) (j := z.c.toNat) (v := true) mrτ (by omega)
      rw [ec] at m1
      generalize z.c.toNat = j at m1 hi hws hrt'
      simp only [in7b, fAt, cAt, Tryz.f7]
      simp [code_skip, code_region, code_seq, code_cond, code_block, opsA, oneA, wantedA, opA, kindOf, readA, uponA, writeA, AFr.put, get_set, n_set, opd, cmp_lss, ar_add, ne_int, ex2, hn, g5, g13, g99, g100, g101, hlt, hp, hld, al74, hst, k0, k1, k5, w0, lu, m0, m1, m5, hu3, hi, hws, hw]
      exact ⟨by simp [n_set, hn], by simp [df_set, hd], by simp [get_set, g0], by simp [get_set, g4], by simp [get_set, g5], by simp [get_set, g9], by simp [get_set, g11], by simp [get_set, g13], by simp [get_set, g14], by simp [get_set, g99], by simp [get_set, g100], by simp [get_set], by rw [hrt', get_sset, if_pos rfl], by rw [hwt', get_sset, if_neg (by omega)]; exact mwτ, by rw [next_set]; omega, kτ.trans (Keep.set (b := b) _ (by omega)) (Nat.le_refl _)⟩
  · have hu2 : (z.u == u) = false := by simpa using hu
    have hu3 : (z.u != u) = true := by simpa using hu
    have hrt' : rdAll u (l.take (k + 1)) (List.replicate c.length false) = rd := by rw [hrt]; simp [rdStep, hu2]
    have hwt' : wrAll u (l.take (k + 1)) zimg = wr := by rw [hwt]; simp [wrStep, hu2]
    simp only [in7b, fAt, cAt, Tryz.f7]
    simp [code_skip, code_region, code_seq, code_cond, code_block, code_exit, opsA, oneA, wantedA, opA, kindOf, readA, uponA, writeA, AFr.put, get_set, n_set, opd, cmp_lss, ar_add, ne_int, ex2, hn, g5, g99, g100, g101, hlt, hp, hld, al74, hst, k0, w0, lu, m0, hu3, hw]
    exact ⟨by simp [n_set, hn], by simp [df_set, hd], by simp [get_set, g0], by simp [get_set, g4], by simp [get_set, g5], by simp [get_set, g9], by simp [get_set, g11], by simp [get_set, g13], by simp [get_set, g14], by simp [get_set, g99], by simp [get_set, g100], by simp [get_set], by rw [hrt']; exact mrτ, by rw [hwt']; exact mwτ, by omega, kτ⟩
end Go.Proofs.YtfmbpdacdopkgaaGreatDoor

namespace Go.Proofs.YtfmbpdacdopkgaaGreatDoor
set_option maxRecDepth 100000
open Go Go.Ai
open Go.RowKit (Below)

noncomputable def in7c : Code := fAt Tryz.f7 [1, 1, 1, 1, 1, 1, 1, 1, 1, 0, 1, 0, 0]
structure In7c (x1 y : AV) (m q b k : Nat) (a : AFr) : Prop where
  n : a.n = 227
  d : a.df = []
  g0 : a.get 0 = x1
  g4 : a.get 4 = .ptr 0 0 0 192
  g5 : a.get 5 = .ptr 1 0 0 2
  g9 : a.get 9 = y
  g11 : a.get 11 = .ptr q 0 0 192
  g13 : a.get 13 = .sl b 0 m 0 1
  g14 : a.get 14 = .ptr (b + 1) 0 0 192
  g126 : a.get 126 = y
  g127 : a.get 127 = .i (m : Int)
  g128 : a.get 128 = .i (k : Int)

theorem in7c_step {K : Kont} {N : Nat} {c cs R : List Int} {rd : List Bool} {x1 y w : AV} {u : Int} {q b : Nat} {σ : St} (h2 : Arg 1 w (ones c)) (hbx : Bx cs u w σ) (hy : SlAt σ 1 y (ones R)) (hR : R.length = c.length) (hrd : rd.length = c.length) (mr : σ.get b = some (.cells (bls rd) 0 0)) (hc : c.length ≤ 400)
    (hk0 : ∀ i, rd.getD i false = false → R.getD i 0 = c.getD i 0) {k : Nat} (hk : k < c.length) {a : AFr} (h : In7c x1 y c.length q b k a) :
    ∃ a', codeA K (EL L5) N none in7c a σ = some (.normal, a', σ) ∧ In7c x1 y c.length q b (k + 1) a' := by
  obtain ⟨hn, hd, g0, g4, g5, g9, g11, g13, g14, g126, g127, g128⟩ := h
  have hlt : (k : Int) < (c.length : Int) := by omega
  have hw := wrap_nat (n := k) (by omega)
  have hkR : k < R.length := by omega
  obtain ⟨p, hp, hr⟩ := hy.at (E := EL L5) (t := 38) (el := 3) Tryz.underlying38 (z3 L5) (ones_at hkR) (k := .i64)
  obtain ⟨p', hp', hr'⟩ := (h2 σ).at (E := EL L5) (t := 38) (el := 3) Tryz.underlying38 (z3 L5) (ones_at hk) (k := .i64)
  have hl := load_one (agg3 L5) hr
  have hl' := load_one (agg3 L5) hr'
  have hkk := hk0 k
  rw [getD_lt hkR, getD_lt hk] at hkk
  obtain ⟨w0, w1⟩ := fa40s (L := L5) (o := 1)
  obtain ⟨lu, lw⟩ := hbx.ld2 (L := L5)
  have hi := ix75 (L := L5) (o := b) hk
  have hlb := load_one (agg4 L5) (rd_bls mr (j := k) (by omega))
  cases hb : rd.getD k false with
  | true =>
    rw [hb] at hlb
    simp only [in7c, fAt, cAt, Tryz.f7]
    simp [code_skip, code_region, code_draw, code_seq, code_cond, code_block, opsA, oneA, wantedA, opA, kindOf, readA, uponA, AFr.put, get_set, n_set, opd, cmp_lss, ar_add, un_not, regionA, dops, dopsGo, befOf, Region.binds, drawOk, nodupB, hasDefer, eager, drawA, dim, unord, sameIn, chk, beq_self, Nat.testBit, hn, g13, g127, g128, hlt, hi, hlb, hw]
    exact ⟨by simp [n_set, hn], by simp [df_set, hd], by simp [get_set, g0], by simp [get_set, g4], by simp [get_set, g5], by simp [get_set, g9], by simp [get_set, g11], by simp [get_set, g13], by simp [get_set, g14], by simp [get_set, g126], by simp [get_set, g127], by simp [get_set]⟩
  | false =>
    rw [hb] at hlb
    rw [hkk hb] at hl
    simp only [in7c, fAt, cAt, Tryz.f7]
    simp [code_skip, code_region, code_draw, code_seq, code_cond, code_block, opsA, oneA, wantedA, opA, kindOf, readA, uponA, AFr.put, get_set, n_set, opd, cmp_lss, ar_add, un_not, ne_int, regionA, dops, dopsGo, befOf, Region.binds, drawOk, nodupB, hasDefer, eager, drawA, dim, unord, sameIn, chk, beq_self, Nat.testBit, hn, g5, g9, g13, g127, g128, hlt, hp, hl, hp', hl', w1, lw, hi, hlb, hw]
    exact ⟨by simp [n_set, hn], by simp [df_set, hd], by simp [get_set, g0], by simp [get_set, g4], by simp [get_set, g5], by simp [get_set, g9], by simp [get_set, g11], by simp [get_set, g13], by simp [get_set, g14], by simp [get_set, g126], by simp [get_set, g127], by simp [get_set]⟩

noncomputable def in7d : Code := fAt Tryz.f7 [1, 1, 1, 1, 1, 1, 1, 1, 1, 1, 1, 1, 0, 1, 0, 0]
structure In7d (x1 y : AV) (m q b : Nat) (σ0 : St) (k : Nat) (a : AFr) (σ : St) : Prop where
  n : a.n = 227
  d : a.df = []
  g0 : a.get 0 = x1
  g5 : a.get 5 = .ptr 1 0 0 2
  g11 : a.get 11 = .ptr q 0 0 192
  g14 : a.get 14 = .ptr (b + 1) 0 0 192
  g157 : a.get 157 = y
  g158 : a.get 158 = .i (m : Int)
  g159 : a.get 159 = .i (k : Int)
  kp : Keep σ0.next σ0 σ

theorem in7d_step {n : Nat} {N : Nat} {ds : List Put3} {wr : List Int} {x1 y : AV} {q b : Nat} {σ0 : St} (hy : ∀ τ, Keep σ0.next σ0 τ → SlAt τ 3 y (pcs ds)) (hm : ∀ τ, Keep σ0.next σ0 τ → τ.get (b + 1) = some (.cells (ints wr) 0 0)) (hwr : wr.length = 192) (hds : ds.length ≤ 192)
    (hok : ∀ p, p ∈ ds → ∃ j v, j < 192 ∧ wr.getD j 0 ≠ 0 ∧ p = (((j / 64 + 1 : Nat) : Int), ((j % 64 : Nat) : Int), v)) {k : Nat} (hk : k < ds.length) {a : AFr} {σ : St} (h : In7d x1 y ds.length q b σ0 k a σ) :
    ∃ a' σ', codeA (evalK (EL L5) N (n + 1)) (EL L5) N none in7d a σ = some (.normal, a', σ') ∧ In7d x1 y ds.length q b σ0 (k + 1) a' σ' := by
  obtain ⟨hn, hd, g0, g5, g11, g14, g157, g158, g159, kp⟩ := h
  have hlt : (k : Int) < (ds.length : Int) := by omega
  have hw := wrap_nat (n := k) (by omega)
  obtain ⟨p, hp, hr⟩ := (hy σ kp).at (E := EL L5) (t := 55) (el := 79) Tryz.underlying55 (z79 L5) (pcs_at hk) (k := .i64)
  have hld := load_agg (agg79 L5) (z79 L5) hr
  obtain ⟨j, v, hj, hne, hpe⟩ := hok _ (List.getElem_mem hk)
  rw [hpe] at hld
  have h1 : 1 ≤ j / 64 + 1 := by omega
  have h3 : j / 64 + 1 ≤ 3 := by omega
  have hs : j % 64 < 64 := by omega
  have hidx : (j / 64 + 1 - 1) * 64 + j % 64 = j := by omega
  have hst := st79 (L := L5) (σ := σ.add (.cells [.i 0, .i 0, .i 0] 0 0)) (o := σ.next) (x := .i ((j / 64 + 1 : Nat) : Int)) (y := .i ((j % 64 : Nat) : Int)) (z := .i v) (St.get_add_same _ _) rfl rfl rfl
  have hip : isP ((j / 64 + 1 : Nat) : Int) ((j % 64 : Nat) : Int) = true := by simp [isP]; omega
  generalize j / 64 + 1 = ar at h1 h3 hidx hst hip hld
  generalize j % 64 = sl at hs hidx hst hip hld
  have gp : ((σ.add (.cells [.i 0, .i 0, .i 0] 0 0)).set σ.next (.cells [.i (ar : Int), .i (sl : Int), .i v] 0 0)).get σ.next = some (.cells [.i (ar : Int), .i (sl : Int), .i v] 0 0) := by rw [get_sset, if_pos rfl]
  have kτ : Keep σ0.next σ0 ((σ.add (.cells [.i 0, .i 0, .i 0] 0 0)).set σ.next (.cells [.i (ar : Int), .i (sl : Int), .i v] 0 0)) := keep_nx kp kp.le (by rw [next_set, next_add]; omega) fun o ho => by rw [get_sset, if_neg (by omega), get_sadd, if_neg (by omega)]
  generalize (σ.add (.cells [.i 0, .i 0, .i 0] 0 0)).set σ.next (.cells [.i (ar : Int), .i (sl : Int), .i v] 0 0) = τ at hst gp kτ
  have k0 : fieldAddrA (EL L5) 79 (.ptr σ.next 0 0 3) 0 = some (.ptr σ.next 0 0 1) := (fa79 (by omega) (by omega)).trans (by simp)
  have k1 : fieldAddrA (EL L5) 79 (.ptr σ.next 0 0 3) 1 = some (.ptr σ.next 1 0 1) := (fa79 (by omega) (by omega)).trans (by simp)
  have m0 : loadA (EL L5) τ 3 (.ptr σ.next 0 0 1) = some (.i (ar : Int)) := load_one (agg3 L5) (by simp [rdCells, gp])
  have m1 : loadA (EL L5) τ 3 (.ptr σ.next 1 0 1) = some (.i (sl : Int)) := load_one (agg3 L5) (by simp [rdCells, gp])
  have c34 := call34 (n := n) (L := L5) (N := N) (σ := τ) h1 h3 hs
  rw [hidx] at c34
  have f34 : (EL L5).fn 34 = some Tryz.f34 := fnL Tryz.func34 rfl
  have q34 : sumOf L5 34 = none := rfl
  have q11 : sumOf L5 11 = some S36 := rfl
  have s11 : S36 [.i (ar : Int), .i (sl : Int)] = some (.b true) := by simp [S36, hip]
  have hi := ix76 (L := L5) (o := b + 1) hj
  have hlw := load_one (agg3 L5) (rd_ints (hm τ kτ) (j := j) (by omega))
  generalize wr.getD j 0 = e at hlw hne
  have he : (e == 0) = false := by simpa using hne
  simp only [in7d, fAt, cAt, Tryz.f7]
  simp [code_skip, code_region, code_seq, code_cond, code_block, opsA, oneA, wantedA, opA, kindOf, readA, uponA, writeA, AFr.put, get_set, n_set, opd, callee?, callA, cmp_lss, ar_add, un_not, eq_int, ex2, hn, g14, g157, g158, g159, hlt, hp, hld, al79, hst, k0, k1, m0, m1, sum_eq, q11, s11, q34, f34, c34, hi, hlw, he, hw]
  exact ⟨by simp [n_set, hn], by simp [df_set, hd], by simp [get_set, g0], by simp [get_set, g5], by simp [get_set, g11], by simp [get_set, g14], by simp [get_set, g157], by simp [get_set, g158], by simp [get_set], kτ⟩

noncomputable def in7e : Code := fAt Tryz.f7 [1, 1, 1, 1, 1, 1, 1, 1, 1, 1, 1, 1, 1, 0, 1, 0, 0]
structure In7e (x1 : AV) (m q b : Nat) (σ0 : St) (k : Nat) (a : AFr) (σ : St) : Prop where
  n : a.n = 227
  d : a.df = []
  g5 : a.get 5 = .ptr 1 0 0 2
  g11 : a.get 11 = .ptr q 0 0 192
  g14 : a.get 14 = .ptr (b + 1) 0 0 192
  g178 : a.get 178 = x1
  g179 : a.get 179 = .i (m : Int)
  g180 : a.get 180 = .i (k : Int)
  kp : Keep σ0.next σ0 σ

set_option maxHeartbeats 1000000 in
theorem in7e_step {n : Nat} {N : Nat} {l : List Lk} {c cs nn wr : List Int} {x1 w : AV} {u : Int} {q b : Nat} {σ0 : St} (h1 : Arg 6 x1 (lcs l)) (h2 : Arg 1 w (ones c)) (hbx : ∀ τ, Keep σ0.next σ0 τ → Bx cs u w τ) (hm : ∀ τ, Keep σ0.next σ0 τ → τ.get (b + 1) = some (.cells (ints wr) 0 0)) (hq : ∀ τ, Keep σ0.next σ0 τ → τ.get q = some (.cells (ints nn) 0 0))
    (hwr : wr.length = 192) (hnn : nn.length = 192) (hnv : nn.all isV = true) (hl : l.length ≤ 400) (hlk : linked l = true) (hth : thereT l u c.length = true) (hval : ∀ x, x ∈ l → (x.u == u) = true → x.o = true → wr.getD (pl x) 0 ≤ 1 → nn.getD (pl x) 0 = c.getD x.c.toNat 0) {k : Nat} (hk : k < l.length) {a : AFr} {σ : St} (h : In7e x1 l.length q b σ0 k a σ) :
    ∃ a' σ', codeA (evalK (EL L5) N (n + 1)) (EL L5) N none in7e a σ = some (.normal, a', σ') ∧ In7e x1 l.length q b σ0 (k + 1) a' σ' := by
  obtain ⟨hn, hd, g5, g11, g14, g178, g179, g180, kp⟩ := h
  have hlt : (k : Int) < (l.length : Int) := by omega
  have hw := wrap_nat (n := k) (by omega)
  obtain ⟨p, hp, hr⟩ := (h1 σ).at (E := EL L5) (t := 34) (el := 74) Tryz.underlying34 (z74 L5) (lcs_at hk) (k := .i64)
  have hld := load_agg (agg74 L5) (z74 L5) hr
  obtain ⟨hpz, hc0, -⟩ := link_ok hlk (List.getElem_mem hk)
  have hcz : l[k].u = u → l[k].c < c.length := fun he => (mine_ok hlk hth (x := l[k]) (by unfold mine; rw [List.mem_filter]; exact ⟨List.getElem_mem hk, by simpa using he⟩)).2.2
  have hvz := hval _ (List.getElem_mem hk)
  generalize hz : l[k] = z at hld hpz hc0 hcz hvz
  have kle := kp.le
  obtain ⟨τ, -, hst, nτ, oτ, gp, m0, m1, m2, m3, m4, m5, ma⟩ := lay74 (L := L5) (σ := σ) z
  obtain ⟨k0, k1, k2, k3, k4, k5⟩ := fa74s (L := L5) (o := σ.next)
  obtain ⟨w0, w1⟩ := fa40s (L := L5) (o := 1)
  have kτ : Keep σ0.next σ0 τ := keep_nx kp (by omega) (by omega) oτ
  obtain ⟨lu, lw⟩ := (hbx τ kτ).ld2 (L := L5)
  cases ho : z.o with
  | false =>
    rw [ho] at hst hld m5
    simp only [in7e, fAt, cAt, Tryz.f7]
    simp [code_skip, code_region, code_seq, code_cond, code_block, code_exit, opsA, oneA, wantedA, opA, kindOf, readA, uponA, writeA, AFr.put, get_set, n_set, opd, cmp_lss, ar_add, un_not, ex2, hn, g178, g179, g180, hlt, hp, hld, al74, hst, k5, m5, hw]
    exact ⟨by simp [n_set, hn], by simp [df_set, hd], by simp [get_set, g5], by simp [get_set, g11], by simp [get_set, g14], by simp [get_set, g178], by simp [get_set, g179], by simp [get_set], kτ⟩
  | true =>
    rw [ho] at hst hld m5
    by_cases hu : z.u = u
    · have hu2 : (z.u == u) = true := by simpa using hu
      have hu3 : (z.u != u) = false := by simpa using hu
      have hP := isP_true hpz
      have hpl := pl_lt hpz
      have ea : z.a = (z.a.toNat : Int) := by omega
      have es : z.s = (z.s.toNat : Int) := by omega
      have c34 := call34 (n := n) (L := L5) (N := N) (ar := z.a.toNat) (s := z.s.toNat) (σ := τ) (by omega) (by omega) (by omega)
      have f34 : (EL L5).fn 34 = some Tryz.f34 := fnL Tryz.func34 rfl
      have q34 : sumOf L5 34 = none := rfl
      have hpe : pl z = (z.a.toNat - 1) * 64 + z.s.toNat := rfl
      rw [← hpe] at c34
      have hi := ix76 (L := L5) (o := b + 1) hpl
      have hlw := load_one (agg3 L5) (rd_ints (hm τ kτ) (j := pl z) (by omega))
      have hvz := hvz hu2 ho
      have s27 := S27_eq hnn z.a z.s
      simp only [getS, hnv, hpz, if_true] at s27
      rw [← hpe] at s27
      generalize pl z = j at c34 hi hlw hpl hvz s27
      have q27 : sumOf L5 27 = some S27 := rfl
      rw [← ea, ← es] at c34
      generalize wr.getD j 0 = e at hlw hvz
      by_cases he : 1 < e
      · simp only [in7e, fAt, cAt, Tryz.f7]
        simp [code_skip, code_region, code_seq, code_cond, code_block, code_exit, opsA, oneA, wantedA, opA, kindOf, readA, uponA, writeA, AFr.put, get_set, n_set, opd, callee?, callA, cmp_lss, cmp_gtr, ar_add, un_not, ne_int, ex2, hn, g5, g14, g178, g179, g180, hlt, hp, hld, al74, hst, k0, k3, k4, k5, m0, m3, m4, m5, w0, lu, hu3, sum_eq, q34, f34, c34, hi, hlw, he, hw]
        exact ⟨by simp [n_set, hn], by simp [df_set, hd], by simp [get_set, g5], by simp [get_set, g11], by simp [get_set, g14], by simp [get_set, g178], by simp [get_set, g179], by simp [get_set], kτ⟩
      · have hvz := hvz (by omega)
        have hcl := hcz hu
        have ec : z.c = (z.c.toNat : Int) := by omega
        have hjc : z.c.toNat < c.length := by omega
        obtain ⟨r, hir, hrr⟩ := (h2 τ).at (E := EL L5) (t := 38) (el := 3) Tryz.underlying38 (z3 L5) (ones_at hjc) (k := .i64)
        have hlr := load_one (agg3 L5) hrr
        rw [getD_lt hjc] at hvz
        rw [hvz] at s27
        rw [← ec] at hir
        generalize c[z.c.toNat] = v at hlr s27
        have hln := ld37 (L := L5) (hq τ kτ) hnn
        simp only [in7e, fAt, cAt, Tryz.f7]
        simp [code_skip, code_region, code_seq, code_cond, code_block, opsA, oneA, wantedA, opA, kindOf, readA, uponA, writeA, AFr.put, get_set, n_set, opd, callee?, callA, cmp_lss, cmp_gtr, ar_add, un_not, ne_int, ex2, hn, g5, g11, g14, g178, g179, g180, hlt, hp, hld, al74, hst, k0, k1, k3, k4, k5, m0, m1, m3, m4, m5, w0, w1, lu, lw, hu3, sum_eq, q34, f34, c34, hi, hlw, he, q27, s27, hln, hir, hlr, hw]
        exact ⟨by simp [n_set, hn], by simp [df_set, hd], by simp [get_set, g5], by simp [get_set, g11], by simp [get_set, g14], by simp [get_set, g178], by simp [get_set, g179], by simp [get_set], kτ⟩
    · have hu3 : (z.u != u) = true := by simpa using hu
      simp only [in7e, fAt, cAt, Tryz.f7]
      simp [code_skip, code_region, code_seq, code_cond, code_block, code_exit, opsA, oneA, wantedA, opA, kindOf, readA, uponA, writeA, AFr.put, get_set, n_set, opd, cmp_lss, ar_add, un_not, ne_int, ex2, hn, g5, g178, g179, g180, hlt, hp, hld, al74, hst, k0, k5, m0, m5, w0, lu, hu3, hw]
      exact ⟨by simp [n_set, hn], by simp [df_set, hd], by simp [get_set, g5], by simp [get_set, g11], by simp [get_set, g14], by simp [get_set, g178], by simp [get_set, g179], by simp [get_set], kτ⟩
end Go.Proofs.YtfmbpdacdopkgaaGreatDoor

namespace Go.Proofs.YtfmbpdacdopkgaaGreatDoor
set_option maxRecDepth 100000
open Go Go.Ai
open Go.RowKit (Below)

structure F7 (x1 : AV) (a : AFr) : Prop where
  n : a.n = 227
  d : a.df = []
  g0 : a.get 0 = x1
  g4 : a.get 4 = .ptr 0 0 0 192
  g5 : a.get 5 = .ptr 1 0 0 2

theorem pro7 {K : Kont} {N : Nat} {cs : List Int} (hcs : cs.length = 192) {x1 w : AV} (u : Int) {a : AFr} (hn : a.n = 227) (hd : a.df = []) (g0 : a.get 0 = x1) (g1 : a.get 1 = .agg (ints cs)) (g2 : a.get 2 = .agg [.i u, w]) :
    ∃ aA σA, codeA K (EL L5) N none (fAt Tryz.f7 [0]) a start = some (.normal, aA, σA) ∧ F7 x1 aA ∧ Bx cs u w σA ∧ 2 ≤ σA.next := by
  have hst : start.next = 0 := rfl
  have hbx := box37 (L := L5) 1 cs hcs
  have hbx2 : ∀ (b : AFr) (o : Oper), o.op = .box 40 (.tmp 2) → b.get 2 = .agg [.i u, w] → allocA (EL L5) b o = some (.cells [.i u, w] 0 0, fun n => .ptr n 0 0 2) := by
    intro b o ho hb
    simp [allocA, ho, opd, hb, AV.cells?]
  have bA : Bx cs u w ((start.add (.cells (ints cs) 0 0)).add (.cells [.i u, w] 0 0)) :=
    ⟨by rw [get_sadd, if_neg (by rw [next_add, hst]; omega), get_sadd, if_pos hst], by rw [get_sadd, if_pos (by rw [next_add, hst])]⟩
  have nA : ((start.add (.cells (ints cs) 0 0)).add (.cells [.i u, w] 0 0)).next = 2 := by rw [next_add, next_add, hst]
  obtain ⟨aA, eA, nAA, dA, a0, a4, a5⟩ : ∃ aA, codeA K (EL L5) N none (fAt Tryz.f7 [0]) a start = some (.normal, aA, (start.add (.cells (ints cs) 0 0)).add (.cells [.i u, w] 0 0)) ∧ aA.n = 227 ∧ aA.df = [] ∧ aA.get 0 = x1 ∧ aA.get 4 = .ptr 0 0 0 192 ∧ aA.get 5 = .ptr 1 0 0 2 := by
    simp only [fAt, cAt, Tryz.f7]
    simp [code_region, opsA, oneA, wantedA, opA, kindOf, readA, uponA, AFr.put, get_set, n_set, df_set, opd, next_add, hn, hd, g0, g1, g2, hbx, hbx2]
  exact ⟨aA, _, eA, ⟨nAA, dA, a0, a4, a5⟩, bA, by omega⟩

theorem guard7 {n N : Nat} (hN : 400 < N) {cs : List Int} (hcs : cs.length = 192) {l : List Lk} {c : List Int} {x1 w : AV} (h1 : Arg 6 x1 (lcs l)) (h2 : Arg 1 w (ones c)) {u : Int} {a : AFr} {σ : St} (f : F7 x1 a) (bx : Bx cs u w σ) (h2n : 2 ≤ σ.next) :
    ∃ a' σ', codeA (evalK (EL L5) N (n + 4)) (EL L5) N none (fAt Tryz.f7 [1, 0, 0]) a σ = some (.normal, a', σ') ∧ F7 x1 a' ∧ Bx cs u w σ' ∧ 2 ≤ σ'.next ∧ a'.get 39 = .b (!goodT l cs c) := by
  obtain ⟨hn, hd, g0, g4, g5⟩ := f
  obtain ⟨k0, k1⟩ := fa40s (L := L5) (o := 1)
  obtain ⟨σ1, c16, kp1⟩ := call16 (n := n + 3) (L := L5) (N := N) rfl hN (σ0 := σ) (fun τ _ => h1 τ)
  have f16 : (EL L5).fn 16 = some Tryz.f16 := fnL Tryz.func16 rfl
  have q16 : sumOf L5 16 = none := rfl
  have q17 : sumOf L5 17 = some S17 := rfl
  have s17 := S17_eq hcs
  have f18 : (EL L5).fn 18 = some Tryz.f18 := fnL Tryz.func18 rfl
  have q18 : sumOf L5 18 = none := rfl
  have le1 := kp1.le
  have c18 := call18 (n := n + 2) (L := L5) (N := N) rfl rfl hN (c := c) (y := w) (σ := σ1) (h2 σ1)
  have bx1 : Bx cs u w σ1 := bx.keep fun o ho => kp1.same o (by omega)
  obtain ⟨lm1, lu1, lw1⟩ := bx1.ld (L := L5) hcs
  obtain ⟨aD, eD, n1, d1, p0, p4, p5, p39⟩ : ∃ aD, codeA (evalK (EL L5) N (n + 4)) (EL L5) N none (fAt Tryz.f7 [1, 0, 0]) a σ = some (.normal, aD, σ1) ∧ aD.n = 227 ∧ aD.df = [] ∧ aD.get 0 = x1 ∧ aD.get 4 = .ptr 0 0 0 192 ∧ aD.get 5 = .ptr 1 0 0 2 ∧ aD.get 39 = .b (!goodT l cs c) := by
    unfold goodT
    simp only [fAt, cAt, Tryz.f7]
    cases hlk : linked l with
    | false =>
      rw [hlk] at c16
      simp [code_region, opsA, oneA, wantedA, opA, kindOf, readA, uponA, writeA, AFr.put, get_set, n_set, df_set, opd, callee?, callA, un_not, hn, hd, g0, g4, g5, sum_eq, q16, f16, c16]
    | true =>
      rw [hlk] at c16
      cases hv : cs.all isV with
      | false =>
        rw [hv] at s17
        simp [code_region, opsA, oneA, wantedA, opA, kindOf, readA, uponA, writeA, AFr.put, get_set, n_set, df_set, opd, callee?, callA, un_not, hn, hd, g0, g4, g5, lm1, sum_eq, q16, f16, c16, q17, s17]
      | true =>
        rw [hv] at s17
        generalize cellsOk c = ck at c18
        simp [code_region, opsA, oneA, wantedA, opA, kindOf, readA, uponA, writeA, AFr.put, get_set, n_set, df_set, opd, callee?, callA, un_not, hn, hd, g0, g4, g5, k1, lm1, lw1, sum_eq, q16, f16, c16, q17, s17, q18, f18, c18]
  exact ⟨aD, σ1, eD, ⟨n1, d1, p0, p4, p5⟩, bx1, by omega, p39⟩

theorem loop7a {K : Kont} {N : Nat} (hN : 400 < N) {l : List Lk} {c cs : List Int} {x1 w : AV} {u : Int} (h1 : Arg 6 x1 (lcs l)) (h2 : Arg 1 w (ones c)) (hl : l.length ≤ 400) {a : AFr} {σ : St} (f : F7 x1 a) (bx : Bx cs u w σ) (h2n : 2 ≤ σ.next) :
    (∃ a' σ', codeA K (EL L5) N none (fAt Tryz.f7 [1, 1, 0]) a σ = some (.normal, a', σ') ∧ F7 x1 a' ∧ Bx cs u w σ' ∧ 2 ≤ σ'.next ∧ thereT l u c.length = true) ∨
    ∃ a' σ', codeA K (EL L5) N none (fAt Tryz.f7 [1, 1, 0]) a σ = some (.ret, a', σ') ∧ a'.df = [] ∧ a'.get 6 = .b true := by
  obtain ⟨hn, hd, g0, g4, g5⟩ := f
  have hlen := (h1 σ).len (E := EL L5) (t := 34) (el := 74) Tryz.underlying34
  rw [lcs_len] at hlen
  obtain ⟨a1, e1, i1⟩ : ∃ a1, codeA K (EL L5) N none (fAt Tryz.f7 [1, 1, 0, 0]) a σ = some (.normal, a1, σ) ∧ In7a l x1 u c.length σ 0 a1 σ := by
    simp only [fAt, cAt, Tryz.f7]
    simp [code_region, opsA, oneA, wantedA, opA, kindOf, readA, uponA, AFr.put, get_set, n_set, opd, hn, g0, hlen]
    exact ⟨by simp [n_set, hn], by simp [df_set, hd], by simp [get_set, g0], by simp [get_set, g4], by simp [get_set, g5], by simp [get_set], by simp [get_set], by simp [get_set], rfl, Keep.refl _ _⟩
  have hlp := loop_inv (K := K) (E := EL L5) (N := N) (c := in7a) 0 (In7a l x1 u c.length σ) (fun a' σ' => F7 x1 a' ∧ Keep σ.next σ σ' ∧ thereT l u c.length = true) (fun a' σ' => a'.df = [] ∧ a'.get 6 = .b true) l.length
    (fun k a σ' hk hI => (in7a_step h1 h2 (fun τ hk => bx.keep fun o ho => hk.same o (by omega)) hl hk hI).imp_right fun ⟨a', σ', e, h3, h4, _⟩ => ⟨a', σ', e, h3, h4⟩)
    (fun a σ' hI => by
      obtain ⟨hn, hd, g0, g4, g5, g41, g42, g43, ok, kp⟩ := hI
      rw [List.take_length] at ok
      rw [ok]
      simp only [in7a, fAt, cAt, Tryz.f7]
      simp [code_region, code_seq, code_cond, code_exit, opsA, oneA, wantedA, opA, kindOf, readA, uponA, AFr.put, get_set, opd, cmp_lss, ex2, hn, g42, g43]
      exact ⟨⟨by simp [n_set, hn], by simp [df_set, hd], by simp [get_set, g0], by simp [get_set, g4], by simp [get_set, g5]⟩, kp⟩) (by omega) i1
  rcases hlp with ⟨a2, σ2, e2, f2, kp, ok⟩ | ⟨a2, σ2, e2, d2, k6⟩
  · exact .inl ⟨a2, σ2, seq_n e1 e2, f2, bx.keep fun o ho => kp.same o (by omega), by have := kp.le; omega, ok⟩
  · exact .inr ⟨a2, σ2, seq_n e1 e2, d2, k6⟩

structure G7 (x1 y : AV) (m q b : Nat) (a : AFr) : Prop where
  n : a.n = 227
  d : a.df = []
  g0 : a.get 0 = x1
  g4 : a.get 4 = .ptr 0 0 0 192
  g5 : a.get 5 = .ptr 1 0 0 2
  g9 : a.get 9 = y
  g11 : a.get 11 = .ptr q 0 0 192
  g13 : a.get 13 = .sl b 0 m 0 1
  g14 : a.get 14 = .ptr (b + 1) 0 0 192

set_option maxHeartbeats 1000000 in
theorem calls7 {n N : Nat} (hN : 400 < N) {cs : List Int} (hcs : cs.length = 192) {l : List Lk} {c : List Int} {x1 w : AV} (h1 : Arg 6 x1 (lcs l)) (h2 : Arg 1 w (ones c)) {u : Int} (hg : goodT l cs c = true) (hth : thereT l u c.length = true) {a : AFr} {σ : St} (f : F7 x1 a) (bx : Bx cs u w σ) (h2n : 2 ≤ σ.next) :
    ∃ a1 a2 a3 a4 a5 σ1 σ2 σ3 σ4 y q, codeA (evalK (EL L5) N (n + 4)) (EL L5) N none (fAt Tryz.f7 [1, 1, 1, 0]) a σ = some (.normal, a1, σ1) ∧ codeA (evalK (EL L5) N (n + 4)) (EL L5) N none (fAt Tryz.f7 [1, 1, 1, 1, 0]) a1 σ1 = some (.normal, a2, σ2) ∧
      codeA (evalK (EL L5) N (n + 4)) (EL L5) N none (fAt Tryz.f7 [1, 1, 1, 1, 1, 0]) a2 σ2 = some (.normal, a3, σ2) ∧ codeA (evalK (EL L5) N (n + 4)) (EL L5) N none (fAt Tryz.f7 [1, 1, 1, 1, 1, 1, 0]) a3 σ2 = some (.normal, a4, σ3) ∧
      codeA (evalK (EL L5) N (n + 4)) (EL L5) N none (fAt Tryz.f7 [1, 1, 1, 1, 1, 1, 1, 0]) a4 σ3 = some (.normal, a5, σ4) ∧ G7 x1 y c.length q σ2.next a5 ∧ (∀ τ, Keep σ2.next σ2 τ → Bx cs u w τ ∧ SlAt τ 1 y (ones (inAll cs (mine u l) c)) ∧ τ.get q = some (.cells (ints (outAll c (mine u l) cs)) 0 0)) ∧
      Keep σ2.next σ2 σ4 ∧ σ4.next = σ2.next + 2 ∧ σ4.get σ2.next = some (.cells (bls (List.replicate c.length false)) 0 0) ∧ σ4.get (σ2.next + 1) = some (.cells (ints zimg) 0 0) := by
  obtain ⟨hn, hd, g0, g4, g5⟩ := f
  obtain ⟨k0, k1⟩ := fa40s (L := L5) (o := 1)
  obtain ⟨hlk, hv, hcl, hcv⟩ := good_parts hg
  obtain ⟨lm, lu, lw⟩ := bx.ld (L := L5) hcs
  obtain ⟨y, σ1, c14, hown, kp1⟩ := call14 (n := n) (L := L5) rfl rfl rfl rfl rfl rfl rfl rfl rfl rfl hN hcs u (x := x1) (w := w) (σ0 := σ) (fun τ _ => h1 τ) (fun τ _ => h2 τ)
  have eE : inE l cs c u = 0 := by simp [inE, hg, hth]
  have eR : inR l cs c u = inAll cs (mine u l) c := by simp [inR, hg, hth]
  have eO : outR l cs c u = outAll c (mine u l) cs := by simp [outR, hg, hth]
  have hRl := inAll_len cs (mine u l) c
  have hOl := outAll_len c (mine u l) cs
  rw [eE] at c14
  rw [eR] at hown
  have f14 : (EL L5).fn 14 = some Tryz.f14 := fnL Tryz.func14 rfl
  have q14 : sumOf L5 14 = none := rfl
  have le1 := kp1.le
  obtain ⟨a1, e1, n1, d1, b0, b4, b5, b9, b10⟩ : ∃ a1, codeA (evalK (EL L5) N (n + 4)) (EL L5) N none (fAt Tryz.f7 [1, 1, 1, 0]) a σ = some (.normal, a1, σ1) ∧ a1.n = 227 ∧ a1.df = [] ∧ a1.get 0 = x1 ∧ a1.get 4 = .ptr 0 0 0 192 ∧ a1.get 5 = .ptr 1 0 0 2 ∧ a1.get 9 = y ∧ a1.get 10 = .i 0 := by
    simp only [fAt, cAt, Tryz.f7]
    simp [code_region, opsA, oneA, wantedA, opA, kindOf, readA, uponA, writeA, AFr.put, get_set, n_set, df_set, opd, callee?, callA, hn, hd, g0, g4, g5, k0, k1, lm, lu, lw, sum_eq, q14, f14, c14]
  have bx1 : Bx cs u w σ1 := bx.keep fun o ho => kp1.same o (by omega)
  obtain ⟨lm1, lu1, lw1⟩ := bx1.ld (L := L5) hcs
  obtain ⟨σ1', c15, kp2⟩ := call15 (n := n) (L := L5) rfl rfl rfl rfl rfl rfl rfl rfl rfl hN hcs u (x := x1) (w := w) (σ0 := σ1) (fun τ _ => h1 τ) (fun τ _ => h2 τ)
  have le2 := kp2.le
  rw [eE, eO] at c15
  have f15 : (EL L5).fn 15 = some Tryz.f15 := fnL Tryz.func15 rfl
  have q15 : sumOf L5 15 = none := rfl
  generalize hO : outAll c (mine u l) cs = nn at c15 hOl
  generalize hR : inAll cs (mine u l) c = rr at hown hRl
  have hst := st37 (L := L5) (σ := σ1'.add (.cells (ints zimg) 0 0)) (o := σ1'.next) (cs := nn) (St.get_add_same _ _) rep_len (by omega)
  obtain ⟨a2, σ2, e2, n2, d2, p0, p4, p5, p9, p10, p11, p12, hσ2⟩ : ∃ a2 σ2, codeA (evalK (EL L5) N (n + 4)) (EL L5) N none (fAt Tryz.f7 [1, 1, 1, 1, 0]) a1 σ1 = some (.normal, a2, σ2) ∧ a2.n = 227 ∧ a2.df = [] ∧ a2.get 0 = x1 ∧ a2.get 4 = .ptr 0 0 0 192 ∧ a2.get 5 = .ptr 1 0 0 2 ∧ a2.get 9 = y ∧ a2.get 10 = .i 0 ∧ a2.get 11 = .ptr σ1'.next 0 0 192 ∧ a2.get 12 = .i 0 ∧ σ2 = (σ1'.add (.cells (ints zimg) 0 0)).set σ1'.next (.cells (ints nn) 0 0) := by
    simp only [fAt, cAt, Tryz.f7]
    simp [code_region, opsA, oneA, wantedA, opA, kindOf, readA, uponA, writeA, AFr.put, get_set, n_set, df_set, opd, callee?, callA, ex2, n1, d1, b0, b4, b5, b9, b10, k0, k1, lm1, lu1, lw1, sum_eq, q15, f15, c15, al37, hst]
  have n2x : σ2.next = σ1'.next + 1 := by rw [hσ2, next_set, next_add]
  have o2 : ∀ o, o < σ1'.next → σ2.get o = σ1'.get o := fun o ho => by rw [hσ2, get_sset, if_neg (by omega), get_sadd, if_neg (by omega)]
  have q2 : σ2.get σ1'.next = some (.cells (ints nn) 0 0) := by rw [hσ2, get_sset, if_pos rfl]
  have hall : ∀ τ, Keep σ2.next σ2 τ → Bx cs u w τ ∧ SlAt τ 1 y (ones rr) ∧ τ.get σ1'.next = some (.cells (ints nn) 0 0) := fun τ hk => by
    have := hk.le
    exact ⟨bx1.keep fun o ho => by rw [hk.same o (by omega), o2 o (by omega), kp2.same o (by omega)], (hown.keep (by omega) fun o _ h => by rw [hk.same o (by omega), o2 o (by omega), kp2.same o h]).slAt, by rw [hk.same _ (by omega), q2]⟩
  obtain ⟨bx2, hy2, -⟩ := hall σ2 (Keep.refl _ _)
  obtain ⟨lm2, lu2, lw2⟩ := bx2.ld (L := L5) hcs
  have hly := hy2.len (E := EL L5) (t := 38) (el := 3) Tryz.underlying38
  have hlw := (h2 σ2).len (E := EL L5) (t := 38) (el := 3) Tryz.underlying38
  rw [ones_len, hRl] at hly
  rw [ones_len] at hlw
  obtain ⟨a3, e3, n3, d3, r0, r4, r5, r9, r11⟩ : ∃ a3, codeA (evalK (EL L5) N (n + 4)) (EL L5) N none (fAt Tryz.f7 [1, 1, 1, 1, 1, 0]) a2 σ2 = some (.normal, a3, σ2) ∧ a3.n = 227 ∧ a3.df = [] ∧ a3.get 0 = x1 ∧ a3.get 4 = .ptr 0 0 0 192 ∧ a3.get 5 = .ptr 1 0 0 2 ∧ a3.get 9 = y ∧ a3.get 11 = .ptr σ1'.next 0 0 192 := by
    simp only [fAt, cAt, Tryz.f7]
    simp [code_skip, code_region, code_seq, code_cond, opsA, oneA, wantedA, opA, kindOf, readA, uponA, AFr.put, get_set, n_set, df_set, opd, ne_int, n2, d2, p0, p4, p5, p9, p10, p11, p12, k1, lw2, hly, hlw]
  have hmk : ∀ (b : AFr) (o : Oper), o.op = .makeSlice 75 (.tmp 97) (.tmp 97) → b.get 97 = .i (c.length : Int) → allocA (EL L5) b o = some (.cells (bls (List.replicate c.length false)) 0 0, fun id => .sl id 0 c.length 0 1) := fun b o h hb => mk75 h hb hcl
  obtain ⟨a4, e4, n4, d4, s0, s4, s5, s9, s11, s13⟩ : ∃ a4, codeA (evalK (EL L5) N (n + 4)) (EL L5) N none (fAt Tryz.f7 [1, 1, 1, 1, 1, 1, 0]) a3 σ2 = some (.normal, a4, σ2.add (.cells (bls (List.replicate c.length false)) 0 0)) ∧ a4.n = 227 ∧ a4.df = [] ∧ a4.get 0 = x1 ∧ a4.get 4 = .ptr 0 0 0 192 ∧ a4.get 5 = .ptr 1 0 0 2 ∧ a4.get 9 = y ∧ a4.get 11 = .ptr σ1'.next 0 0 192 ∧ a4.get 13 = .sl σ2.next 0 c.length 0 1 := by
    generalize bls (List.replicate c.length false) = bb at hmk
    simp only [fAt, cAt, Tryz.f7]
    simp [code_region, opsA, oneA, wantedA, opA, kindOf, readA, uponA, AFr.put, get_set, n_set, df_set, opd, n3, d3, r0, r4, r5, r9, r11, hly, hmk]
  generalize hσ3 : σ2.add (.cells (bls (List.replicate c.length false)) 0 0) = σ3 at e4
  have n3x : σ3.next = σ2.next + 1 := by rw [← hσ3, next_add]
  obtain ⟨a5, e5, n5, d5, t0, t4, t5, t9, t11, t13, t14⟩ : ∃ a5, codeA (evalK (EL L5) N (n + 4)) (EL L5) N none (fAt Tryz.f7 [1, 1, 1, 1, 1, 1, 1, 0]) a4 σ3 = some (.normal, a5, σ3.add (.cells (ints zimg) 0 0)) ∧ a5.n = 227 ∧ a5.df = [] ∧ a5.get 0 = x1 ∧ a5.get 4 = .ptr 0 0 0 192 ∧ a5.get 5 = .ptr 1 0 0 2 ∧ a5.get 9 = y ∧ a5.get 11 = .ptr σ1'.next 0 0 192 ∧ a5.get 13 = .sl σ2.next 0 c.length 0 1 ∧ a5.get 14 = .ptr σ3.next 0 0 192 := by
    simp only [fAt, cAt, Tryz.f7]
    simp [code_region, opsA, oneA, wantedA, opA, kindOf, uponA, AFr.put, get_set, n_set, df_set, n4, d4, s0, s4, s5, s9, s11, s13, al76]
  rw [n3x] at t14
  refine ⟨a1, a2, a3, a4, a5, σ1, σ2, σ3, _, y, σ1'.next, e1, e2, e3, e4, e5, ⟨n5, d5, t0, t4, t5, t9, t11, t13, t14⟩, hall, ?_, by rw [next_add]; omega, ?_, ?_⟩
  · rw [← hσ3]; exact (Keep.add _ (Nat.le_refl _)).trans (Keep.add (b := σ2.next) _ (by rw [next_add]; omega)) (Nat.le_refl _)
  · rw [get_sadd, if_neg (by omega), ← hσ3, get_sadd, if_pos rfl]
  · rw [get_sadd, if_pos n3x]

theorem loop7b {n N : Nat} (hN : 400 < N) {l : List Lk} {c cs : List Int} {x1 y w : AV} {u : Int} {q b : Nat} {σ0 : St} (h1 : Arg 6 x1 (lcs l)) (hbx : ∀ τ, Keep b σ0 τ → Bx cs u w τ) (hb : σ0.next = b) (hl : l.length ≤ 400) (hlk : linked l = true) (hth : thereT l u c.length = true) {a : AFr} {σ : St}
    (f : G7 x1 y c.length q b a) (kp : Keep b σ0 σ) (nx : σ.next = b + 2) (mr : σ.get b = some (.cells (bls (List.replicate c.length false)) 0 0)) (mw : σ.get (b + 1) = some (.cells (ints zimg) 0 0)) :
    ∃ a' σ', codeA (evalK (EL L5) N (n + 1)) (EL L5) N none (fAt Tryz.f7 [1, 1, 1, 1, 1, 1, 1, 1, 0]) a σ = some (.normal, a', σ') ∧ G7 x1 y c.length q b a' ∧ Keep b σ0 σ' ∧ b + 2 ≤ σ'.next ∧ σ'.get b = some (.cells (bls (rdAll u l (List.replicate c.length false))) 0 0) ∧ σ'.get (b + 1) = some (.cells (ints (wrAll u l zimg)) 0 0) := by
  obtain ⟨hn, hd, g0, g4, g5, g9, g11, g13, g14⟩ := f
  have hlen := (h1 σ).len (E := EL L5) (t := 34) (el := 74) Tryz.underlying34
  rw [lcs_len] at hlen
  obtain ⟨a1, e1, i1⟩ : ∃ a1, codeA (evalK (EL L5) N (n + 1)) (EL L5) N none (fAt Tryz.f7 [1, 1, 1, 1, 1, 1, 1, 1, 0, 0]) a σ = some (.normal, a1, σ) ∧ In7b l x1 y u c.length q b σ0 0 a1 σ := by
    simp only [fAt, cAt, Tryz.f7]
    simp [code_region, opsA, oneA, wantedA, opA, kindOf, readA, uponA, AFr.put, get_set, n_set, opd, hn, g0, hlen]
    exact ⟨by simp [n_set, hn], by simp [df_set, hd], by simp [get_set, g0], by simp [get_set, g4], by simp [get_set, g5], by simp [get_set, g9], by simp [get_set, g11], by simp [get_set, g13], by simp [get_set, g14], by simp [get_set], by simp [get_set], by simp [get_set], mr, mw, by omega, kp⟩
  obtain ⟨a2, σ2, e2, f2, kp2, nx2, mr2, mw2⟩ := loop_all (K := evalK (EL L5) N (n + 1)) (E := EL L5) (N := N) (c := in7b) 2 (In7b l x1 y u c.length q b σ0) (fun a' σ' => G7 x1 y c.length q b a' ∧ Keep b σ0 σ' ∧ b + 2 ≤ σ'.next ∧ σ'.get b = some (.cells (bls (rdAll u l (List.replicate c.length false))) 0 0) ∧ σ'.get (b + 1) = some (.cells (ints (wrAll u l zimg)) 0 0)) l.length
    (fun k a σ' hk hI => in7b_step h1 hbx hb hl hlk hth hk hI)
    (fun a σ' hI => by
      obtain ⟨hn, hd, g0, g4, g5, g9, g11, g13, g14, g99, g100, g101, mr, mw, nx, kp⟩ := hI
      rw [List.take_length] at mr mw
      simp only [in7b, fAt, cAt, Tryz.f7]
      simp [code_region, code_seq, code_cond, code_exit, opsA, oneA, wantedA, opA, kindOf, readA, uponA, AFr.put, get_set, opd, cmp_lss, ex2, hn, g100, g101]
      exact ⟨⟨by simp [n_set, hn], by simp [df_set, hd], by simp [get_set, g0], by simp [get_set, g4], by simp [get_set, g5], by simp [get_set, g9], by simp [get_set, g11], by simp [get_set, g13], by simp [get_set, g14]⟩, kp, nx, mr, mw⟩) (by omega) i1
  exact ⟨a2, σ2, seq_n e1 e2, f2, kp2, nx2, mr2, mw2⟩

theorem loop7c {K : Kont} {N : Nat} (hN : 400 < N) {c cs R : List Int} {rd : List Bool} {x1 y w : AV} {u : Int} {q b : Nat} {σ : St} (h2 : Arg 1 w (ones c)) (hbx : Bx cs u w σ) (hy : SlAt σ 1 y (ones R)) (hR : R.length = c.length) (hrd : rd.length = c.length) (mr : σ.get b = some (.cells (bls rd) 0 0)) (hc : c.length ≤ 400)
    (hk0 : ∀ i, rd.getD i false = false → R.getD i 0 = c.getD i 0) {a : AFr} (f : G7 x1 y c.length q b a) :
    ∃ a', codeA K (EL L5) N none (fAt Tryz.f7 [1, 1, 1, 1, 1, 1, 1, 1, 1, 0]) a σ = some (.normal, a', σ) ∧ G7 x1 y c.length q b a' := by
  obtain ⟨hn, hd, g0, g4, g5, g9, g11, g13, g14⟩ := f
  have hlen := hy.len (E := EL L5) (t := 38) (el := 3) Tryz.underlying38
  rw [ones_len, hR] at hlen
  obtain ⟨a1, e1, i1⟩ : ∃ a1, codeA K (EL L5) N none (fAt Tryz.f7 [1, 1, 1, 1, 1, 1, 1, 1, 1, 0, 0]) a σ = some (.normal, a1, σ) ∧ In7c x1 y c.length q b 0 a1 := by
    simp only [fAt, cAt, Tryz.f7]
    simp [code_region, opsA, oneA, wantedA, opA, kindOf, readA, uponA, AFr.put, get_set, n_set, opd, hn, g9, hlen]
    exact ⟨by simp [n_set, hn], by simp [df_set, hd], by simp [get_set, g0], by simp [get_set, g4], by simp [get_set, g5], by simp [get_set, g9], by simp [get_set, g11], by simp [get_set, g13], by simp [get_set, g14], by simp [get_set], by simp [get_set], by simp [get_set]⟩
  obtain ⟨a2, σ2, e2, rfl, f2⟩ := loop_all (K := K) (E := EL L5) (N := N) (c := in7c) 4 (fun k a σ' => σ' = σ ∧ In7c x1 y c.length q b k a) (fun a' σ' => σ' = σ ∧ G7 x1 y c.length q b a') c.length
    (fun k a σ' hk hI => by
      obtain ⟨rfl, hI⟩ := hI
      obtain ⟨a', e, i⟩ := in7c_step (K := K) (N := N) h2 hbx hy hR hrd mr hc hk0 hk hI
      exact ⟨a', _, e, rfl, i⟩)
    (fun a σ' hI => by
      obtain ⟨rfl, hn, hd, g0, g4, g5, g9, g11, g13, g14, g126, g127, g128⟩ := hI
      simp only [in7c, fAt, cAt, Tryz.f7]
      simp [code_region, code_seq, code_cond, code_exit, opsA, oneA, wantedA, opA, kindOf, readA, uponA, AFr.put, get_set, opd, cmp_lss, ex2, hn, g127, g128]
      exact ⟨by simp [n_set, hn], by simp [df_set, hd], by simp [get_set, g0], by simp [get_set, g4], by simp [get_set, g5], by simp [get_set, g9], by simp [get_set, g11], by simp [get_set, g13], by simp [get_set, g14]⟩) (by omega) ⟨rfl, i1⟩
  exact ⟨a2, seq_n e1 e2, f2⟩

structure H7 (x1 y : AV) (q b : Nat) (a : AFr) : Prop where
  n : a.n = 227
  d : a.df = []
  g0 : a.get 0 = x1
  g5 : a.get 5 = .ptr 1 0 0 2
  g11 : a.get 11 = .ptr q 0 0 192
  g14 : a.get 14 = .ptr (b + 1) 0 0 192
  g18 : a.get 18 = y

theorem diff7 {n N : Nat} (hN : 400 < N) {cs nn : List Int} (hcs : cs.length = 192) (hnn : nn.length = 192) (hcv : cs.all isV = true) (hnv : nn.all isV = true) {x1 y w : AV} {u : Int} {m q b : Nat} {a : AFr} {σ : St} (f : G7 x1 y m q b a) (bx : Bx cs u w σ) (hq : σ.get q = some (.cells (ints nn) 0 0)) :
    ∃ a1 a2 σ' z, codeA (evalK (EL L5) N (n + 4)) (EL L5) N none (fAt Tryz.f7 [1, 1, 1, 1, 1, 1, 1, 1, 1, 1, 0]) a σ = some (.normal, a1, σ') ∧ codeA (evalK (EL L5) N (n + 4)) (EL L5) N none (fAt Tryz.f7 [1, 1, 1, 1, 1, 1, 1, 1, 1, 1, 1, 0]) a1 σ' = some (.normal, a2, σ') ∧ H7 x1 z q b a2 ∧ Keep σ.next σ σ' ∧ Grow (σ.next + 8) σ' 3 z (pcs (dif cs nn 192)) := by
  obtain ⟨hn, hd, g0, g4, g5, g9, g11, g13, g14⟩ := f
  obtain ⟨z, σ', c23, hgz, kp⟩ := call23 (n := n) (L := L5) rfl rfl rfl rfl (N := N) (by omega) hcs hnn σ
  rw [hcv, hnv] at c23 hgz
  simp only [Bool.and_self, if_true] at c23 hgz
  have f23 : (EL L5).fn 23 = some Tryz.f23 := fnL Tryz.func23 rfl
  have q23 : sumOf L5 23 = none := rfl
  obtain ⟨lm, lu, lw⟩ := bx.ld (L := L5) hcs
  have ln := ld37 (L := L5) hq hnn
  obtain ⟨a1, e1, n1, d1, b0, b5, b11, b14, b18, b19⟩ : ∃ a1, codeA (evalK (EL L5) N (n + 4)) (EL L5) N none (fAt Tryz.f7 [1, 1, 1, 1, 1, 1, 1, 1, 1, 1, 0]) a σ = some (.normal, a1, σ') ∧ a1.n = 227 ∧ a1.df = [] ∧ a1.get 0 = x1 ∧ a1.get 5 = .ptr 1 0 0 2 ∧ a1.get 11 = .ptr q 0 0 192 ∧ a1.get 14 = .ptr (b + 1) 0 0 192 ∧ a1.get 18 = z ∧ a1.get 19 = .i 0 := by
    simp only [fAt, cAt, Tryz.f7]
    simp [code_region, opsA, oneA, wantedA, opA, kindOf, readA, uponA, writeA, AFr.put, get_set, n_set, df_set, opd, callee?, callA, hn, hd, g0, g4, g5, g11, g14, lm, ln, sum_eq, q23, f23, c23]
  obtain ⟨a2, e2, h2⟩ : ∃ a2, codeA (evalK (EL L5) N (n + 4)) (EL L5) N none (fAt Tryz.f7 [1, 1, 1, 1, 1, 1, 1, 1, 1, 1, 1, 0]) a1 σ' = some (.normal, a2, σ') ∧ H7 x1 z q b a2 := by
    simp only [fAt, cAt, Tryz.f7]
    simp [code_skip, code_region, code_seq, code_cond, opsA, oneA, wantedA, opA, kindOf, readA, uponA, AFr.put, get_set, n_set, opd, ne_int, n1, b19]
    exact ⟨by simp [n_set, n1], by simp [df_set, d1], by simp [get_set, b0], by simp [get_set, b5], by simp [get_set, b11], by simp [get_set, b14], by simp [get_set, b18]⟩
  exact ⟨a1, a2, σ', z, e1, e2, h2, kp, hgz⟩

theorem loop7d {n N : Nat} (hN : 400 < N) {ds : List Put3} {wr : List Int} {x1 y : AV} {q b : Nat} {σ0 : St} (hy : ∀ τ, Keep σ0.next σ0 τ → SlAt τ 3 y (pcs ds)) (hm : ∀ τ, Keep σ0.next σ0 τ → τ.get (b + 1) = some (.cells (ints wr) 0 0)) (hwr : wr.length = 192) (hds : ds.length ≤ 192)
    (hok : ∀ p, p ∈ ds → ∃ j v, j < 192 ∧ wr.getD j 0 ≠ 0 ∧ p = (((j / 64 + 1 : Nat) : Int), ((j % 64 : Nat) : Int), v)) {a : AFr} (f : H7 x1 y q b a) :
    ∃ a' σ', codeA (evalK (EL L5) N (n + 1)) (EL L5) N none (fAt Tryz.f7 [1, 1, 1, 1, 1, 1, 1, 1, 1, 1, 1, 1, 0]) a σ0 = some (.normal, a', σ') ∧ (∃ z, H7 x1 z q b a') ∧ Keep σ0.next σ0 σ' := by
  obtain ⟨hn, hd, g0, g5, g11, g14, g18⟩ := f
  have hlen := (hy σ0 (Keep.refl _ _)).len (E := EL L5) (t := 55) (el := 79) Tryz.underlying55
  rw [pcs_len] at hlen
  obtain ⟨a1, e1, i1⟩ : ∃ a1, codeA (evalK (EL L5) N (n + 1)) (EL L5) N none (fAt Tryz.f7 [1, 1, 1, 1, 1, 1, 1, 1, 1, 1, 1, 1, 0, 0]) a σ0 = some (.normal, a1, σ0) ∧ In7d x1 y ds.length q b σ0 0 a1 σ0 := by
    simp only [fAt, cAt, Tryz.f7]
    simp [code_region, opsA, oneA, wantedA, opA, kindOf, readA, uponA, AFr.put, get_set, n_set, opd, hn, g18, hlen]
    exact ⟨by simp [n_set, hn], by simp [df_set, hd], by simp [get_set, g0], by simp [get_set, g5], by simp [get_set, g11], by simp [get_set, g14], by simp [get_set], by simp [get_set], by simp [get_set], Keep.refl _ _⟩
  obtain ⟨a2, σ2, e2, f2, kp⟩ := loop_all (K := evalK (EL L5) N (n + 1)) (E := EL L5) (N := N) (c := in7d) 6 (In7d x1 y ds.length q b σ0) (fun a' σ' => (∃ z, H7 x1 z q b a') ∧ Keep σ0.next σ0 σ') ds.length
    (fun k a σ' hk hI => in7d_step hy hm hwr hds hok hk hI)
    (fun a σ' hI => by
      obtain ⟨hn, hd, g0, g5, g11, g14, g157, g158, g159, kp⟩ := hI
      simp only [in7d, fAt, cAt, Tryz.f7]
      simp [code_region, code_seq, code_cond, code_exit, opsA, oneA, wantedA, opA, kindOf, readA, uponA, AFr.put, get_set, opd, cmp_lss, ex2, hn, g158, g159]
      exact ⟨⟨_, by simp [n_set, hn], by simp [df_set, hd], by simp [get_set, g0], by simp [get_set, g5], by simp [get_set, g11], by simp [get_set, g14], rfl⟩, kp⟩) (by omega) i1
  exact ⟨a2, σ2, seq_n e1 e2, f2, kp⟩

theorem loop7e {n N : Nat} (hN : 400 < N) {l : List Lk} {c cs nn wr : List Int} {x1 z w : AV} {u : Int} {q b : Nat} {σ0 : St} (h1 : Arg 6 x1 (lcs l)) (h2 : Arg 1 w (ones c)) (hbx : ∀ τ, Keep σ0.next σ0 τ → Bx cs u w τ) (hm : ∀ τ, Keep σ0.next σ0 τ → τ.get (b + 1) = some (.cells (ints wr) 0 0)) (hq : ∀ τ, Keep σ0.next σ0 τ → τ.get q = some (.cells (ints nn) 0 0))
    (hwr : wr.length = 192) (hnn : nn.length = 192) (hnv : nn.all isV = true) (hl : l.length ≤ 400) (hlk : linked l = true) (hth : thereT l u c.length = true) (hval : ∀ x, x ∈ l → (x.u == u) = true → x.o = true → wr.getD (pl x) 0 ≤ 1 → nn.getD (pl x) 0 = c.getD x.c.toNat 0) {a : AFr} (f : H7 x1 z q b a) :
    ∃ a' σ', codeA (evalK (EL L5) N (n + 1)) (EL L5) N none (fAt Tryz.f7 [1, 1, 1, 1, 1, 1, 1, 1, 1, 1, 1, 1, 1, 0]) a σ0 = some (.normal, a', σ') ∧ a'.n = 227 ∧ a'.df = [] := by
  obtain ⟨hn, hd, g0, g5, g11, g14, g18⟩ := f
  have hlen := (h1 σ0).len (E := EL L5) (t := 34) (el := 74) Tryz.underlying34
  rw [lcs_len] at hlen
  obtain ⟨a1, e1, i1⟩ : ∃ a1, codeA (evalK (EL L5) N (n + 1)) (EL L5) N none (fAt Tryz.f7 [1, 1, 1, 1, 1, 1, 1, 1, 1, 1, 1, 1, 1, 0, 0]) a σ0 = some (.normal, a1, σ0) ∧ In7e x1 l.length q b σ0 0 a1 σ0 := by
    simp only [fAt, cAt, Tryz.f7]
    simp [code_region, opsA, oneA, wantedA, opA, kindOf, readA, uponA, AFr.put, get_set, n_set, opd, hn, g0, hlen]
    exact ⟨by simp [n_set, hn], by simp [df_set, hd], by simp [get_set, g5], by simp [get_set, g11], by simp [get_set, g14], by simp [get_set], by simp [get_set], by simp [get_set], Keep.refl _ _⟩
  obtain ⟨a2, σ2, e2, n2, d2⟩ := loop_all (K := evalK (EL L5) N (n + 1)) (E := EL L5) (N := N) (c := in7e) 8 (In7e x1 l.length q b σ0) (fun a' _ => a'.n = 227 ∧ a'.df = []) l.length
    (fun k a σ' hk hI => in7e_step h1 h2 hbx hm hq hwr hnn hnv hl hlk hth hval hk hI)
    (fun a σ' hI => by
      obtain ⟨hn, hd, g5, g11, g14, g178, g179, g180, kp⟩ := hI
      simp only [in7e, fAt, cAt, Tryz.f7]
      simp [code_region, code_seq, code_cond, code_exit, opsA, oneA, wantedA, opA, kindOf, readA, uponA, AFr.put, get_set, n_set, df_set, opd, cmp_lss, hn, hd, g179, g180]) (by omega) i1
  exact ⟨a2, σ2, seq_n e1 e2, n2, d2⟩

set_option maxHeartbeats 1000000 in
/-- **The law, evaluated.** -/
theorem law7 {n N : Nat} {cs : List Int} (hcs : cs.length = 192) {l : List Lk} {c : List Int} {x1 w : AV} (h1 : Arg 6 x1 (lcs l)) (h2 : Arg 1 w (ones c)) (hN : 400 < N) (u : Int) :
    ∃ σ', (evalK (EL L5) N (n + 5)).call 7 [x1, .agg (ints cs), .agg [.i u, w]] start = some (.ret (.b true), σ') := by
  have hfn : (EL L5).fn 7 = some Tryz.f7 := fnL Tryz.func7 rfl
  have q12 : sumOf L5 12 = some S12 := rfl
  have s12 : S12 [] = some (.b true) := rfl
  obtain ⟨aA, σA, eA, fA, bxA, nxA⟩ := pro7 (K := evalK (EL L5) N (n + 4)) (N := N) hcs (x1 := x1) (w := w) u (a := frame0 Tryz.f7 [x1, .agg (ints cs), .agg [.i u, w]]) rfl rfl rfl rfl rfl
  obtain ⟨aB, σB, eB, fB, bxB, nxB, p39⟩ := guard7 (n := n) hN hcs h1 h2 fA bxA nxA
  have fBn := fB.n
  have fBd := fB.d
  cases hg : goodT l cs c with
  | false =>
    rw [hg] at p39
    obtain ⟨aC, eC, dC, k6⟩ : ∃ aC, codeA (evalK (EL L5) N (n + 4)) (EL L5) N none (fAt Tryz.f7 [1, 0, 1]) aB σB = some (.ret, aC, σB) ∧ aC.df = [] ∧ aC.get 6 = .b true := by
      simp only [fAt, cAt, Tryz.f7]
      simp [code_region, code_seq, code_cond, code_ret, opsA, oneA, wantedA, opA, kindOf, readA, uponA, writeA, AFr.put, get_set, n_set, df_set, opd, callee?, callA, fBn, fBd, p39, sum_eq, q12, s12]
    exact ⟨σB, call_ret (x := .b true) hfn (show Tryz.f7.body = some (fAt Tryz.f7 []) from rfl) (seq_n eA (seq_ret (seq_n eB eC))) dC (by simp [resultA, resultsA, Tryz.f7, k6])⟩
  | true =>
    rw [hg] at p39
    have eC : codeA (evalK (EL L5) N (n + 4)) (EL L5) N none (fAt Tryz.f7 [1, 0, 1]) aB σB = some (.normal, aB, σB) := by
      simp only [fAt, cAt, Tryz.f7]
      simp [code_skip, code_cond, opd, p39]
    obtain ⟨hlk, hv, hcl, hcv⟩ := good_parts hg
    obtain ⟨hl4, _⟩ := linked_iff hlk
    rcases loop7a (K := evalK (EL L5) N (n + 4)) hN h1 h2 hl4 fB bxB nxB with ⟨aD, σD, eD, fD, bxD, nxD, hth⟩ | ⟨aD, σD, eD, dD, k6⟩
    · obtain ⟨a1, a2, a3, a4, a5, σ1, σ2, σ3, σ4, y, q, e1, e2, e3, e4, e5, g5, hall, kp4, nx4, mr4, mw4⟩ := calls7 (n := n) hN hcs h1 h2 hg hth fD bxD nxD
      obtain ⟨a6, σ6, e6, g6, kp6, nx6, mr6, mw6⟩ := loop7b (n := n + 3) hN h1 (fun τ hk => (hall τ hk).1) rfl hl4 hlk hth g5 kp4 nx4 mr4 mw4
      have hR := inAll_len cs (mine u l) c
      have hO := outAll_len c (mine u l) cs
      have hrl := rdAll_len u l (List.replicate c.length false)
      have hwl := wrAll_len u l zimg
      rw [List.length_replicate] at hrl
      rw [zimg_len] at hwl
      have hrd : ∀ i, (rdAll u l (List.replicate c.length false)).getD i false = false → (inAll cs (mine u l) c).getD i 0 = c.getD i 0 := fun i h => rd_in cs c u i l _ c (by simp) (fun _ => rfl) h
      have hnv := outAll_V hcv (mine u l) hv
      have hdif : ∀ p, p ∈ dif cs (outAll c (mine u l) cs) 192 → ∃ j v, j < 192 ∧ (wrAll u l zimg).getD j 0 ≠ 0 ∧ p = (((j / 64 + 1 : Nat) : Int), ((j % 64 : Nat) : Int), v) := fun p hp => by
        obtain ⟨j, hj, hne, hpe⟩ := dif_mem hp
        refine ⟨j, _, hj, fun h0 => hne ?_, hpe⟩
        rw [wr_keep c u l zimg cs (by rw [zimg_len]; exact hj) (by rw [h0, zimg_at]; exact Int.le_refl _)]
      have hval : ∀ x, x ∈ l → (x.u == u) = true → x.o = true → (wrAll u l zimg).getD (pl x) 0 ≤ 1 → (outAll c (mine u l) cs).getD (pl x) 0 = c.getD x.c.toNat 0 := fun x hx hu ho h => by
        have hpx := pl_lt (link_ok hlk hx).1
        exact wr_one c u hu ho l zimg cs (by rw [zimg_len]; exact hpx) (by omega) (by rw [zimg_at]; exact Int.le_refl _) hx h
      generalize inAll cs (mine u l) c = rr at hall hR hrd
      generalize outAll c (mine u l) cs = nn at hall hO hnv hdif hval
      generalize rdAll u l (List.replicate c.length false) = rd at mr6 hrl hrd
      generalize wrAll u l zimg = wr at mw6 hwl hdif hval
      obtain ⟨bx6, hy6, hq6⟩ := hall σ6 kp6
      obtain ⟨a7, e7, g7⟩ := loop7c (K := evalK (EL L5) N (n + 4)) (N := N) hN h2 bx6 hy6 hR hrl mr6 hcl hrd g6
      obtain ⟨a8, a9, σ9, z, e8, e9, h9, kp9, hgz⟩ := diff7 (n := n) hN hcs (by omega) hv hnv g7 bx6 hq6
      have le9 := kp9.le
      have hk9 : ∀ τ, Keep σ9.next σ9 τ → Keep σ2.next σ2 τ ∧ τ.get (σ2.next + 1) = some (.cells (ints wr) 0 0) := fun τ hk =>
        ⟨kp6.trans (kp9.trans hk (by omega)) (by omega), by rw [hk.same _ (by omega), kp9.same _ (by omega), mw6]⟩
      obtain ⟨aX, σX, eX, ⟨zX, hX⟩, kpX⟩ := loop7d (n := n + 3) hN (fun τ hk => (hgz.keep hk.le fun o _ h => hk.same o h).slAt) (fun τ hk => (hk9 τ hk).2) hwl (dif_len _ _ _) hdif h9
      have hkX : ∀ τ, Keep σX.next σX τ → Keep σ9.next σ9 τ := fun τ hk => kpX.trans hk (by have := kpX.le; omega)
      obtain ⟨aY, σY, eY, nY, dY⟩ := loop7e (n := n + 3) hN h1 h2 (fun τ hk => (hall τ (hk9 τ (hkX τ hk)).1).1) (fun τ hk => (hk9 τ (hkX τ hk)).2) (fun τ hk => (hall τ (hk9 τ (hkX τ hk)).1).2.2) hwl (by omega) hnv hl4 hlk hth hval hX
      obtain ⟨aZ, eZ, dZ, k6⟩ : ∃ aZ, codeA (evalK (EL L5) N (n + 4)) (EL L5) N none (fAt Tryz.f7 [1, 1, 1, 1, 1, 1, 1, 1, 1, 1, 1, 1, 1, 1]) aY σY = some (.ret, aZ, σY) ∧ aZ.df = [] ∧ aZ.get 6 = .b true := by
        simp only [fAt, cAt, Tryz.f7]
        simp [code_region, code_seq, code_ret, opsA, oneA, wantedA, opA, kindOf, readA, uponA, writeA, AFr.put, get_set, n_set, df_set, opd, callee?, callA, nY, dY, sum_eq, q12, s12]
      exact ⟨σY, call_ret (x := .b true) hfn (show Tryz.f7.body = some (fAt Tryz.f7 []) from rfl) (seq_n eA (seq_n (seq_n eB eC) (seq_n eD (seq_n e1 (seq_n e2 (seq_n e3 (seq_n e4 (seq_n e5 (seq_n e6 (seq_n e7 (seq_n e8 (seq_n e9 (seq_n eX (seq_n eY eZ)))))))))))))) dZ (by simp [resultA, resultsA, Tryz.f7, k6])⟩
    · exact ⟨σD, call_ret (x := .b true) hfn (show Tryz.f7.body = some (fAt Tryz.f7 []) from rfl) (seq_n eA (seq_n (seq_n eB eC) (seq_ret eD))) dD (by simp [resultA, resultsA, Tryz.f7, k6])⟩
end Go.Proofs.YtfmbpdacdopkgaaGreatDoor
