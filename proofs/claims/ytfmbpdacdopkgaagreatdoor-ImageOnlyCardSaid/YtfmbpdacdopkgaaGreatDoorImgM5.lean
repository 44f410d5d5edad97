/- image.Set. Conditions: none. -/
import Derived.Test.YtfmbpdacdopkgaaGreatDoorImgM3
namespace Go.Proofs.YtfmbpdacdopkgaaGreatDoor
set_option maxRecDepth 100000
open Go Go.Ai
open Go.RowKit (Below)

abbrev Put3 := Int × Int × Int
def pc (p : Put3) : List AV := [.i p.1, .i p.2.1, .i p.2.2]
def pcs (ps : List Put3) : List (List AV) := ps.map pc
def okP3 (p : Put3) : Bool := okP p.1 p.2.1 p.2.2
def setP (cs : List Int) (p : Put3) : List Int := cs.set ((p.1.toNat - 1) * 64 + p.2.1.toNat) p.2.2
def setAll (cs : List Int) (ps : List Put3) : List Int := ps.foldl setP cs
theorem setP_len (cs : List Int) (p : Put3) : (setP cs p).length = cs.length := by simp [setP]
theorem setAll_len : ∀ (ps : List Put3) (cs : List Int), (setAll cs ps).length = cs.length
  | [], _ => rfl
  | p :: ps, cs => by
    show (setAll (setP cs p) ps).length = _
    rw [setAll_len ps, setP_len]
theorem setAll_take {cs : List Int} {ps : List Put3} {k : Nat} (hk : k < ps.length) : setAll cs (ps.take (k + 1)) = setP (setAll cs (ps.take k)) ps[k] := by
  rw [List.take_succ_eq_append_getElem hk]
  simp only [setAll, List.foldl_append, List.foldl_cons, List.foldl_nil]
theorem pcs_len (ps : List Put3) : (pcs ps).length = ps.length := by simp [pcs]
theorem pcs_at {ps : List Put3} {k : Nat} (hk : k < ps.length) : (pcs ps)[k]? = some [.i ps[k].1, .i ps[k].2.1, .i ps[k].2.2] := by simp [pcs, pc, hk]
theorem agg79 (L : SumL) : (EL L).agg 79 = some true := by simp [Env.agg, und_eq, Tryz.underlying79]

noncomputable def in65 : Code := fAt Tryz.f65 [1, 0, 1, 0, 0]
structure In65 (l : List Put3) (x : AV) (σ0 : St) (k : Nat) (a : AFr) (σ : St) : Prop where
  n : a.n = 19
  d : a.df = []
  g0 : a.get 0 = x
  g1 : a.get 1 = .fn 50 [] []
  g7 : a.get 7 = .i (l.length : Int)
  g8 : a.get 8 = .i (k : Int)
  ok : ∀ j (h : j < l.length), j < k → okP3 l[j] = true
  s : σ = σ0

theorem all_of {α : Type} {l : List α} {q : α → Bool} (h : ∀ j (h : j < l.length), q l[j] = true) : l.all q = true := by
  rw [List.all_eq_true]
  intro y hy
  obtain ⟨j, hj, rfl⟩ := List.getElem_of_mem hy
  exact h j hj
theorem not_all {α : Type} {l : List α} {q : α → Bool} {j : Nat} (hj : j < l.length) (h : q l[j] = false) : l.all q = false := by
  rw [Bool.eq_false_iff, Ne, List.all_eq_true]
  intro h'
  rw [h' _ (List.getElem_mem hj)] at h; cases h
theorem ok_step {α : Type} {l : List α} {q : α → Bool} {k : Nat} (hk : k < l.length) (ok : ∀ j (h : j < l.length), j < k → q l[j] = true) (hv : q l[k] = true) : ∀ j (h : j < l.length), j < k + 1 → q l[j] = true := by
  intro j hj hjk
  rcases Nat.lt_or_ge j k with h | h
  · exact ok j hj h
  · have : j = k := by omega
    subst this; exact hv

theorem call65 {n : Nat} {L : SumL} (h50 : sumOf L 50 = some S50) {N : Nat} {l : List Put3} {x : AV} {σ : St} (hs : SlAt σ 3 x (pcs l)) (hN : l.length < N) (hl : l.length < 4611686018427387904) :
    ∃ r : Int, (evalK (EL L) N (n + 1)).call 65 [x, .fn 50 [] []] σ = some (.ret (.i r), σ) ∧ decide (0 ≤ r) = !l.all okP3 := by
  have hfn : (EL L).fn 65 = some Tryz.f65 := fnL Tryz.func65 rfl
  have hn : (frame0 Tryz.f65 [x, .fn 50 [] []]).n = 19 := rfl
  have g0 : (frame0 Tryz.f65 [x, .fn 50 [] []]).get 0 = x := rfl
  have g1 : (frame0 Tryz.f65 [x, .fn 50 [] []]).get 1 = .fn 50 [] [] := rfl
  have hd : (frame0 Tryz.f65 [x, .fn 50 [] []]).df = [] := rfl
  generalize hfr : frame0 Tryz.f65 [x, .fn 50 [] []] = a at hn g0 g1 hd
  have hlen := hs.len (E := EL L) (t := 55) (el := 79) Tryz.underlying55
  rw [pcs_len] at hlen
  obtain ⟨a1, e1, k1⟩ : ∃ a1, codeA (evalK (EL L) N n) (EL L) N none (.seq (fAt Tryz.f65 [0]) (fAt Tryz.f65 [1, 0, 0])) a σ = some (.normal, a1, σ) ∧ In65 l x σ 0 a1 σ := by
    simp only [fAt, cAt, Tryz.f65]
    simp [code_region, code_seq, opsA, oneA, wantedA, opA, kindOf, readA, uponA, AFr.put, get_set, n_set, opd, hn, g0, hlen]
    exact ⟨by simp [n_set, hn], by simp [df_set, hd], by simp [get_set, g0], by simp [get_set, g1], by simp [get_set], by simp [get_set], (fun j _ h => absurd h (by omega)), rfl⟩
  have hlp := loop_inv (K := evalK (EL L) N n) (E := EL L) (N := N) (c := in65) 0 (In65 l x σ) (fun a' σ' => σ' = σ ∧ a'.df = [] ∧ a'.n = 19 ∧ l.all okP3 = true) (fun a' σ' => σ' = σ ∧ a'.df = [] ∧ (∃ k : Nat, a'.get 4 = .i (k : Int)) ∧ l.all okP3 = false) l.length
    (fun k a σ' hk hI => by
      obtain ⟨hn, hd, g0, g1, g7, g8, ok, rfl⟩ := hI
      have hlt : (k : Int) < (l.length : Int) := by omega
      obtain ⟨p, hp, hr⟩ := hs.at (E := EL L) (t := 55) (el := 79) Tryz.underlying55 (z79 L) (pcs_at hk) (k := .i64)
      have hld := load_agg (agg79 L) (z79 L) hr
      have hw := wrap_nat (n := k) (by omega)
      cases hv : okP3 l[k] with
      | true =>
        left
        have hok := ok_step hk ok hv
        unfold okP3 at hv
        simp only [in65, fAt, cAt, Tryz.f65]
        simp [code_skip, code_region, code_seq, code_cond, code_block, opsA, oneA, wantedA, opA, kindOf, readA, uponA, writeA, AFr.put, get_set, n_set, opd, callee?, callA, cmp_lss, ar_add, ex2, hn, g0, g1, g7, g8, hlt, hp, hld, sum_eq, h50, S50, hv, hw]
        exact ⟨by simp [n_set, hn], by simp [df_set, hd], by simp [get_set, g0], by simp [get_set, g1], by simp [get_set, g7], by simp [get_set], hok, rfl⟩
      | false =>
        right
        have hall := not_all hk hv
        unfold okP3 at hv
        simp only [in65, fAt, cAt, Tryz.f65]
        simp [code_skip, code_region, code_seq, code_cond, code_block, code_ret, opsA, oneA, wantedA, opA, kindOf, readA, uponA, writeA, AFr.put, get_set, n_set, df_set, opd, callee?, callA, cmp_lss, ex2, hn, hd, g0, g1, g7, g8, hlt, hp, hld, sum_eq, h50, S50, hv]
        exact ⟨⟨k, rfl⟩, by simpa using hall⟩)
    (fun a σ' hI => by
      obtain ⟨hn, hd, g0, g1, g7, g8, ok, rfl⟩ := hI
      have hall : l.all okP3 = true := all_of fun j h => ok j h h
      simp only [in65, fAt, cAt, Tryz.f65]
      simp [code_region, code_seq, code_cond, code_exit, opsA, oneA, wantedA, opA, kindOf, readA, uponA, AFr.put, get_set, n_set, df_set, opd, cmp_lss, ex2, hn, hd, g7, g8]
      simpa using hall) hN k1
  rcases hlp with ⟨a2, σ2, e2, rfl, d2, n2, hall⟩ | ⟨a2, σ2, e2, rfl, d2, ⟨k, k2⟩, hall⟩
  · have e3 : codeA (evalK (EL L) N n) (EL L) N none (fAt Tryz.f65 [1, 1]) a2 σ2 = some (.ret, a2.set 4 (.i (-1)), σ2) := by
      simp only [fAt, cAt, Tryz.f65]
      simp [code_region, code_seq, code_ret, opsA, oneA, wantedA, opA, kindOf, readA, uponA, AFr.put, opd, n2]
    exact ⟨-1, call_ret hfn (show Tryz.f65.body = some (fAt Tryz.f65 []) from rfl) (by rw [hfr]; exact body_n e1 e2 e3) (by rw [df_set]; exact d2) (by simp [resultA, resultsA, Tryz.f65, get_set]), by rw [hall]; rfl⟩
  · exact ⟨k, call_ret hfn (show Tryz.f65.body = some (fAt Tryz.f65 []) from rfl) (by rw [hfr]; exact body_ret e1 e2) d2 (by simp [resultA, resultsA, Tryz.f65, k2]), by rw [hall]; simp⟩

theorem call49 {n : Nat} {L : SumL} (h50 : sumOf L 50 = some S50) (h65 : sumOf L 65 = none) {N : Nat} {l : List Put3} {x : AV} {σ : St} (hs : SlAt σ 3 x (pcs l)) (hN : l.length < N) (hl : l.length < 4611686018427387904) :
    (evalK (EL L) N (n + 2)).call 49 [x, .fn 50 [] []] σ = some (.ret (.b (!l.all okP3)), σ) := by
  have hfn : (EL L).fn 49 = some Tryz.f49 := fnL Tryz.func49 rfl
  have f65 : (EL L).fn 65 = some Tryz.f65 := fnL Tryz.func65 rfl
  have hn : (frame0 Tryz.f49 [x, .fn 50 [] []]).n = 9 := rfl
  have g0 : (frame0 Tryz.f49 [x, .fn 50 [] []]).get 0 = x := rfl
  have g1 : (frame0 Tryz.f49 [x, .fn 50 [] []]).get 1 = .fn 50 [] [] := rfl
  have hd : (frame0 Tryz.f49 [x, .fn 50 [] []]).df = [] := rfl
  generalize hfr : frame0 Tryz.f49 [x, .fn 50 [] []] = a at hn g0 g1 hd
  obtain ⟨r, hc, hr⟩ := call65 (n := n) (L := L) h50 hs hN hl
  generalize l.all okP3 = b at hr
  have hc' : ∃ a', codeA (evalK (EL L) N (n + 1)) (EL L) N none (fAt Tryz.f49 []) a σ = some (.ret, a', σ) ∧ a'.df = [] ∧ a'.get 4 = .b (!b) := by
    simp only [fAt, cAt, Tryz.f49]
    simp [code_region, code_seq, code_ret, opsA, oneA, wantedA, opA, kindOf, readA, uponA, writeA, AFr.put, get_set, n_set, df_set, opd, callee?, callA, cmp_geq, hn, g0, g1, hd, sum_eq, h65, f65, hc, hr]
  obtain ⟨a', e1, e2, e3⟩ := hc'
  exact call_ret (x := .b (!b)) hfn (show Tryz.f49.body = some (fAt Tryz.f49 []) from rfl) (by rw [hfr]; exact e1) e2 (by simp [resultA, resultsA, Tryz.f49, e3])

theorem splice_set {cs : List Int} {j : Nat} {v : Int} (hj : j < cs.length) : splice (ints cs) j [.i v] = ints (cs.set j v) := by
  unfold splice
  simp only [List.length_singleton, ints_take, ints_drop]
  rw [List.set_eq_take_append_cons_drop, if_pos hj]
  simp [ints]
theorem st3 {L : SumL} {σ : St} {o j : Nat} {cs : List Int} {v : Int} (h : σ.get o = some (.cells (ints cs) 0 0)) (hj : j < cs.length) : storeA (EL L) σ 3 (.ptr o j 0 1) (.i v) = some (σ.set o (.cells (ints (cs.set j v)) 0 0)) := by
  have hle : j + 1 ≤ (ints cs).length := by rw [ints_len]; omega
  simp [storeA, z3, AV.cells?, Value.cells, wrCells, AV.one, lone1, h, hle, splice_set hj]

noncomputable def in24 : Code := fAt Tryz.f24 [1, 1, 1, 0, 1, 0, 0]
structure In24 (cs : List Int) (l : List Put3) (x : AV) (b : Nat) (σ0 : St) (k : Nat) (a : AFr) (σ : St) : Prop where
  n : a.n = 37
  d : a.df = []
  g4 : a.get 4 = .ptr (b + 1) 0 0 192
  g6 : a.get 6 = .ptr (b + 2) 0 0 192
  g19 : a.get 19 = x
  g20 : a.get 20 = .i (l.length : Int)
  g21 : a.get 21 = .i (k : Int)
  m1 : σ.get (b + 1) = some (.cells (ints zimg) 0 0)
  m2 : σ.get (b + 2) = some (.cells (ints (setAll cs (l.take k))) 0 0)
  nx : b + 3 ≤ σ.next
  kp : Keep b σ0 σ

theorem in24_step {n : Nat} {L : SumL} (h44 : sumOf L 44 = none) {N b : Nat} {cs : List Int} (hc : cs.length = 192) {l : List Put3} {x : AV} {σ0 : St} (hs : ∀ σ, Keep b σ0 σ → SlAt σ 3 x (pcs l)) (hl : l.length < 4611686018427387904) {k : Nat} (hk : k < l.length) (hok : okP3 l[k] = true) {a : AFr} {σ : St} (h : In24 cs l x b σ0 k a σ) :
    ∃ a' σ', codeA (evalK (EL L) N (n + 1)) (EL L) N none in24 a σ = some (.normal, a', σ') ∧ In24 cs l x b σ0 (k + 1) a' σ' := by
  obtain ⟨hn, hd, g4, g6, g19, g20, g21, m1, m2, nx, kp⟩ := h
  have hlt : (k : Int) < (l.length : Int) := by omega
  obtain ⟨p, hp, hr⟩ := (hs σ kp).at (E := EL L) (t := 55) (el := 79) Tryz.underlying55 (z79 L) (pcs_at hk) (k := .i64)
  have hld := load_agg (agg79 L) (z79 L) hr
  have hw := wrap_nat (n := k) (by omega)
  have hP : isP l[k].1 l[k].2.1 = true := by
    unfold okP3 okP at hok
    simp at hok; exact hok.1
  have hP := isP_true hP
  have hset := setAll_take (cs := cs) hk
  have hcl : (setAll cs (l.take k)).length = 192 := by rw [setAll_len, hc]
  generalize hcur : setAll cs (l.take k) = cur at m2 hset hcl
  have e1 : l[k].1 = (l[k].1.toNat : Int) := by omega
  have e2 : l[k].2.1 = (l[k].2.1.toNat : Int) := by omega
  unfold setP at hset
  generalize l[k].1.toNat = ar at e1 hset
  generalize l[k].2.1.toNat = s at e2 hset
  generalize l[k].2.2 = v at hset hld
  rw [e1, e2] at hld hP
  have hst := st79 (L := L) (σ := σ.add (.cells [.i 0, .i 0, .i 0] 0 0)) (o := σ.next) (x := .i (ar : Int)) (y := .i (s : Int)) (z := .i v) (St.get_add_same _ _) rfl rfl rfl
  generalize hτ : (σ.add (.cells [.i 0, .i 0, .i 0] 0 0)).set σ.next (.cells [.i (ar : Int), .i (s : Int), .i v] 0 0) = τ at hst
  have gp : τ.get σ.next = some (.cells [.i (ar : Int), .i (s : Int), .i v] 0 0) := by rw [← hτ, get_sset, if_pos rfl]
  have go : ∀ o, o < σ.next → τ.get o = σ.get o := fun o ho => by rw [← hτ, get_sset, if_neg (by omega), get_sadd, if_neg (by omega)]
  have nτ : τ.next = σ.next + 1 := by rw [← hτ]; rfl
  have k0 := fa79 (L := L) (o := σ.next) (i := 0) (g := 0) (e := 3) (k := 0) (by omega) (by omega)
  have k1 := fa79 (L := L) (o := σ.next) (i := 0) (g := 0) (e := 3) (k := 1) (by omega) (by omega)
  have k2 := fa79 (L := L) (o := σ.next) (i := 0) (g := 0) (e := 3) (k := 2) (by omega) (by omega)
  have l0 : loadA (EL L) τ 3 (.ptr σ.next (0 + 0) 0 1) = some (.i (ar : Int)) := load_one (agg3 L) (by simp [rdCells, gp])
  have l1 : loadA (EL L) τ 3 (.ptr σ.next (0 + 1) 0 1) = some (.i (s : Int)) := load_one (agg3 L) (by simp [rdCells, gp])
  have l2 : loadA (EL L) τ 3 (.ptr σ.next (0 + 2) 0 1) = some (.i v) := load_one (agg3 L) (by simp [rdCells, gp])
  have hc44 : (evalK (EL L) N (n + 1)).call 44 [.ptr (b + 2) 0 0 192, .i (ar : Int)] τ = some (.ret (.ptr (b + 2) ((ar - 1) * 64) 0 64), τ) := area44 (by omega) (by omega)
  have hi := ix35 (L := L) (o := b + 2) (b := (ar - 1) * 64) (g := 0) (s := s) (by omega)
  have hw3 := st3 (L := L) (σ := τ) (o := b + 2) (j := (ar - 1) * 64 + s) (v := v) (by rw [go _ (by omega)]; exact m2) (by omega)
  simp only [Nat.zero_add] at k0 k1 k2 l0 l1 l2
  simp only [in24, fAt, cAt, Tryz.f24]
  simp [code_skip, code_region, code_draw, code_seq, code_cond, code_block, opsA, oneA, wantedA, opA, kindOf, readA, uponA, writeA, AFr.put, get_set, n_set, df_set, opd, callee?, callA, cmp_lss, ar_add, ex2, regionA, dops, dopsGo, befOf, Region.binds, drawOk, nodupB, hasDefer, eager, drawA, dim, unord, sameIn, chk, beq_self, Nat.testBit, next_set, hn, hd, g6, g19, g20, g21, hlt, hp, hld, al79, hst, k0, k1, k2, l0, l1, l2, sum_eq, h44, fn44, hc44, hi, hw3, hw]
  refine ⟨by simp [n_set, hn], by simp [df_set, hd], by simp [get_set, g4], by simp [get_set, g6], by simp [get_set, g19], by simp [get_set, g20], by simp [get_set], ?_, ?_, ?_, ?_⟩
  · rw [get_sset, if_neg (by omega), go _ (by omega)]; exact m1
  · rw [get_sset, if_pos rfl, hset]
  · rw [next_set, nτ]; omega
  · exact kp.trans (b := b) (c := b) ⟨by rw [next_set, nτ]; omega, fun o ho => by rw [get_sset, if_neg (by omega), go _ (by omega)]⟩ (Nat.le_refl _)

/-- The image of zeros, built. -/
theorem bd37z {L : SumL} : buildA (EL L) 37 [] = some (.agg (ints zimg)) := by
  obtain ⟨v, hv, hc⟩ := zero37 L
  simp only [buildA, hv, und_eq, Tryz.underlying37, fillA]
  simp [z35, hc]

/-- image.Set. -/
theorem call24 {n : Nat} {L : SumL} (h44 : sumOf L 44 = none) (h49 : sumOf L 49 = none) (h65 : sumOf L 65 = none) (h50 : sumOf L 50 = some S50) (h28 : sumOf L 28 = some S28) {N : Nat} {cs : List Int} (hc : cs.length = 192) {l : List Put3} {x : AV} {σ0 : St}
    (hs : ∀ σ, Keep σ0.next σ0 σ → SlAt σ 3 x (pcs l)) (hN : l.length < N) (hl : l.length < 4611686018427387904) :
    ∃ σ', (evalK (EL L) N (n + 3)).call 24 [.agg (ints cs), x] σ0 = some (.ret (if cs.all isV && l.all okP3 then .tup [.agg (ints (setAll cs l)), .i 0] else .tup [.agg (ints zimg), .i 2]), σ') ∧ Keep σ0.next σ0 σ' := by
  have hfn : (EL L).fn 24 = some Tryz.f24 := fnL Tryz.func24 rfl
  have f49 : (EL L).fn 49 = some Tryz.f49 := fnL Tryz.func49 rfl
  have hn : (frame0 Tryz.f24 [.agg (ints cs), x]).n = 37 := rfl
  have g0 : (frame0 Tryz.f24 [.agg (ints cs), x]).get 0 = .agg (ints cs) := rfl
  have g1 : (frame0 Tryz.f24 [.agg (ints cs), x]).get 1 = x := rfl
  have hd : (frame0 Tryz.f24 [.agg (ints cs), x]).df = [] := rfl
  generalize hfr : frame0 Tryz.f24 [.agg (ints cs), x] = a at hn g0 g1 hd
  have h28e := S28_eq hc
  -- regions 0 and 1
  have gA0 : ((σ0.add (.cells (ints cs) 0 0)).add (.cells (ints zimg) 0 0)).get σ0.next = some (.cells (ints cs) 0 0) := by
    rw [get_sadd, if_neg (by rw [next_add]; omega), get_sadd, if_pos rfl]
  have gA1 : ((σ0.add (.cells (ints cs) 0 0)).add (.cells (ints zimg) 0 0)).get (σ0.next + 1) = some (.cells (ints zimg) 0 0) := by
    rw [get_sadd, if_pos (by rw [next_add])]
  have kA : Keep σ0.next σ0 ((σ0.add (.cells (ints cs) 0 0)).add (.cells (ints zimg) 0 0)) := (Keep.add _ (Nat.le_refl _)).trans (Keep.add (b := σ0.next) _ (by rw [next_add]; omega)) (Nat.le_refl _)
  have nA : ((σ0.add (.cells (ints cs) 0 0)).add (.cells (ints zimg) 0 0)).next = σ0.next + 2 := by rw [next_add, next_add]
  have eA : codeA (evalK (EL L) N (n + 2)) (EL L) N none (fAt Tryz.f24 [0]) a σ0 = some (.normal, ((a.set 2 (.ptr σ0.next 0 0 192)).set 4 (.ptr (σ0.next + 1) 0 0 192)).set 5 (.i 0), (σ0.add (.cells (ints cs) 0 0)).add (.cells (ints zimg) 0 0)) := by
    simp only [fAt, cAt, Tryz.f24]
    have hb : ∀ (b : AFr) (o : Oper), o.op = .box 37 (.tmp 0) → b.get 0 = .agg (ints cs) → allocA (EL L) b o = some (.cells (ints cs) 0 0, fun n => .ptr n 0 0 192) := by
      intro b o ho hb
      simp [allocA, ho, opd, hb, AV.cells?, ints_len, hc]
    simp [code_region, opsA, oneA, wantedA, opA, kindOf, readA, uponA, AFr.put, n_set, opd, hn, g0, hb, al37, next_add]
  generalize (σ0.add (.cells (ints cs) 0 0)).add (.cells (ints zimg) 0 0) = σA at gA0 gA1 kA nA eA
  have h49c := call49 (n := n) (L := L) h50 h65 (hs σA kA) hN hl
  have hB : ∃ aB, codeA (evalK (EL L) N (n + 2)) (EL L) N none (fAt Tryz.f24 [1, 0, 0]) (((a.set 2 (.ptr σ0.next 0 0 192)).set 4 (.ptr (σ0.next + 1) 0 0 192)).set 5 (.i 0)) σA = some (.normal, aB, σA) ∧ aB.n = 37 ∧ aB.df = [] ∧ aB.get 1 = x ∧ aB.get 2 = .ptr σ0.next 0 0 192 ∧ aB.get 4 = .ptr (σ0.next + 1) 0 0 192 ∧
      aB.get 15 = .b (!(cs.all isV && l.all okP3)) := by
    simp only [fAt, cAt, Tryz.f24]
    generalize l.all okP3 = b2 at h49c
    cases hb1 : cs.all isV
    · rw [hb1] at h28e
      simp [code_region, opsA, oneA, wantedA, opA, kindOf, readA, uponA, writeA, AFr.put, get_set, n_set, df_set, opd, callee?, callA, ne_int, hn, hd, g1, ld37 gA0 hc, sum_eq, h28, h28e]
    · rw [hb1] at h28e
      cases b2 <;> simp [code_region, opsA, oneA, wantedA, opA, kindOf, readA, uponA, writeA, AFr.put, get_set, n_set, df_set, opd, callee?, callA, ne_int, hn, hd, g1, ld37 gA0 hc, sum_eq, h28, h28e, h49, f49, h49c]
  obtain ⟨aB, eB, nB, dB, k1, k2, k4, k15⟩ := hB
  cases hok : (cs.all isV && l.all okP3) with
  | false =>
    rw [hok] at k15
    have hz := bd37z (L := L)
    have hst := st37 (L := L) (σ := σA) (o := σ0.next + 1) (cs := zimg) gA1 rep_len zimg_len
    have eC : ∃ aC, codeA (evalK (EL L) N (n + 2)) (EL L) N none (fAt Tryz.f24 [1, 0, 1]) aB σA = some (.ret, aC, σA.set (σ0.next + 1) (.cells (ints zimg) 0 0)) ∧ aC.df = [] ∧ aC.get 4 = .ptr (σ0.next + 1) 0 0 192 ∧ aC.get 5 = .i 2 := by
      simp only [fAt, cAt, Tryz.f24]
      simp [code_region, code_seq, code_cond, code_ret, opsA, oneA, wantedA, opA, kindOf, readA, uponA, writeA, AFr.put, get_set, n_set, df_set, opd, nB, dB, k15, k4, hz, hst]
    obtain ⟨aC, eC, dC, c4, c5⟩ := eC
    have hl' := ld37 (L := L) (σ := σA.set (σ0.next + 1) (.cells (ints zimg) 0 0)) (o := σ0.next + 1) (by rw [get_sset, if_pos rfl]) zimg_len
    refine ⟨_, call_ret hfn (show Tryz.f24.body = some (fAt Tryz.f24 []) from rfl) (by rw [hfr]; exact seq_n eA (seq_ret (seq_n eB eC))) dC (by simp [resultA, resultsA, Tryz.f24, c4, c5, hl']), kA.trans (Keep.set (b := σ0.next) _ (by omega)) (Nat.le_refl _)⟩
  | true =>
    rw [hok] at k15
    have hokl : l.all okP3 = true := by simp at hok; simpa using hok.2
    have eC : codeA (evalK (EL L) N (n + 2)) (EL L) N none (fAt Tryz.f24 [1, 0, 1]) aB σA = some (.normal, aB, σA) := by
      simp only [fAt, cAt, Tryz.f24]
      simp [code_skip, code_cond, opd, k15]
    have hst := st96 (L := L) (σ := σA.add (.cells (ints zimg) 0 0)) (o := σ0.next + 2) (cs := cs) (by rw [get_sadd, if_pos nA]) rep_len hc
    have hlen := (hs σA kA).len (E := EL L) (t := 55) (el := 79) Tryz.underlying55
    rw [pcs_len] at hlen
    have eD : ∃ aD σD, codeA (evalK (EL L) N (n + 2)) (EL L) N none (fAt Tryz.f24 [1, 1, 0]) aB σA = some (.normal, aD, σD) ∧ aD.n = 37 ∧ aD.df = [] ∧ aD.get 1 = x ∧ aD.get 4 = .ptr (σ0.next + 1) 0 0 192 ∧ aD.get 6 = .ptr (σ0.next + 2) 0 0 192 ∧
        σD = (σA.add (.cells (ints zimg) 0 0)).set (σ0.next + 2) (.cells (ints cs) 0 0) := by
      simp only [fAt, cAt, Tryz.f24]
      simp [code_region, opsA, oneA, wantedA, opA, kindOf, readA, uponA, writeA, AFr.put, get_set, n_set, df_set, opd, ex2, nB, dB, k1, k2, k4, ld37 gA0 hc, bd96 hc, al96, nA, hst]
    obtain ⟨aD, σD, eD, nD, dD, d1, d4, d6, hσD⟩ := eD
    have kD : Keep σ0.next σ0 σD := by
      rw [hσD]
      exact (kA.trans (Keep.add (b := σ0.next) _ (by omega)) (Nat.le_refl _)).trans (Keep.set (b := σ0.next) _ (by omega)) (Nat.le_refl _)
    have hlenD := (hs σD kD).len (E := EL L) (t := 55) (el := 79) Tryz.underlying55
    rw [pcs_len] at hlenD
    have eE : ∃ aE, codeA (evalK (EL L) N (n + 2)) (EL L) N none (fAt Tryz.f24 [1, 1, 1, 0, 0]) aD σD = some (.normal, aE, σD) ∧ In24 cs l x σ0.next σ0 0 aE σD := by
      simp only [fAt, cAt, Tryz.f24]
      simp [code_region, opsA, oneA, wantedA, opA, kindOf, readA, uponA, AFr.put, get_set, n_set, opd, nD, d1, hlenD]
      refine ⟨by simp [n_set, nD], by simp [df_set, dD], by simp [get_set, d4], by simp [get_set, d6], by simp [get_set], by simp [get_set], by simp [get_set], ?_, ?_, ?_, kD⟩
      · rw [hσD, get_sset, if_neg (by omega), get_sadd, if_neg (by omega)]; exact gA1
      · rw [hσD, get_sset, if_pos rfl]; rfl
      · rw [hσD, next_set, next_add]; omega
    obtain ⟨aE, eE, iE⟩ := eE
    obtain ⟨aF, σF, eF, iF⟩ := loop_all (K := evalK (EL L) N (n + 2)) (E := EL L) (N := N) (c := in24) 0 (In24 cs l x σ0.next σ0) (fun a σ => ∃ b, In24 cs l x σ0.next σ0 l.length b σ ∧ a.n = 37 ∧ a.df = [] ∧ a.get 4 = .ptr (σ0.next + 1) 0 0 192 ∧ a.get 6 = .ptr (σ0.next + 2) 0 0 192) l.length
      (fun k a σ hk hI => in24_step (n := n + 1) h44 hc hs hl hk ((List.all_eq_true.1 hokl) _ (List.getElem_mem hk)) hI)
      (fun a σ hI => by
        have hn := hI.n
        have g20 := hI.g20
        have g21 := hI.g21
        simp only [in24, fAt, cAt, Tryz.f24]
        simp [code_region, code_seq, code_cond, code_exit, opsA, oneA, wantedA, opA, kindOf, readA, uponA, AFr.put, get_set, n_set, df_set, opd, cmp_lss, ex2, hn, g20, g21]
        exact ⟨⟨a, hI⟩, hI.d, hI.g4, hI.g6⟩) hN iE
    obtain ⟨bF, iF, nF, dF, f4, f6⟩ := iF
    have m2 := iF.m2
    rw [List.take_length] at m2
    have hlenF : (setAll cs l).length = 192 := by rw [setAll_len, hc]
    have hf96 : fieldAddrA (EL L) 96 (.ptr (σ0.next + 2) 0 0 192) 0 = some (.ptr (σ0.next + 2) 0 0 192) := by simp [fieldAddrA, und_eq, Tryz.underlying96, z37]
    have hst2 := st37 (L := L) (σ := σF) (o := σ0.next + 1) iF.m1 rep_len hlenF
    have eG : ∃ aG, codeA (evalK (EL L) N (n + 2)) (EL L) N none (fAt Tryz.f24 [1, 1, 1, 1]) aF σF = some (.ret, aG, σF.set (σ0.next + 1) (.cells (ints (setAll cs l)) 0 0)) ∧ aG.df = [] ∧ aG.get 4 = .ptr (σ0.next + 1) 0 0 192 ∧ aG.get 5 = .i 0 := by
      simp only [fAt, cAt, Tryz.f24]
      simp [code_region, code_seq, code_ret, opsA, oneA, wantedA, opA, kindOf, readA, uponA, writeA, AFr.put, get_set, n_set, df_set, opd, nF, dF, f4, f6, hf96, ld37 m2 hlenF, hst2]
    obtain ⟨aG, eG, dG, g4, g5⟩ := eG
    have hl' := ld37 (L := L) (σ := σF.set (σ0.next + 1) (.cells (ints (setAll cs l)) 0 0)) (o := σ0.next + 1) (by rw [get_sset, if_pos rfl]) hlenF
    refine ⟨_, call_ret hfn (show Tryz.f24.body = some (fAt Tryz.f24 []) from rfl) (by rw [hfr]; exact seq_n eA (seq_n (seq_n eB eC) (seq_n eD (seq_n (seq_n eE eF) eG)))) dG (by simp [resultA, resultsA, Tryz.f24, g4, g5, hl']), iF.kp.trans (Keep.set (b := σ0.next) _ (by omega)) (Nat.le_refl _)⟩
end Go.Proofs.YtfmbpdacdopkgaaGreatDoor

namespace Go.Proofs.YtfmbpdacdopkgaaGreatDoor
set_option maxRecDepth 100000
open Go Go.Ai
open Go.RowKit (Below)

noncomputable def infoOk (t sz : Nat) : Bool :=
  match Tryz.prog.info? t with
  | some i => i.size == sz && decide (i.bytes ≤ 65536) && (match i.zero with | some z => z.cells.size == sz | none => false)
  | none => false
theorem infoOk_spec {t sz : Nat} (h : infoOk t sz = true) : ∃ i z, Tryz.prog.info? t = some i ∧ i.zero = some z ∧ i.size = sz ∧ z.cells.size = sz ∧ i.bytes ≤ 65536 := by
  unfold infoOk at h
  split at h
  · rename_i i hi
    simp only [Bool.and_eq_true, beq_iff_eq, decide_eq_true_eq] at h
    obtain ⟨⟨h1, h2⟩, h3⟩ := h
    split at h3
    · rename_i z hz
      exact ⟨i, z, hi, hz, h1, by simpa using h3, h2⟩
    · cases h3
  · cases h
theorem inf79 (L : SumL) : ∃ i z, (EL L).inf 79 = some i ∧ i.zero = some z ∧ i.size = 3 ∧ z.cells.size = 3 ∧ i.bytes ≤ 65536 := infoOk_spec (show infoOk 79 3 = true by kernel_rfl)

theorem bs79 {L : SumL} {a : AFr} {o : Oper} {t : Nat} {x y z : AV} (h : o.op = .buildSlice 55 1 #[(0, .tmp t)]) (ht : a.get t = .agg [x, y, z]) : allocA (EL L) a o = some (.cells [x, y, z] 0 0, fun id => .sl id 0 1 0 3) := by
  simp [allocA, h, und_eq, Tryz.underlying55, z79, zeros, zero79, Value.cells, repl, fillA, opd, ht, AV.cells?, splice]

theorem agg55 (L : SumL) : (EL L).agg 55 = some false := by simp [Env.agg, und_eq, Tryz.underlying55]
theorem ld55 {L : SumL} {σ : St} {o : Nat} {x : AV} (h : σ.get o = some (.cells [x] 0 0)) : loadA (EL L) σ 55 (.ptr o 0 0 1) = some x := load_one (agg55 L) (by simp [rdCells, h])
theorem st55 {L : SumL} {σ : St} {o : Nat} {x y : AV} (h : σ.get o = some (.cells [x] 0 0)) (hy : y.cells? = some [y]) (h1 : y.one = true) : storeA (EL L) σ 55 (.ptr o 0 0 1) y = some (σ.set o (.cells [y] 0 0)) := by
  simp [storeA, z55, hy, wrCells, h, h1, splice]
theorem ld79 {L : SumL} {σ : St} {o : Nat} {x y z : AV} (h : σ.get o = some (.cells [x, y, z] 0 0)) : loadA (EL L) σ 79 (.ptr o 0 0 3) = some (.agg [x, y, z]) := load_agg (agg79 L) (z79 L) (by simp [rdCells, h])

/-- The puts that lead from an image to another one, of the first places. -/
def dif (ca cb : List Int) : Nat → List Put3
  | 0 => []
  | k + 1 => dif ca cb k ++ if ca.getD k 0 = cb.getD k 0 then [] else [(((k / 64 + 1 : Nat) : Int), ((k % 64 : Nat) : Int), cb.getD k 0)]
theorem dif_len (ca cb : List Int) : ∀ k, (dif ca cb k).length ≤ k
  | 0 => Nat.le_refl _
  | k + 1 => by
    have := dif_len ca cb k
    simp only [dif, List.length_append]
    split <;> simp <;> omega
theorem pcs_append (l m : List Put3) : pcs (l ++ m) = pcs l ++ pcs m := by simp [pcs]

noncomputable def asg23 : Code := rgAsg (fAt Tryz.f23 [1, 1, 1, 1, 0, 1, 0])
noncomputable def bdy23 : Code := fAt Tryz.f23 [1, 1, 1, 1, 0, 1, 0, 0]
noncomputable def r23 (A : AFr) (d : Nat) : ALoop := { state := .ready, pending := none, tm := A, params := [23], assign := asg23, body := bdy23, dfr := d }

theorem asg23_run {K : Kont} {L : SumL} {N l : Nat} {σ : St} {a : AFr} {x y z : Int} (hn : a.n = 40) (h23 : a.get 23 = .agg [.i x, .i y, .i z]) :
    codeA K (EL L) N (some l) asg23 a σ = some (.normal, a.set 9 (.ptr σ.next 0 0 3), (σ.add (.cells [.i 0, .i 0, .i 0] 0 0)).set σ.next (.cells [.i x, .i y, .i z] 0 0)) := by
  have hst := st79 (L := L) (σ := σ.add (.cells [.i 0, .i 0, .i 0] 0 0)) (o := σ.next) (x := .i x) (y := .i y) (z := .i z) (St.get_add_same _ _) rfl rfl rfl
  simp only [asg23, rgAsg, fAt, cAt, Tryz.f23]
  rw [code_region_ro _ _ _ rfl]
  simp [opsA, oneA, wantedA, opA, kindOf, uponA, writeA, AFr.put, get_set, opd, hn, h23, al79, hst]

/-- A round of Diff. -/
theorem round23 {n : Nat} {L : SumL} (h44 : sumOf L 44 = none) {N l f v c d : Nat} {σ : St} {A : AFr} {y0 : AV} {ps : List Put3} {ca : List Int} (hca : ca.length = 192) (hl : σ.get l = some (.loop (r23 A d))) (hA : A.n = 40) (hA6 : A.get 6 = .ptr f 0 0 192) (hA8 : A.get 8 = .ptr v 0 0 1)
    (hf : σ.get f = some (.cells (ints ca) 0 0)) (hv : σ.get v = some (.cells [y0] 0 0)) (hg : Grow c σ 3 y0 (pcs ps)) (hps : ps.length < 1048576) (lc : l < c) (fc : f < c) (vc : v < c) (cn : c ≤ σ.next) (hlv : l ≠ v) (hlf : l ≠ f) (_hfv : f ≠ v) {ar s : Nat} (h1 : 1 ≤ ar) (h3 : ar ≤ 3) (hs : s < 64) (w : Int) :
    ∃ y σ', roundBody (evalK (EL L) N (n + 1)) (EL L) N l [.agg [.i (ar : Int), .i (s : Int), .i w]] σ = some (.ret (.b true), σ') ∧ σ'.get l = some (.loop (r23 A d)) ∧ σ'.get v = some (.cells [y] 0 0) ∧
      Grow c σ' 3 y (pcs (ps ++ if ca.getD ((ar - 1) * 64 + s) 0 = w then [] else [((ar : Int), (s : Int), w)])) ∧ σ.next ≤ σ'.next ∧ ∀ o, o < c → o ≠ l → o ≠ v → σ'.get o = σ.get o := by
  have hp : setParams (r23 A d).params [.agg [.i (ar : Int), .i (s : Int), .i w]] { (r23 A d).tm with df := [] } = some (({ A with df := [] } : AFr).set 23 (.agg [.i (ar : Int), .i (s : Int), .i w])) := by
    simp [r23, setParams, hA]
  have ha := asg23_run (K := evalK (EL L) N (n + 1)) (L := L) (N := N) (l := l) (σ := σ) (a := ({ A with df := [] } : AFr).set 23 (.agg [.i (ar : Int), .i (s : Int), .i w])) (x := ar) (y := s) (z := w) (by simp [n_set, hA]) (by simp [get_set])
  generalize hσ₁ : (σ.add (.cells [.i 0, .i 0, .i 0] 0 0)).set σ.next (.cells [.i (ar : Int), .i (s : Int), .i w] 0 0) = σ₁ at ha
  have n1 : σ₁.next = σ.next + 1 := by rw [← hσ₁]; rfl
  have gp : σ₁.get σ.next = some (.cells [.i (ar : Int), .i (s : Int), .i w] 0 0) := by rw [← hσ₁, get_sset, if_pos rfl]
  have go : ∀ o, o < σ.next → σ₁.get o = σ.get o := fun o ho => by rw [← hσ₁, get_sset, if_neg (by omega), get_sadd, if_neg (by omega)]
  have hl1 : σ₁.get l = some (.loop (r23 A d)) := (go l (by omega)).trans hl
  generalize ha1 : ((({ A with df := [] } : AFr).set 23 (.agg [.i (ar : Int), .i (s : Int), .i w])).set 9 (.ptr σ.next 0 0 3)) = a₁ at ha
  have b1 : a₁.n = 40 := by rw [← ha1]; simp [n_set, hA]
  have b2 : a₁.df = [] := by rw [← ha1]; rfl
  have b9 : a₁.get 9 = .ptr σ.next 0 0 3 := by rw [← ha1]; simp [get_set]
  have b6 : a₁.get 6 = .ptr f 0 0 192 := by rw [← ha1]; simp [get_set]; exact hA6
  have b8 : a₁.get 8 = .ptr v 0 0 1 := by rw [← ha1]; simp [get_set]; exact hA8
  generalize hτ : σ₁.set l (.loop { r23 A d with state := .busy }) = τ
  have gτp : τ.get σ.next = some (.cells [.i (ar : Int), .i (s : Int), .i w] 0 0) := by rw [← hτ, get_sset, if_neg (by omega)]; exact gp
  have gτl : τ.get l = some (.loop { r23 A d with state := .busy }) := by rw [← hτ, get_sset, if_pos rfl]
  have gτo : ∀ o, o < σ.next → o ≠ l → τ.get o = σ.get o := fun o ho h => by rw [← hτ, get_sset, if_neg (Ne.symm h), go o ho]
  have gτf : τ.get f = some (.cells (ints ca) 0 0) := (gτo f (by omega) (Ne.symm hlf)).trans hf
  have gτv : τ.get v = some (.cells [y0] 0 0) := (gτo v (by omega) (Ne.symm hlv)).trans hv
  have nτ : τ.next = σ.next + 1 := by rw [← hτ, next_set, n1]
  have k0 := fa79 (L := L) (o := σ.next) (i := 0) (g := 0) (e := 3) (k := 0) (by omega) (by omega)
  have k1 := fa79 (L := L) (o := σ.next) (i := 0) (g := 0) (e := 3) (k := 1) (by omega) (by omega)
  have k2 := fa79 (L := L) (o := σ.next) (i := 0) (g := 0) (e := 3) (k := 2) (by omega) (by omega)
  have l0 : loadA (EL L) τ 3 (.ptr σ.next (0 + 0) 0 1) = some (.i (ar : Int)) := load_one (agg3 L) (by simp [rdCells, gτp])
  have l1 : loadA (EL L) τ 3 (.ptr σ.next (0 + 1) 0 1) = some (.i (s : Int)) := load_one (agg3 L) (by simp [rdCells, gτp])
  have l2 : loadA (EL L) τ 3 (.ptr σ.next (0 + 2) 0 1) = some (.i w) := load_one (agg3 L) (by simp [rdCells, gτp])
  simp only [Nat.zero_add] at k0 k1 k2 l0 l1 l2
  have hc44 : (evalK (EL L) N (n + 1)).call 44 [.ptr f 0 0 192, .i (ar : Int)] τ = some (.ret (.ptr f ((ar - 1) * 64) 0 64), τ) := area44 h1 h3
  have hi := ix35 (L := L) (o := f) (b := (ar - 1) * 64) (g := 0) (s := s) hs
  have lf : loadA (EL L) τ 3 (.ptr f ((ar - 1) * 64 + s) 0 1) = some (.i (ca.getD ((ar - 1) * 64 + s) 0)) := load_one (agg3 L) (rd_ints gτf (by omega))
  generalize ca.getD ((ar - 1) * 64 + s) 0 = u at lf
  have gτg : Grow c τ 3 y0 (pcs ps) := hg.keep (by omega) fun o h h' => gτo o h' (by omega)
  by_cases huw : u = w
  · subst huw
    have hb : ∃ a₂, codeA (evalK (EL L) N (n + 1)) (EL L) N (some l) bdy23 a₁ τ = some (.normal, a₂, τ) ∧ a₂.df = [] := by
      simp only [bdy23, fAt, cAt, Tryz.f23]
      simp [code_skip, code_draw, code_seq, code_cond, code_block, oneA, wantedA, opA, kindOf, readA, uponA, writeA, AFr.put, get_set, n_set, df_set, opd, callee?, callA, ne_int, regionA, dops, dopsGo, befOf, Region.binds, drawOk, nodupB, hasDefer, eager, drawA, dim, unord, sameIn, chk, beq_self, Nat.testBit, b1, b2, b6, b9, k0, k1, k2, l0, l1, l2, lf, hi, sum_eq, h44, fn44, hc44]
    obtain ⟨a₂, hb, hd⟩ := hb
    refine ⟨y0, _, round_n hl rfl hp ha hl1 (by rw [hτ]; exact hb) hd gτl, by rw [get_sset, if_pos rfl]; rfl, by rw [get_sset, if_neg hlv]; exact gτv, ?_, by rw [next_set, nτ]; omega, fun o ho h _ => by rw [get_sset, if_neg (Ne.symm h), gτo o (by omega) h]⟩
    rw [if_pos rfl, List.append_nil]
    exact gτg.keep (by rw [next_set]; exact Nat.le_refl _) fun o h _ => by rw [get_sset, if_neg (by omega)]
  · obtain ⟨i79, z, hi79, hz79, hsz, hzs, hbt⟩ := inf79 L
    have gτ1 : (τ.add (.cells [.i (ar : Int), .i (s : Int), .i w] 0 0)).get τ.next = some (.cells [.i (ar : Int), .i (s : Int), .i w] 0 0) := St.get_add_same _ _
    have gτ1o : ∀ o, o < τ.next → (τ.add (.cells [.i (ar : Int), .i (s : Int), .i w] 0 0)).get o = τ.get o := fun o ho => by rw [get_sadd, if_neg (by omega)]
    obtain ⟨y, υ, hap, hgr, hkp⟩ := append_grow (E := EL L) (t := 55) (u := 55) (el := 79) (el' := 79) (y := [.i (ar : Int), .i (s : Int), .i w]) Tryz.underlying55 Tryz.underlying55 hi79 hz79 hsz hzs hbt (by decide) (gτg.keep (σ' := τ.add (.cells [.i (ar : Int), .i (s : Int), .i w] 0 0)) (by rw [next_add]; omega) fun o _ h => gτ1o o h) (by rw [next_add]; omega) gτ1 rfl rfl (by rw [pcs_len]; exact hps)
    have hyc := hgr.cell
    have gυv : υ.get v = some (.cells [y0] 0 0) := (hkp.same v vc).trans ((gτ1o v (by omega)).trans gτv)
    have hst := st55 (L := L) gυv hyc.1 hyc.2
    have hne : (u != w) = true := by simpa using huw
    have hlds : loadA (EL L) τ 55 (.ptr v 0 0 1) = some y0 := ld55 gτv
    have hld9 := ld79 (L := L) gτp
    have hb : ∃ a₂, codeA (evalK (EL L) N (n + 1)) (EL L) N (some l) bdy23 a₁ τ = some (.normal, a₂, υ.set v (.cells [y] 0 0)) ∧ a₂.df = [] := by
      simp only [bdy23, fAt, cAt, Tryz.f23]
      simp [code_draw, code_seq, code_cond, code_block, opsA, oneA, wantedA, opA, kindOf, readA, uponA, writeA, AFr.put, get_set, n_set, df_set, opd, callee?, callA, ne_int, regionA, dops, dopsGo, befOf, Region.binds, drawOk, nodupB, hasDefer, eager, drawA, dim, unord, sameIn, chk, beq_self, Nat.testBit, b1, b2, b6, b8, b9, k0, k1, k2, l0, l1, l2, lf, hi, sum_eq, h44, fn44, hc44, hne, code_region_ro, bs79 (L := L) (t := 36) (x := .i (ar : Int)) (y := .i (s : Int)) (z := .i w), hlds, hld9, hap, hst]
    obtain ⟨a₂, hb, hd⟩ := hb
    have hυl : (υ.set v (.cells [y] 0 0)).get l = some (.loop { r23 A d with state := .busy }) := by
      rw [get_sset, if_neg (Ne.symm hlv), hkp.same l lc, gτ1o l (by omega)]; exact gτl
    have hle := hkp.le
    rw [next_add] at hle
    refine ⟨y, _, round_n hl rfl hp ha hl1 (by rw [hτ]; exact hb) hd hυl, by rw [get_sset, if_pos rfl]; rfl, by rw [get_sset, if_neg hlv, get_sset, if_pos rfl], ?_, by rw [next_set, next_set]; omega,
      fun o ho h h' => by rw [get_sset, if_neg (Ne.symm h), get_sset, if_neg (Ne.symm h'), hkp.same o ho, gτ1o o (by omega), gτo o (by omega) h]⟩
    rw [if_neg huw, pcs_append]
    exact hgr.keep (by rw [next_set, next_set]; exact Nat.le_refl _) fun o h _ => by rw [get_sset, if_neg (by omega), get_sset, if_neg (by omega)]

/-- The state while Diff visits the slots. -/
structure Dif (ca cb : List Int) (b : Nat) (σ0 : St) (A : AFr) (k : Nat) (σ : St) : Prop where
  g7 : σ.get (b + 7) = some (.loop (r23 A (b + 6)))
  g6 : σ.get (b + 6) = some (.dfr false)
  g5 : σ.get (b + 5) = some (.cells [.ptr (b + 3) 0 0 192] 0 0)
  g3 : σ.get (b + 3) = some (.cells (ints cb) 0 0)
  g2 : σ.get (b + 2) = some (.cells (ints ca) 0 0)
  y : ∃ y, σ.get (b + 4) = some (.cells [y] 0 0) ∧ Grow (b + 8) σ 3 y (pcs (dif ca cb k))
  n : b + 8 ≤ σ.next
  kp : Keep b σ0 σ

theorem dif_visit {n : Nat} {L : SumL} (h44 : sumOf L 44 = none) {N b : Nat} {ca cb : List Int} (hca : ca.length = 192) (hcb : cb.length = 192) {σ0 : St} {A : AFr} (hA : A.n = 40) (hA6 : A.get 6 = .ptr (b + 2) 0 0 192) (hA8 : A.get 8 = .ptr (b + 4) 0 0 1) :
    Visit (evalK (EL L) N (n + 2)) (b + 7) (b + 5) (b + 3) cb (Dif ca cb b σ0 A) (fun _ => False) where
  hb k σ h := by simp [rdCells, h.g5]
  ho k σ h j hj := rd_ints h.g3 (by omega)
  hr ar s σ h1 h3 hs h := by
    obtain ⟨g7, g6, g5, g3, g2, ⟨y, g4, hg⟩, hn, kp⟩ := h
    have hdl := dif_len ca cb ((ar - 1) * 64 + s)
    obtain ⟨y', σ', e, q1, q2, q3, q4, q5⟩ := round23 (n := n) (L := L) (N := N) (l := b + 7) (f := b + 2) (v := b + 4) (c := b + 8) (d := b + 6) h44 hca g7 hA hA6 hA8 g2 g4 hg (by omega) (by omega) (by omega) (by omega) hn (by omega) (by omega) (by omega) h1 h3 hs (cb.getD ((ar - 1) * 64 + s) 0)
    refine .inl ⟨σ', e, q1, (q5 _ (by omega) (by omega) (by omega)).trans g6, (q5 _ (by omega) (by omega) (by omega)).trans g5, (q5 _ (by omega) (by omega) (by omega)).trans g3, (q5 _ (by omega) (by omega) (by omega)).trans g2, ⟨y', q2, ?_⟩, by omega, kp.trans ⟨q4, fun o ho => q5 o (by omega) (by omega) (by omega)⟩ (Nat.le_refl b)⟩
    have e1 : ((ar - 1) * 64 + s) / 64 + 1 = ar := by omega
    have e2 : ((ar - 1) * 64 + s) % 64 = s := by omega
    simpa only [dif, e1, e2] using q3

theorem fn48 (L : SumL) : (EL L).fn 48 = some Tryz.f48 := fnL Tryz.func48 rfl
theorem fn64 (L : SumL) : (EL L).fn 64 = some Tryz.f64 := fnL Tryz.func64 rfl

theorem beqs_ints : ∀ l : List Int, AV.beqs (ints l) (ints l) = true
  | [] => rfl
  | n :: l => by
    show AV.beqs (AV.i n :: ints l) (AV.i n :: ints l) = true
    simp [AV.beqs, AV.beq, vbeq, beqs_ints l]

/-- image.Diff. -/
theorem call23 {n : Nat} {L : SumL} (h44 : sumOf L 44 = none) (h48 : sumOf L 48 = none) (h64 : sumOf L 64 = none) (h28 : sumOf L 28 = some S28) {N : Nat} (hN : 64 < N) {ca cb : List Int} (hca : ca.length = 192) (hcb : cb.length = 192) (σ0 : St) :
    ∃ y σ', (evalK (EL L) N (n + 4)).call 23 [.agg (ints ca), .agg (ints cb)] σ0 = some (.ret (.tup [y, .i (if ca.all isV && cb.all isV then 0 else 2)]), σ') ∧ Grow (σ0.next + 8) σ' 3 y (if ca.all isV && cb.all isV then pcs (dif ca cb 192) else []) ∧ Keep σ0.next σ0 σ' := by
  have hfn : (EL L).fn 23 = some Tryz.f23 := fnL Tryz.func23 rfl
  have hn : (frame0 Tryz.f23 [.agg (ints ca), .agg (ints cb)]).n = 40 := rfl
  have g0 : (frame0 Tryz.f23 [.agg (ints ca), .agg (ints cb)]).get 0 = .agg (ints ca) := rfl
  have g1 : (frame0 Tryz.f23 [.agg (ints ca), .agg (ints cb)]).get 1 = .agg (ints cb) := rfl
  have hd : (frame0 Tryz.f23 [.agg (ints ca), .agg (ints cb)]).df = [] := rfl
  generalize hfr : frame0 Tryz.f23 [.agg (ints ca), .agg (ints cb)] = a at hn g0 g1 hd
  have hbx : ∀ (t : Tmp) (cs : List Int), cs.length = 192 → ∀ (b : AFr) (o : Oper), o.op = .box 37 (.tmp t) → b.get t = .agg (ints cs) → allocA (EL L) b o = some (.cells (ints cs) 0 0, fun n => .ptr n 0 0 192) := by
    intro t cs hl b o ho hb
    simp [allocA, ho, opd, hb, AV.cells?, ints_len, hl]
  have hbx0 := hbx 0 ca hca
  have hbx1 := hbx 1 cb hcb
  have s28a := S28_eq hca
  have s28b := S28_eq hcb
  have gA0 : ((σ0.add (.cells (ints ca) 0 0)).add (.cells (ints cb) 0 0)).get σ0.next = some (.cells (ints ca) 0 0) := by
    rw [get_sadd, if_neg (by rw [next_add]; omega), get_sadd, if_pos rfl]
  have gA1 : ((σ0.add (.cells (ints ca) 0 0)).add (.cells (ints cb) 0 0)).get (σ0.next + 1) = some (.cells (ints cb) 0 0) := by
    rw [get_sadd, if_pos (by rw [next_add])]
  have kA : Keep σ0.next σ0 ((σ0.add (.cells (ints ca) 0 0)).add (.cells (ints cb) 0 0)) := (Keep.add _ (Nat.le_refl _)).trans (Keep.add (b := σ0.next) _ (by rw [next_add]; omega)) (Nat.le_refl _)
  have nA : ((σ0.add (.cells (ints ca) 0 0)).add (.cells (ints cb) 0 0)).next = σ0.next + 2 := by rw [next_add, next_add]
  have eA : ∃ aA, codeA (evalK (EL L) N (n + 3)) (EL L) N none (fAt Tryz.f23 [0]) a σ0 = some (.normal, aA, (σ0.add (.cells (ints ca) 0 0)).add (.cells (ints cb) 0 0)) ∧ aA.n = 40 ∧ aA.df = [] ∧ aA.get 2 = .ptr σ0.next 0 0 192 ∧ aA.get 3 = .ptr (σ0.next + 1) 0 0 192 := by
    simp only [fAt, cAt, Tryz.f23]
    simp [code_region, opsA, oneA, wantedA, opA, kindOf, readA, uponA, AFr.put, get_set, n_set, df_set, opd, hn, hd, g0, g1, hbx0, hbx1, next_add]
  generalize (σ0.add (.cells (ints ca) 0 0)).add (.cells (ints cb) 0 0) = σA at gA0 gA1 kA nA eA
  obtain ⟨aA, eA, nAA, dA, a2, a3⟩ := eA
  have eB : ∃ aB, codeA (evalK (EL L) N (n + 3)) (EL L) N none (fAt Tryz.f23 [1, 0, 0]) aA σA = some (.normal, aB, σA) ∧ aB.n = 40 ∧ aB.df = [] ∧ aB.get 2 = .ptr σ0.next 0 0 192 ∧ aB.get 3 = .ptr (σ0.next + 1) 0 0 192 ∧ aB.get 17 = .b (!(ca.all isV && cb.all isV)) := by
    simp only [fAt, cAt, Tryz.f23]
    cases hb1 : ca.all isV <;> cases hb2 : cb.all isV <;> rw [hb1] at s28a <;> rw [hb2] at s28b <;>
    simp [code_region, opsA, oneA, wantedA, opA, kindOf, readA, uponA, writeA, AFr.put, get_set, n_set, df_set, opd, callee?, callA, ne_int, nAA, dA, a2, a3, ld37 gA0 hca, ld37 gA1 hcb, sum_eq, h28, s28a, s28b]
  obtain ⟨aB, eB, nB, dB, b2, b3, b17⟩ := eB
  cases hok : (ca.all isV && cb.all isV) with
  | false =>
    rw [hok] at b17
    have eC : ∃ aC, codeA (evalK (EL L) N (n + 3)) (EL L) N none (fAt Tryz.f23 [1, 0, 1]) aB σA = some (.ret, aC, σA) ∧ aC.df = [] ∧ aC.get 4 = .v (.slice none 0 0) ∧ aC.get 5 = .i 2 := by
      simp only [fAt, cAt, Tryz.f23]
      simp [code_region, code_seq, code_cond, code_ret, opsA, oneA, wantedA, opA, kindOf, readA, uponA, AFr.put, get_set, n_set, df_set, opd, nB, dB, b17]
    obtain ⟨aC, eC, dC, c4, c5⟩ := eC
    refine ⟨.v (.slice none 0 0), σA, call_ret hfn (show Tryz.f23.body = some (fAt Tryz.f23 []) from rfl) (by rw [hfr]; exact seq_n eA (seq_ret (seq_n eB eC))) dC (by simp [resultA, resultsA, Tryz.f23, c4, c5]), ?_, kA⟩
    simpa using Grow.nil _ _ _
  | true =>
    rw [hok] at b17
    have eC : codeA (evalK (EL L) N (n + 3)) (EL L) N none (fAt Tryz.f23 [1, 0, 1]) aB σA = some (.normal, aB, σA) := by
      simp only [fAt, cAt, Tryz.f23]
      simp [code_skip, code_cond, opd, b17]
    -- the views
    obtain ⟨aD, σD, eD, nD, dD, d6, d7, m2, m3, xD, kD⟩ : ∃ aD σD, codeA (evalK (EL L) N (n + 3)) (EL L) N none (fAt Tryz.f23 [1, 1, 0]) aB σA = some (.normal, aD, σD) ∧ aD.n = 40 ∧ aD.df = [] ∧ aD.get 6 = .ptr (σ0.next + 2) 0 0 192 ∧ aD.get 7 = .ptr (σ0.next + 3) 0 0 192 ∧
        σD.get (σ0.next + 2) = some (.cells (ints ca) 0 0) ∧ σD.get (σ0.next + 3) = some (.cells (ints cb) 0 0) ∧ σD.next = σ0.next + 4 ∧ Keep σ0.next σ0 σD := by
      have hs1 := st96 (L := L) (σ := (σA.add (.cells (ints zimg) 0 0)).add (.cells (ints zimg) 0 0)) (o := σ0.next + 2) (cs := ca) (by rw [get_sadd, if_neg (by rw [next_add]; omega), get_sadd, if_pos nA]) rep_len hca
      have hs2 := st96 (L := L) (σ := ((σA.add (.cells (ints zimg) 0 0)).add (.cells (ints zimg) 0 0)).set (σ0.next + 2) (.cells (ints ca) 0 0)) (o := σ0.next + 3) (cs := cb) (by rw [get_sset, if_neg (by omega), get_sadd, if_pos (by rw [next_add, nA])]) rep_len hcb
      have kD : Keep σ0.next σ0 ((((σA.add (.cells (ints zimg) 0 0)).add (.cells (ints zimg) 0 0)).set (σ0.next + 2) (.cells (ints ca) 0 0)).set (σ0.next + 3) (.cells (ints cb) 0 0)) :=
        (((kA.trans (Keep.add (b := σ0.next) _ (by omega)) (Nat.le_refl _)).trans (Keep.add (b := σ0.next) _ (by rw [next_add]; omega)) (Nat.le_refl _)).trans (Keep.set (b := σ0.next) _ (by omega)) (Nat.le_refl _)).trans (Keep.set (b := σ0.next) _ (by omega)) (Nat.le_refl _)
      simp only [fAt, cAt, Tryz.f23]
      simp [code_draw, oneA, wantedA, opA, kindOf, readA, uponA, writeA, AFr.put, get_set, n_set, df_set, opd, ex2, regionA, dops, dopsGo, befOf, Region.binds, drawOk, nodupB, hasDefer, eager, drawA, dim, unord, sameIn, chk, beq_self, Nat.testBit, next_set, next_add, nB, dB, b2, b3, ld37 (L := L) (cs := ca), ld37 (L := L) (cs := cb), gA0, gA1, hca, hcb, bd96 hca, bd96 hcb, al96, nA, hs1, hs2, get_sset, get_sadd, kD]
    have hDE : codeA (evalK (EL L) N (n + 3)) (EL L) N none (fAt Tryz.f23 [1, 1, 1, 0]) aD σD = some (.normal, aD.set 8 (.ptr (σ0.next + 4) 0 0 1), σD.add (.cells [.v (.slice none 0 0)] 0 0)) := by
      simp only [fAt, cAt, Tryz.f23]
      simp [code_region, opsA, oneA, wantedA, opA, kindOf, uponA, AFr.put, nD, al55, xD]
    have hEF : codeA (evalK (EL L) N (n + 3)) (EL L) N none (fAt Tryz.f23 [1, 1, 1, 1, 0, 0]) (aD.set 8 (.ptr (σ0.next + 4) 0 0 1)) (σD.add (.cells [.v (.slice none 0 0)] 0 0)) =
        some (.normal, (aD.set 8 (.ptr (σ0.next + 4) 0 0 1)).set 22 (.fn 64 [] [.ptr (σ0.next + 5) 0 0 1]), (σD.add (.cells [.v (.slice none 0 0)] 0 0)).add (.cells [.ptr (σ0.next + 3) 0 0 192] 0 0)) := by
      have hc := call48 (n := n + 2) (L := L) (N := N) (o := σ0.next + 3) (σ := σD.add (.cells [.v (.slice none 0 0)] 0 0))
      rw [next_add, xD] at hc
      simp only [fAt, cAt, Tryz.f23]
      simp [code_region, opsA, oneA, wantedA, opA, kindOf, uponA, writeA, AFr.put, get_set, n_set, opd, callee?, callA, nD, d7, sum_eq, h48, fn48, hc]
    generalize hA : (aD.set 8 (.ptr (σ0.next + 4) 0 0 1)).set 22 (.fn 64 [] [.ptr (σ0.next + 5) 0 0 1]) = A at hEF
    have A1 : A.n = 40 := by rw [← hA]; exact nD
    have A2 : A.get 6 = .ptr (σ0.next + 2) 0 0 192 := by rw [← hA]; simp [get_set, d6]
    have A3 : A.get 8 = .ptr (σ0.next + 4) 0 0 1 := by rw [← hA]; simp [get_set]
    have A4 : A.df = [] := by rw [← hA]; exact dD
    have A22 : A.get 22 = .fn 64 [] [.ptr (σ0.next + 5) 0 0 1] := by rw [← hA]; simp [get_set]
    generalize hσF : (σD.add (.cells [.v (.slice none 0 0)] 0 0)).add (.cells [.ptr (σ0.next + 3) 0 0 192] 0 0) = σF at hEF
    have xF : σF.next = σ0.next + 6 := by rw [← hσF, next_add, next_add, xD]
    have hI : Dif ca cb σ0.next σ0 A 0 (rangeSt σF A #[23] asg23 bdy23) := by
      refine ⟨?_, ?_, ?_, ?_, ?_, ⟨.v (.slice none 0 0), ?_, Grow.nil _ _ _⟩, ?_, ?_⟩
      · simp only [rangeSt, get_sadd, next_add, xF]; rfl
      · simp [rangeSt, get_sadd, next_add, xF]
      · simp [rangeSt, get_sadd, next_add, ← hσF, xD]
      · simp [rangeSt, get_sadd, next_add, ← hσF, xD, m3]
      · simp [rangeSt, get_sadd, next_add, ← hσF, xD, m2]; omega
      · simp [rangeSt, get_sadd, next_add, ← hσF, xD]
      · simp [rangeSt, next_add, xF]
      · refine kD.trans (c := σ0.next) ⟨?_, fun o ho => ?_⟩ (Nat.le_refl _)
        · simp [rangeSt, next_add, xF, xD]
        · simp only [rangeSt, get_sadd, next_add, ← hσF, xD]
          rw [if_neg (by omega), if_neg (by omega), if_neg (by omega), if_neg (by omega)]
    obtain ⟨σG, hc, hq⟩ := call64 (n := n + 1) h44 hN (dif_visit (n := n) (L := L) (N := N) h44 hca hcb A1 A2 A3) hI
    have hq := hq.resolve_right fun h => h
    have hop : opd (EL L) A (.tmp 22) = .fn 64 [] [.ptr (σ0.next + 5) 0 0 1] := A22
    have hr := range_n (K := evalK (EL L) N (n + 3)) (N := N) (f := .tmp 22) (ps := #[23]) (assign := asg23) (body := bdy23) (a := A) (σ := σF) hop h64 (fn64 L) (by rw [xF]; exact hc) (by rw [xF]; exact hq.g7) rfl rfl
    rw [xF] at hr
    obtain ⟨y, hy, hgr⟩ := hq.y
    have hl4 : loadA (EL L) (σG.set (σ0.next + 6 + 1) (.loop { r23 A (σ0.next + 6) with state := .exhausted })) 55 (.ptr (σ0.next + 4) 0 0 1) = some y := ld55 (by rw [get_sset, if_neg (by omega)]; exact hy)
    have gA : ({ A with df := .mark (σ0.next + 6) :: A.df } : AFr).get 8 = .ptr (σ0.next + 4) 0 0 1 := A3
    have eH : ∃ aH, codeA (evalK (EL L) N (n + 3)) (EL L) N none (fAt Tryz.f23 [1, 1, 1, 1, 1]) { A with df := .mark (σ0.next + 6) :: A.df } (σG.set (σ0.next + 6 + 1) (.loop { r23 A (σ0.next + 6) with state := .exhausted })) =
        some (.ret, aH, σG.set (σ0.next + 6 + 1) (.loop { r23 A (σ0.next + 6) with state := .exhausted })) ∧ aH.df = [.mark (σ0.next + 6)] ∧ aH.get 4 = y ∧ aH.get 5 = .i 0 := by
      generalize hA' : ({ A with df := .mark (σ0.next + 6) :: A.df } : AFr) = A' at gA
      have A'n : A'.n = 40 := by rw [← hA']; exact A1
      have A'd : A'.df = [.mark (σ0.next + 6)] := by rw [← hA']; simp [A4]
      generalize σG.set (σ0.next + 6 + 1) (.loop { r23 A (σ0.next + 6) with state := .exhausted }) = σH at hl4
      simp only [fAt, cAt, Tryz.f23]
      simp [code_region, code_seq, code_ret, opsA, oneA, wantedA, opA, kindOf, readA, uponA, AFr.put, get_set, n_set, df_set, opd, A'n, A'd, gA, hl4]
    obtain ⟨aH, eH, dH, k4, k5⟩ := eH
    refine ⟨y, _, call_mark hfn (show Tryz.f23.body = some (fAt Tryz.f23 []) from rfl) (by rw [hfr]; exact seq_n eA (seq_n (seq_n eB eC) (seq_n eD (seq_n hDE (seq_n (seq_n hEF (block_n hr)) eH))))) dH (by rw [get_sset, if_neg (by omega)]; exact hq.g6) (by simp [resultA, resultsA, Tryz.f23, k4, k5]), ?_, ?_⟩
    · simp only [if_true]
      exact hgr.keep (by rw [next_set, next_set]; exact Nat.le_refl _) fun o h _ => by rw [get_sset, if_neg (by omega), get_sset, if_neg (by omega)]
    · exact (hq.kp.trans (Keep.set (b := σ0.next) _ (by omega)) (Nat.le_refl _)).trans (Keep.set (b := σ0.next) _ (by omega)) (Nat.le_refl _)
end Go.Proofs.YtfmbpdacdopkgaaGreatDoor
