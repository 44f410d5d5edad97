/- The reference's Values and Formed; puts. Conditions: none. -/
import Derived.Test.YtfmbpdacdopkgaaGreatDoorImgM0
namespace Go.Proofs.YtfmbpdacdopkgaaGreatDoor
set_option maxRecDepth 100000
open Go Go.Ai
open Go.RowKit (Below)

/-- Numbers as the cells of a slice's elements. -/
def ones (l : List Int) : List (List AV) := l.map fun n => [.i n]
theorem ones_len (l : List Int) : (ones l).length = l.length := by simp [ones]
theorem ones_flat : ∀ l : List Int, (ones l).flatten = ints l
  | [] => rfl
  | n :: l => by
    show [AV.i n] ++ (ones l).flatten = AV.i n :: ints l
    rw [ones_flat l]; rfl
theorem ones_at {l : List Int} {k : Nat} (hk : k < l.length) : (ones l)[k]? = some [.i l[k]] := by simp [ones, hk]

noncomputable def in45 : Code := fAt Tryz.f45 [1, 0, 1, 0, 0]
structure In45 (l : List Int) (x : AV) (σ0 : St) (k : Nat) (a : AFr) (σ : St) : Prop where
  n : a.n = 15
  d : a.df = []
  g5 : a.get 5 = x
  g6 : a.get 6 = .i (l.length : Int)
  g7 : a.get 7 = .i (k : Int)
  ok : ∀ j (h : j < l.length), j < k → isV l[j] = true
  s : σ = σ0

theorem call45 {n : Nat} {L : SumL} (h54 : sumOf L 54 = some SV) {N : Nat} {l : List Int} {x : AV} {σ : St} (hs : SlAt σ 1 x (ones l)) (hN : l.length < N) (hl : l.length < 4611686018427387904) : (evalK (EL L) N (n + 1)).call 45 [x] σ = some (.ret (.b (l.all isV)), σ) := by
  have hfn : (EL L).fn 45 = some Tryz.f45 := fnL Tryz.func45 rfl
  have hn : (frame0 Tryz.f45 [x]).n = 15 := rfl
  have g0 : (frame0 Tryz.f45 [x]).get 0 = x := rfl
  have hd : (frame0 Tryz.f45 [x]).df = [] := rfl
  generalize hfr : frame0 Tryz.f45 [x] = a at hn g0 hd
  have hlen := hs.len (E := EL L) (t := 38) (el := 3) Tryz.underlying38
  rw [ones_len] at hlen
  obtain ⟨a1, e1, k1⟩ : ∃ a1, codeA (evalK (EL L) N n) (EL L) N none (.seq (fAt Tryz.f45 [0]) (fAt Tryz.f45 [1, 0, 0])) a σ = some (.normal, a1, σ) ∧ In45 l x σ 0 a1 σ := by
    simp only [fAt, cAt, Tryz.f45]
    simp [code_region, code_seq, opsA, oneA, wantedA, opA, kindOf, readA, uponA, AFr.put, get_set, n_set, opd, hn, g0, hlen]
    exact ⟨by simp [n_set, hn], by simp [df_set, hd], by simp [get_set], by simp [get_set], by simp [get_set], (fun j _ h => absurd h (by omega)), rfl⟩
  have hlp := loop_inv (K := evalK (EL L) N n) (E := EL L) (N := N) (c := in45) 0 (In45 l x σ) (fun a' σ' => σ' = σ ∧ a'.df = [] ∧ a'.n = 15 ∧ l.all isV = true) (fun a' σ' => σ' = σ ∧ a'.df = [] ∧ a'.get 2 = .b false ∧ l.all isV = false) l.length
    (fun k a σ' hk hI => by
      obtain ⟨hn, hd, g5, g6, g7, ok, rfl⟩ := hI
      have hlt : (k : Int) < (l.length : Int) := by omega
      obtain ⟨p, hp, hr⟩ := hs.at (E := EL L) (t := 38) (el := 3) Tryz.underlying38 (z3 L) (ones_at hk) (k := .i64)
      have hld := load_one (agg3 L) hr
      have hw := wrap_nat (n := k) (by omega)
      cases hv : isV l[k] with
      | true =>
        left
        simp only [in45, fAt, cAt, Tryz.f45]
        simp [code_skip, code_region, code_seq, code_cond, code_block, opsA, oneA, wantedA, opA, kindOf, readA, uponA, writeA, AFr.put, get_set, n_set, opd, callee?, callA, cmp_lss, ar_add, un_not, ex2, hn, g5, g6, g7, hlt, hp, hld, sum_eq, h54, SV, hv, hw]
        refine ⟨by simp [n_set, hn], by simp [df_set, hd], by simp [get_set, g5], by simp [get_set, g6], by simp [get_set], ?_, rfl⟩
        intro j hj hjk
        rcases Nat.lt_or_ge j k with h | h
        · exact ok j hj h
        · have : j = k := by omega
          subst this; exact hv
      | false =>
        right
        have hall : l.all isV = false := by
          rw [Bool.eq_false_iff, Ne, List.all_eq_true]
          intro h
          rw [h _ (List.getElem_mem hk)] at hv; cases hv
        simp only [in45, fAt, cAt, Tryz.f45]
        simp [code_skip, code_region, code_seq, code_cond, code_block, code_ret, opsA, oneA, wantedA, opA, kindOf, readA, uponA, writeA, AFr.put, get_set, n_set, df_set, opd, callee?, callA, cmp_lss, un_not, ex2, hn, hd, g5, g6, g7, hlt, hp, hld, sum_eq, h54, SV, hv, hall])
    (fun a σ' hI => by
      obtain ⟨hn, hd, g5, g6, g7, ok, rfl⟩ := hI
      have hall : l.all isV = true := by
        rw [List.all_eq_true]
        intro y hy
        obtain ⟨j, hj, rfl⟩ := List.getElem_of_mem hy
        exact ok j hj hj
      simp only [in45, fAt, cAt, Tryz.f45]
      simp [code_region, code_seq, code_cond, code_exit, opsA, oneA, wantedA, opA, kindOf, readA, uponA, AFr.put, get_set, n_set, df_set, opd, cmp_lss, ex2, hn, hd, g6, g7, hall]) hN k1
  rcases hlp with ⟨a2, σ2, e2, rfl, d2, n2, hall⟩ | ⟨a2, σ2, e2, rfl, d2, k2, hall⟩
  · have e3 : codeA (evalK (EL L) N n) (EL L) N none (fAt Tryz.f45 [1, 1]) a2 σ2 = some (.ret, a2.set 2 (.b true), σ2) := by
      simp only [fAt, cAt, Tryz.f45]
      simp [code_region, code_seq, code_ret, opsA, oneA, wantedA, opA, kindOf, readA, uponA, AFr.put, opd, n2]
    exact call_ret (x := .b (l.all isV)) hfn (show Tryz.f45.body = some (fAt Tryz.f45 []) from rfl) (by rw [hfr]; exact body_n e1 e2 e3) (by rw [df_set]; exact d2) (by simp [resultA, resultsA, Tryz.f45, get_set, hall])
  · exact call_ret (x := .b (l.all isV)) hfn (show Tryz.f45.body = some (fAt Tryz.f45 []) from rfl) (by rw [hfr]; exact body_ret e1 e2) d2 (by simp [resultA, resultsA, Tryz.f45, k2, hall])

/-- A part of an image, as a slice. -/
theorem part_sl {σ : St} {o i n : Nat} {cs : List Int} (h : σ.get o = some (.cells (ints cs) 0 0)) (hi : i + n ≤ cs.length) : SlAt σ 1 (.sl o i n 0 1) (ones ((cs.drop i).take n)) := by
  refine ⟨fun y hy => ?_, rfl, by simp [ones]; omega, ints cs, 0, 0, h, Nat.le_refl _, Nat.le_refl _, ?_, ?_⟩
  · simp only [ones, List.mem_map] at hy
    obtain ⟨n, _, rfl⟩ := hy; rfl
  · rw [ones_flat, ints_len, ints_len]; simp; omega
  · rw [ones_flat, ints_len, ints_drop, ints_take]
    congr 1
    rw [List.take_eq_take_iff]
    simp

theorem call17 {L : SumL} (h54 : sumOf L 54 = some SV) (h45 : sumOf L 45 = none) {cs : List Int} (hlen : cs.length = 192) {N : Nat} (hN : 64 < N) (n : Nat) :
    ∃ σ', (evalK (EL L) N (n + 2)).call 17 [.agg (ints cs)] start = some (.ret (.b (cs.all isV)), σ') := by
  have hfn : (EL L).fn 17 = some Tryz.f17 := fnL Tryz.func17 rfl
  have f45 : (EL L).fn 45 = some Tryz.f45 := fnL Tryz.func45 rfl
  have hn : (frame0 Tryz.f17 [.agg (ints cs)]).n = 16 := rfl
  have g0 : (frame0 Tryz.f17 [.agg (ints cs)]).get 0 = .agg (ints cs) := rfl
  have hd : (frame0 Tryz.f17 [.agg (ints cs)]).df = [] := rfl
  generalize hfr : frame0 Tryz.f17 [.agg (ints cs)] = a at hn g0 hd
  have hst : start.next = 0 := rfl
  have hg : (start.add (.cells (ints cs) 0 0)).get 0 = some (.cells (ints cs) 0 0) := St.get_add_same start _
  generalize hσ : start.add (.cells (ints cs) 0 0) = σ at hg
  have k1 : fieldAddrA (EL L) 37 (.ptr 0 0 0 192) 0 = some (.ptr 0 0 0 64) := by simp [fieldAddrA, und_eq, Tryz.underlying37, z35]
  have k2 : fieldAddrA (EL L) 37 (.ptr 0 0 0 192) 1 = some (.ptr 0 64 0 64) := by simp [fieldAddrA, und_eq, Tryz.underlying37, z35]
  have k3 : fieldAddrA (EL L) 37 (.ptr 0 0 0 192) 2 = some (.ptr 0 128 0 64) := by simp [fieldAddrA, und_eq, Tryz.underlying37, z35]
  have s1 : ∀ i, sliceA (EL L) 35 (.ptr 0 i 0 64) none none none = some (.sl 0 i 64 0 1) := fun i => by
    simp [sliceA, und_eq, Tryz.underlying35, z3, bounds?, bound?]
  have c1 := call45 (n := n) (L := L) h54 (N := N) (part_sl hg (i := 0) (n := 64) (by omega)) (by simp; omega) (by simp; omega)
  have c2 := call45 (n := n) (L := L) h54 (N := N) (part_sl hg (i := 64) (n := 64) (by omega)) (by simp; omega) (by simp; omega)
  have c3 := call45 (n := n) (L := L) h54 (N := N) (part_sl hg (i := 128) (n := 64) (by omega)) (by simp; omega) (by simp; omega)
  have hall : cs.all isV = (((cs.drop 0).take 64).all isV && ((cs.drop 64).take 64).all isV && ((cs.drop 128).take 64).all isV) := by
    have h3 : (cs.drop 128).take 64 = cs.drop 128 := List.take_of_length_le (by simp; omega)
    have h2 : cs.drop 64 = (cs.drop 64).take 64 ++ cs.drop 128 := by
      have := (List.take_append_drop 64 (cs.drop 64)).symm
      rwa [List.drop_drop] at this
    have h1 : cs = cs.take 64 ++ cs.drop 64 := (List.take_append_drop 64 cs).symm
    rw [List.drop_zero, h3]
    conv => lhs; rw [h1, h2]
    simp only [List.all_append, Bool.and_assoc]
  generalize ((cs.drop 0).take 64).all isV = b1 at c1 hall
  generalize ((cs.drop 64).take 64).all isV = b2 at c2 hall
  generalize ((cs.drop 128).take 64).all isV = b3 at c3 hall
  have hc : ∃ a', codeA (evalK (EL L) N (n + 1)) (EL L) N none (fAt Tryz.f17 []) a start = some (.ret, a', σ) ∧ a'.df = [] ∧ a'.get 2 = .b (cs.all isV) := by
    simp only [fAt, cAt, Tryz.f17]
    rw [hall]
    cases b1 <;> cases b2 <;> cases b3 <;>
    simp [code_region, code_seq, code_ret, opsA, oneA, wantedA, opA, kindOf, readA, uponA, writeA, AFr.put, get_set, n_set, df_set, opd, callee?, callA, hn, g0, hd, allocA, AV.cells?, ints_len, hlen, hσ, k1, k2, k3, s1, sum_eq, h45, f45, c1, c2, c3]
  obtain ⟨a', e1, e2, e3⟩ := hc
  exact ⟨σ, call_ret (x := .b (cs.all isV)) hfn (show Tryz.f17.body = some (fAt Tryz.f17 []) from rfl) (by rw [hfr]; exact e1) e2 (by simp [resultA, resultsA, Tryz.f17, e3])⟩

def S17 : List AV → Option AV
  | [.agg cs] => match ints? cs with
    | some l => if l.length = 192 then some (.b (l.all isV)) else none
    | none => none
  | _ => none
theorem S17_eq {cs : List Int} (h : cs.length = 192) : S17 [.agg (ints cs)] = some (.b (cs.all isV)) := by simp [S17, ints?_ints, h]
theorem sum17 (W : World) : SumOk W 17 S17 := by
  refine sum_eval (L := L1) L1_ok (fun args x hx => ?_) W
  match args, hx with
  | [.agg cs], hx =>
    simp only [S17] at hx
    split at hx
    · rename_i l hl
      obtain rfl := ints?_some hl
      split at hx
      · rename_i hlen
        cases hx
        obtain ⟨σ', h⟩ := call17 (L := L1) rfl rfl hlen (N := 100) (by decide) 0
        exact ⟨[.agg (l.map (Value.int .i64)).toArray], _, by simp [AV.exacts?, AV.exact?, ints_exact], rfl, 100, 2, σ', h⟩
      · cases hx
    · cases hx
end Go.Proofs.YtfmbpdacdopkgaaGreatDoor

namespace Go.Proofs.YtfmbpdacdopkgaaGreatDoor
set_option maxRecDepth 100000
open Go Go.Ai
open Go.RowKit (Below)

/-- Is a put formed? -/
def okP (a n v : Int) : Bool := isP a n && isV v

theorem call51 {L : SumL} (h52 : sumOf L 52 = some SV) (h36 : sumOf L 36 = some S36) (x y z : Int) {N n : Nat} :
    ∃ σ', (evalK (EL L) N (n + 1)).call 51 [.agg [.i x, .i y, .i z]] start = some (.ret (.b (okP x y z)), σ') := by
  have hfn : (EL L).fn 51 = some Tryz.f51 := fnL Tryz.func51 rfl
  have hn : (frame0 Tryz.f51 [.agg [.i x, .i y, .i z]]).n = 13 := rfl
  have g0 : (frame0 Tryz.f51 [.agg [.i x, .i y, .i z]]).get 0 = .agg [.i x, .i y, .i z] := rfl
  have hd : (frame0 Tryz.f51 [.agg [.i x, .i y, .i z]]).df = [] := rfl
  generalize hfr : frame0 Tryz.f51 [.agg [.i x, .i y, .i z]] = a at hn g0 hd
  have hst : start.next = 0 := rfl
  have hg : (start.add (.cells [.i x, .i y, .i z] 0 0)).get 0 = some (.cells [.i x, .i y, .i z] 0 0) := St.get_add_same start _
  generalize hσ : start.add (.cells [.i x, .i y, .i z] 0 0) = σ at hg
  have k0 := fa79 (L := L) (o := 0) (i := 0) (g := 0) (e := 3) (k := 0) (by omega) (by omega)
  have k1 := fa79 (L := L) (o := 0) (i := 0) (g := 0) (e := 3) (k := 1) (by omega) (by omega)
  have k2 := fa79 (L := L) (o := 0) (i := 0) (g := 0) (e := 3) (k := 2) (by omega) (by omega)
  have l0 : loadA (EL L) σ 3 (.ptr 0 (0 + 0) 0 1) = some (.i x) := load_one (agg3 L) (by simp [rdCells, hg])
  have l1 : loadA (EL L) σ 3 (.ptr 0 (0 + 1) 0 1) = some (.i y) := load_one (agg3 L) (by simp [rdCells, hg])
  have l2 : loadA (EL L) σ 3 (.ptr 0 (0 + 2) 0 1) = some (.i z) := load_one (agg3 L) (by simp [rdCells, hg])
  have hc : ∃ a', codeA (evalK (EL L) N n) (EL L) N none (fAt Tryz.f51 []) a start = some (.ret, a', σ) ∧ a'.df = [] ∧ a'.get 2 = .b (okP x y z) := by
    simp only [fAt, cAt, Tryz.f51]
    cases hp : isP x y <;> cases hv : isV z <;>
    simp [code_region, code_seq, code_ret, opsA, oneA, wantedA, opA, kindOf, readA, uponA, writeA, AFr.put, get_set, n_set, df_set, opd, callee?, callA, hn, g0, hd, allocA, AV.cells?, hσ, k0, k1, k2, l0, l1, l2, sum_eq, h36, h52, S36, SV, hp, hv, okP]
  obtain ⟨a', e1, e2, e3⟩ := hc
  exact ⟨σ, call_ret (x := .b (okP x y z)) hfn (show Tryz.f51.body = some (fAt Tryz.f51 []) from rfl) (by rw [hfr]; exact e1) e2 (by simp [resultA, resultsA, Tryz.f51, e3])⟩

def S51 : List AV → Option AV
  | [.agg [.v (.int .i64 x), .v (.int .i64 y), .v (.int .i64 z)]] => some (.b (okP x y z))
  | _ => none
theorem sum51 (W : World) : SumOk W 51 S51 := by
  refine sum_eval (L := L1) L1_ok (fun args x hx => ?_) W
  match args, hx with
  | [.agg [.v (.int .i64 x), .v (.int .i64 y), .v (.int .i64 z)]], hx =>
    cases hx
    obtain ⟨σ', h⟩ := call51 (L := L1) rfl rfl x y z (N := 10) (n := 0)
    exact ⟨_, _, rfl, rfl, 10, 1, σ', h⟩

/-- The second layer: Check, Formed, IsPut. -/
def L2 : SumL := (51, S51) :: (28, S28) :: (17, S17) :: L1
theorem L2_ok : ∀ w, AllOk w L2 := cons_ok (cons_ok (cons_ok L1_ok sum17 Tryz.func17 rfl) sum28 Tryz.func28 rfl) sum51 Tryz.func51 rfl

theorem call50 {L : SumL} (h51 : sumOf L 51 = some S51) (x y z : Int) {N n : Nat} :
    ∃ σ', (evalK (EL L) N (n + 1)).call 50 [.agg [.i x, .i y, .i z]] start = some (.ret (.b (!okP x y z)), σ') := by
  have hfn : (EL L).fn 50 = some Tryz.f50 := fnL Tryz.func50 rfl
  have hn : (frame0 Tryz.f50 [.agg [.i x, .i y, .i z]]).n = 6 := rfl
  have g0 : (frame0 Tryz.f50 [.agg [.i x, .i y, .i z]]).get 0 = .agg [.i x, .i y, .i z] := rfl
  have hd : (frame0 Tryz.f50 [.agg [.i x, .i y, .i z]]).df = [] := rfl
  generalize hfr : frame0 Tryz.f50 [.agg [.i x, .i y, .i z]] = a at hn g0 hd
  have hst : start.next = 0 := rfl
  have hg : (start.add (.cells [.i x, .i y, .i z] 0 0)).get 0 = some (.cells [.i x, .i y, .i z] 0 0) := St.get_add_same start _
  generalize hσ : start.add (.cells [.i x, .i y, .i z] 0 0) = σ at hg
  have hl : loadA (EL L) σ 79 (.ptr 0 0 0 3) = some (.agg [.i x, .i y, .i z]) := load_agg (by simp [Env.agg, und_eq, Tryz.underlying79]) (z79 L) (by simp [rdCells, hg])
  have hc : ∃ a', codeA (evalK (EL L) N n) (EL L) N none (fAt Tryz.f50 []) a start = some (.ret, a', σ) ∧ a'.df = [] ∧ a'.get 2 = .b (!okP x y z) := by
    simp only [fAt, cAt, Tryz.f50]
    simp [code_region, code_seq, code_ret, opsA, oneA, wantedA, opA, kindOf, readA, uponA, writeA, AFr.put, get_set, n_set, df_set, opd, callee?, callA, un_not, hn, g0, hd, allocA, AV.cells?, hσ, hl, sum_eq, h51, S51]
  obtain ⟨a', e1, e2, e3⟩ := hc
  exact ⟨σ, call_ret (x := .b (!okP x y z)) hfn (show Tryz.f50.body = some (fAt Tryz.f50 []) from rfl) (by rw [hfr]; exact e1) e2 (by simp [resultA, resultsA, Tryz.f50, e3])⟩
def S50 : List AV → Option AV
  | [.agg [.v (.int .i64 x), .v (.int .i64 y), .v (.int .i64 z)]] => some (.b (!okP x y z))
  | _ => none
theorem sum50 (W : World) : SumOk W 50 S50 := by
  refine sum_eval (L := L2) L2_ok (fun args x hx => ?_) W
  match args, hx with
  | [.agg [.v (.int .i64 x), .v (.int .i64 y), .v (.int .i64 z)]], hx =>
    cases hx
    obtain ⟨σ', h⟩ := call50 (L := L2) rfl x y z (N := 10) (n := 0)
    exact ⟨_, _, rfl, rfl, 10, 1, σ', h⟩

/- The reference's Get. -/
theorem fa37 {L : SumL} {o g ar : Nat} (h1 : 1 ≤ ar) (h3 : ar ≤ 3) : fieldAddrA (EL L) 37 (.ptr o 0 g 192) (ar - 1) = some (.ptr o ((ar - 1) * 64) g 64) := by
  have h : ar = 1 ∨ ar = 2 ∨ ar = 3 := by omega
  rcases h with rfl | rfl | rfl <;> simp [fieldAddrA, und_eq, Tryz.underlying37, z35]
theorem ix35 {L : SumL} {o b g s : Nat} (hs : s < 64) : indexAddrA (EL L) 35 (.ptr o b g 64) (.i (s : Int)) = some (.ptr o (b + s) g 1) := by
  have hneg : ¬ ((s : Int) < 0) := by omega
  simp [indexAddrA, und_eq, Tryz.underlying35, z3, hneg]
  omega

theorem call31 {L : SumL} {cs : List Int} (hlen : cs.length = 192) {ar s : Nat} (h1 : 1 ≤ ar) (h3 : ar ≤ 3) (hs : s < 64) {N n : Nat} :
    ∃ σ', (evalK (EL L) N (n + 1)).call 31 [.agg (ints cs), .i (ar : Int), .i (s : Int)] start = some (.ret (.i (cs.getD ((ar - 1) * 64 + s) 0)), σ') := by
  have hfn : (EL L).fn 31 = some Tryz.f31 := fnL Tryz.func31 rfl
  have hn : (frame0 Tryz.f31 [.agg (ints cs), .i (ar : Int), .i (s : Int)]).n = 24 := rfl
  have g0 : (frame0 Tryz.f31 [.agg (ints cs), .i (ar : Int), .i (s : Int)]).get 0 = .agg (ints cs) := rfl
  have g1 : (frame0 Tryz.f31 [.agg (ints cs), .i (ar : Int), .i (s : Int)]).get 1 = .i (ar : Int) := rfl
  have g2 : (frame0 Tryz.f31 [.agg (ints cs), .i (ar : Int), .i (s : Int)]).get 2 = .i (s : Int) := rfl
  have hd : (frame0 Tryz.f31 [.agg (ints cs), .i (ar : Int), .i (s : Int)]).df = [] := rfl
  generalize hfr : frame0 Tryz.f31 [.agg (ints cs), .i (ar : Int), .i (s : Int)] = a at hn g0 g1 g2 hd
  have hst : start.next = 0 := rfl
  have hg : (start.add (.cells (ints cs) 0 0)).get 0 = some (.cells (ints cs) 0 0) := St.get_add_same start _
  generalize hσ : start.add (.cells (ints cs) 0 0) = σ at hg
  have hl : loadA (EL L) σ 3 (.ptr 0 ((ar - 1) * 64 + s) 0 1) = some (.i (cs.getD ((ar - 1) * 64 + s) 0)) := load_one (agg3 L) (rd_ints hg (by omega))
  have hf := fa37 (L := L) (o := 0) (g := 0) h1 h3
  have hi := ix35 (L := L) (o := 0) (b := (ar - 1) * 64) (g := 0) hs
  generalize cs.getD ((ar - 1) * 64 + s) 0 = v at hl
  have hc : ∃ a', codeA (evalK (EL L) N n) (EL L) N none (fAt Tryz.f31 []) a start = some (.ret, a', σ) ∧ a'.df = [] ∧ a'.get 6 = .i v := by
    have h : ar = 1 ∨ ar = 2 ∨ ar = 3 := by omega
    simp only [fAt, cAt, Tryz.f31]
    rcases h with rfl | rfl | rfl <;>
    simp only [Nat.reduceSub, Nat.reduceMul, Nat.zero_mul, Nat.sub_self, Nat.zero_add] at hf hi hl <;>
    simp [code_skip, code_region, code_seq, code_cond, code_block, code_ret, opsA, oneA, wantedA, opA, kindOf, readA, uponA, AFr.put, get_set, n_set, df_set, opd, eq_int, hn, g0, g1, g2, hd, allocA, AV.cells?, ints_len, hlen, hσ, hf, hi, hl]
  obtain ⟨a', e1, e2, e3⟩ := hc
  exact ⟨σ, call_ret (x := .i v) hfn (show Tryz.f31.body = some (fAt Tryz.f31 []) from rfl) (by rw [hfr]; exact e1) e2 (by simp [resultA, resultsA, Tryz.f31, e3])⟩

def S31 : List AV → Option AV
  | [.agg cs, .v (.int .i64 a), .v (.int .i64 n)] => match ints? cs with
    | some l => if l.length = 192 ∧ isP a n = true then some (.i (l.getD ((a.toNat - 1) * 64 + n.toNat) 0)) else none
    | none => none
  | _ => none
theorem S31_eq {cs : List Int} (h : cs.length = 192) {ar s : Nat} (h1 : 1 ≤ ar) (h3 : ar ≤ 3) (hs : s < 64) : S31 [.agg (ints cs), .i (ar : Int), .i (s : Int)] = some (.i (cs.getD ((ar - 1) * 64 + s) 0)) := by
  have : isP (ar : Int) (s : Int) = true := by simp [isP]; omega
  simp [S31, ints?_ints, h, this]
theorem sum31 (W : World) : SumOk W 31 S31 := by
  refine sum_eval (L := L1) L1_ok (fun args x hx => ?_) W
  match args, hx with
  | [.agg cs, .v (.int .i64 a), .v (.int .i64 n)], hx =>
    simp only [S31] at hx
    split at hx
    · rename_i l hl
      obtain rfl := ints?_some hl
      split at hx
      · rename_i hlen
        obtain ⟨hlen, hp⟩ := hlen
        have hp := isP_true hp
        cases hx
        obtain ⟨σ', h⟩ := call31 (L := L1) hlen (ar := a.toNat) (s := n.toNat) (by omega) (by omega) (by omega) (N := 10) (n := 0)
        rw [show ((a.toNat : Nat) : Int) = a by omega, show ((n.toNat : Nat) : Int) = n by omega] at h
        exact ⟨[.agg (l.map (Value.int .i64)).toArray, .int .i64 a, .int .i64 n], _, by simp [AV.exacts?, AV.exact?, ints_exact], rfl, 10, 1, σ', h⟩
      · cases hx
    · cases hx

/-- The third layer. -/
def L3 : SumL := (50, S50) :: (31, S31) :: L2
theorem L3_ok : ∀ w, AllOk w L3 := cons_ok (cons_ok L2_ok sum31 Tryz.func31 rfl) sum50 Tryz.func50 rfl
end Go.Proofs.YtfmbpdacdopkgaaGreatDoor
