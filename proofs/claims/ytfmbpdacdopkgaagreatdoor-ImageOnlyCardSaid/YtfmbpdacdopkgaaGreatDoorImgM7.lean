/- Puts and images compared; the reference's SamePuts and Diff. Conditions: none. -/
import Derived.Test.YtfmbpdacdopkgaaGreatDoorImgM5
import Derived.Test.YtfmbpdacdopkgaaGreatDoorAiEq
namespace Go.Proofs.YtfmbpdacdopkgaaGreatDoor
set_option maxRecDepth 100000
open Go Go.Ai
open Go.RowKit (Below)

theorem guard79 : Tryz.prog.eqGuardType Tryz.prog.depth 79 = false := by kernel_rfl
theorem guard37 : Tryz.prog.eqGuardType Tryz.prog.depth 37 = false := by kernel_rfl
theorem stood79 : Tryz.prog.stoodInHeld 79 = false := by kernel_rfl
theorem stood37 : Tryz.prog.stoodInHeld 37 = false := by kernel_rfl
noncomputable def sizeIs (t n : Nat) : Bool := match Tryz.prog.info? t with | some i => i.size == n | none => false
theorem sizeIs_spec {t n : Nat} (h : sizeIs t n = true) : ∃ i, Tryz.prog.info? t = some i ∧ i.size = n := by
  unfold sizeIs at h
  split at h
  · rename_i i hi; exact ⟨i, hi, by simpa using h⟩
  · cases h
theorem size3 : ∃ i, Tryz.prog.info? 3 = some i ∧ i.size = 1 := sizeIs_spec (by kernel_rfl)
theorem size35 : ∃ i, Tryz.prog.info? 35 = some i ∧ i.size = 64 := sizeIs_spec (by kernel_rfl)

theorem eq79 {L : SumL} (x y z : Int) (xo yo : Operand) : eqA (EL L) .eql 79 xo yo (.agg [.i x, .i y, .i z]) (.agg [.i x, .i y, .i z]) = some (.b true) ∧ eqA (EL L) .neq 79 xo yo (.agg [.i x, .i y, .i z]) (.agg [.i x, .i y, .i z]) = some (.b false) := by
  refine eqA_of (E := EL L) (t := 79) (xs := #[.int .i64 x, .int .i64 y, .int .i64 z]) (ys := #[.int .i64 x, .int .i64 y, .int .i64 z]) (r := true) xo yo _ _ rfl rfl guard79 ?_
  have self : ∀ u : Int, runA Tryz.prog (Op.equalIn 9999 3 (.int .i64 u) (.int .i64 u)) = some true := fun u => by rw [runA_eq_int Tryz.underlying3]; simp
  have := runA_eq_struct (P := Tryz.prog) Tryz.underlying79 stood79 9999 #[.int .i64 x, .int .i64 y, .int .i64 z] #[.int .i64 x, .int .i64 y, .int .i64 z] (fun _ => true) (by
    intro f hf
    simp only [List.mem_cons, List.not_mem_nil, or_false] at hf
    rcases hf with rfl | rfl | rfl
    · exact ⟨by decide, .int .i64 x, .int .i64 x, runA_part_int Tryz.underlying3 rfl, runA_part_int Tryz.underlying3 rfl, self x⟩
    · exact ⟨by decide, .int .i64 y, .int .i64 y, runA_part_int Tryz.underlying3 rfl, runA_part_int Tryz.underlying3 rfl, self y⟩
    · exact ⟨by decide, .int .i64 z, .int .i64 z, runA_part_int Tryz.underlying3 rfl, runA_part_int Tryz.underlying3 rfl, self z⟩)
  exact this.trans rfl

theorem ext_ints {l : List Int} {i n : Nat} (_hi : i + n ≤ l.length) : (l.map (Value.int .i64)).toArray.extract i (i + n) = (((l.drop i).take n).map (Value.int .i64)).toArray := by
  apply Array.ext'
  rw [Array.toList_extract]
  simp [List.extract]

theorem eq37 {L : SumL} {cs : List Int} (hl : cs.length = 192) (xo yo : Operand) : eqA (EL L) .eql 37 xo yo (.agg (ints cs)) (.agg (ints cs)) = some (.b true) ∧ eqA (EL L) .neq 37 xo yo (.agg (ints cs)) (.agg (ints cs)) = some (.b false) := by
  have hx : (AV.agg (ints cs)).exact? = some (.agg (cs.map (Value.int .i64)).toArray) := by simp [AV.exact?, ints_exact]
  refine eqA_of (E := EL L) (t := 37) (xs := (cs.map (Value.int .i64)).toArray) (ys := (cs.map (Value.int .i64)).toArray) (r := true) xo yo _ _ hx hx guard37 ?_
  obtain ⟨i3, hi3, hs3⟩ := size3
  obtain ⟨i35, hi35, hs35⟩ := size35
  have part : ∀ i, i + 64 ≤ 192 → ∃ a, runA Tryz.prog (part 35 (cs.map (Value.int .i64)).toArray i) = some a ∧ runA Tryz.prog (Op.equalIn 9999 35 a a) = some true := by
    intro i hi
    refine ⟨_, runA_part_agg Tryz.underlying35 (.inl ⟨_, _, rfl⟩) hi35, ?_⟩
    rw [hs35, ext_ints (by omega), runA_eq_arr Tryz.underlying35 Tryz.underlying3 hi3 hs3 9997 _ _ (by simp; omega) (by simp; omega)]
    simp
  have := runA_eq_struct (P := Tryz.prog) Tryz.underlying37 stood37 9999 (cs.map (Value.int .i64)).toArray (cs.map (Value.int .i64)).toArray (fun _ => true) (by
    intro f hf
    simp only [List.mem_cons, List.not_mem_nil, or_false] at hf
    rcases hf with rfl | rfl | rfl
    · obtain ⟨a, h1, h2⟩ := part 0 (by omega); exact ⟨by decide, _, _, h1, h1, h2⟩
    · obtain ⟨a, h1, h2⟩ := part 64 (by omega); exact ⟨by decide, _, _, h1, h1, h2⟩
    · obtain ⟨a, h1, h2⟩ := part 128 (by omega); exact ⟨by decide, _, _, h1, h1, h2⟩)
  exact this.trans rfl

/- SamePuts, at equal lists. -/
noncomputable def in25 : Code := fAt Tryz.f25 [1, 1, 0, 1, 0, 0]
structure In25 (l : List Put3) (x y : AV) (σ0 : St) (k : Nat) (a : AFr) (σ : St) : Prop where
  n : a.n = 26
  d : a.df = []
  g0 : a.get 0 = x
  g1 : a.get 1 = y
  g12 : a.get 12 = .i (l.length : Int)
  g13 : a.get 13 = .i (k : Int)
  s : σ = σ0

theorem call25 {n : Nat} {L : SumL} {N : Nat} {l : List Put3} {x y : AV} {σ : St} (hx : SlAt σ 3 x (pcs l)) (hy : SlAt σ 3 y (pcs l)) (hN : l.length < N) (hl : l.length < 4611686018427387904) : (evalK (EL L) N (n + 1)).call 25 [x, y] σ = some (.ret (.b true), σ) := by
  have hfn : (EL L).fn 25 = some Tryz.f25 := fnL Tryz.func25 rfl
  have hn : (frame0 Tryz.f25 [x, y]).n = 26 := rfl
  have g0 : (frame0 Tryz.f25 [x, y]).get 0 = x := rfl
  have g1 : (frame0 Tryz.f25 [x, y]).get 1 = y := rfl
  have hd : (frame0 Tryz.f25 [x, y]).df = [] := rfl
  generalize hfr : frame0 Tryz.f25 [x, y] = a at hn g0 g1 hd
  have hlx := hx.len (E := EL L) (t := 55) (el := 79) Tryz.underlying55
  have hly := hy.len (E := EL L) (t := 55) (el := 79) Tryz.underlying55
  rw [pcs_len] at hlx hly
  obtain ⟨a1, e1, n1, d1, k0, k1⟩ : ∃ a1, codeA (evalK (EL L) N n) (EL L) N none (.seq (fAt Tryz.f25 [0]) (fAt Tryz.f25 [1, 0])) a σ = some (.normal, a1, σ) ∧ a1.n = 26 ∧ a1.df = [] ∧ a1.get 0 = x ∧ a1.get 1 = y := by
    simp only [fAt, cAt, Tryz.f25]
    simp [code_skip, code_region, code_seq, code_cond, opsA, oneA, wantedA, opA, kindOf, readA, uponA, AFr.put, get_set, n_set, df_set, opd, ne_int, hn, hd, g0, g1, hlx, hly]
  obtain ⟨a2, e2, i2⟩ : ∃ a2, codeA (evalK (EL L) N n) (EL L) N none (fAt Tryz.f25 [1, 1, 0, 0]) a1 σ = some (.normal, a2, σ) ∧ In25 l x y σ 0 a2 σ := by
    simp only [fAt, cAt, Tryz.f25]
    simp [code_region, opsA, oneA, wantedA, opA, kindOf, readA, uponA, AFr.put, get_set, n_set, opd, n1, k0, hlx]
    exact ⟨by simp [n_set, n1], by simp [df_set, d1], by simp [get_set, k0], by simp [get_set, k1], by simp [get_set], by simp [get_set], rfl⟩
  obtain ⟨a3, σ3, e3, rfl, d3, n3⟩ := loop_all (K := evalK (EL L) N n) (E := EL L) (N := N) (c := in25) 0 (In25 l x y σ) (fun a' σ' => σ' = σ ∧ a'.df = [] ∧ a'.n = 26) l.length
    (fun k a σ' hk hI => by
      obtain ⟨hn, hd, g0, g1, g12, g13, rfl⟩ := hI
      have hlt : (k : Int) < (l.length : Int) := by omega
      obtain ⟨p, hp, hr⟩ := hx.at (E := EL L) (t := 55) (el := 79) Tryz.underlying55 (z79 L) (pcs_at hk) (k := .i64)
      obtain ⟨q, hq, hr'⟩ := hy.at (E := EL L) (t := 55) (el := 79) Tryz.underlying55 (z79 L) (pcs_at hk) (k := .i64)
      have hld := load_agg (agg79 L) (z79 L) hr
      have hld' := load_agg (agg79 L) (z79 L) hr'
      have hw := wrap_nat (n := k) (by omega)
      have heq := fun xo yo => (eq79 (L := L) l[k].1 l[k].2.1 l[k].2.2 xo yo).2
      simp only [in25, fAt, cAt, Tryz.f25]
      simp [code_skip, code_region, code_draw, code_seq, code_cond, code_block, opsA, oneA, wantedA, opA, kindOf, readA, uponA, AFr.put, get_set, n_set, opd, cmp_lss, ar_add, ex2, regionA, dops, dopsGo, befOf, Region.binds, drawOk, nodupB, hasDefer, eager, drawA, dim, unord, sameIn, chk, beq_self, Nat.testBit, hn, g0, g1, g12, g13, hlt, hp, hq, hld, hld', heq, hw]
      exact ⟨by simp [n_set, hn], by simp [df_set, hd], by simp [get_set, g0], by simp [get_set, g1], by simp [get_set, g12], by simp [get_set], rfl⟩)
    (fun a σ' hI => by
      obtain ⟨hn, hd, g0, g1, g12, g13, rfl⟩ := hI
      simp only [in25, fAt, cAt, Tryz.f25]
      simp [code_region, code_seq, code_cond, code_exit, opsA, oneA, wantedA, opA, kindOf, readA, uponA, AFr.put, get_set, n_set, df_set, opd, cmp_lss, ex2, hn, hd, g12, g13]) hN i2
  have e4 : codeA (evalK (EL L) N n) (EL L) N none (fAt Tryz.f25 [1, 1, 1]) a3 σ3 = some (.ret, a3.set 4 (.b true), σ3) := by
    simp only [fAt, cAt, Tryz.f25]
    simp [code_region, code_seq, code_ret, opsA, oneA, wantedA, opA, kindOf, readA, uponA, AFr.put, opd, n3]
  have e0 : codeA (evalK (EL L) N n) (EL L) N none (fAt Tryz.f25 []) a σ3 = some (.ret, a3.set 4 (.b true), σ3) := by
    show codeA (evalK (EL L) N n) (EL L) N none (.seq (fAt Tryz.f25 [0]) (.seq (fAt Tryz.f25 [1, 0]) (.seq (.seq (fAt Tryz.f25 [1, 1, 0, 0]) (.block 0 (.loop in25))) (fAt Tryz.f25 [1, 1, 1])))) a σ3 = _
    rw [code_seq] at e1
    split at e1
    · rename_i b τ hb
      exact seq_n hb (seq_n e1 (seq_n (seq_n e2 e3) e4))
    · rename_i hne
      exact absurd e1 (hne a1 σ3)
  exact call_ret (x := .b true) hfn (show Tryz.f25.body = some (fAt Tryz.f25 []) from rfl) (by rw [hfr]; exact e0) (by rw [df_set]; exact d3) (by simp [resultA, resultsA, Tryz.f25, get_set])
end Go.Proofs.YtfmbpdacdopkgaaGreatDoor

namespace Go.Proofs.YtfmbpdacdopkgaaGreatDoor
set_option maxRecDepth 100000
open Go Go.Ai
open Go.RowKit (Below)

noncomputable def in26 : Code := fAt Tryz.f26 [1, 1, 0, 1, 0, 0, 1, 0, 0, 1, 0, 0]
noncomputable def out26 : Code := fAt Tryz.f26 [1, 1, 0, 1, 0, 0]
structure In26 (ca cb : List Int) (b : Nat) (σ0 : St) (ar s : Nat) (a : AFr) (σ : St) : Prop where
  n : a.n = 35
  d : a.df = []
  g2 : a.get 2 = .ptr b 0 0 192
  g3 : a.get 3 = .ptr (b + 1) 0 0 192
  g6 : a.get 6 = .i (ar : Int)
  g7 : a.get 7 = .i (s : Int)
  y : Grow (b + 2) σ 3 (a.get 5) (pcs (dif ca cb ((ar - 1) * 64 + s)))
  m0 : σ.get b = some (.cells (ints ca) 0 0)
  m1 : σ.get (b + 1) = some (.cells (ints cb) 0 0)
  nx : b + 2 ≤ σ.next
  kp : Keep b σ0 σ

theorem in26_step {K : Kont} {L : SumL} (h31 : sumOf L 31 = some S31) {N b : Nat} {ca cb : List Int} (hca : ca.length = 192) (hcb : cb.length = 192) {σ0 : St} {ar s : Nat} (h1 : 1 ≤ ar) (h3 : ar ≤ 3) (hs : s < 64) {a : AFr} {σ : St} (h : In26 ca cb b σ0 ar s a σ) :
    ∃ a' σ', codeA K (EL L) N none in26 a σ = some (.normal, a', σ') ∧ In26 ca cb b σ0 ar (s + 1) a' σ' := by
  obtain ⟨hn, hd, g2, g3, g6, g7, hy, m0, m1, nx, kp⟩ := h
  have hlt : (s : Int) < 64 := by omega
  have hw := wrap_nat (n := s) (by omega)
  have ea := S31_eq hca h1 h3 hs
  have eb := S31_eq hcb h1 h3 hs
  have hdif : dif ca cb ((ar - 1) * 64 + (s + 1)) = dif ca cb ((ar - 1) * 64 + s) ++ if ca.getD ((ar - 1) * 64 + s) 0 = cb.getD ((ar - 1) * 64 + s) 0 then [] else [((ar : Int), (s : Int), cb.getD ((ar - 1) * 64 + s) 0)] := by
    have e1 : ((ar - 1) * 64 + s) / 64 + 1 = ar := by omega
    have e2 : ((ar - 1) * 64 + s) % 64 = s := by omega
    rw [← Nat.add_assoc]
    simp only [dif, e1, e2]
  have hdl := dif_len ca cb ((ar - 1) * 64 + s)
  have la := ld37 (L := L) m0 hca
  have lb := ld37 (L := L) m1 hcb
  generalize ca.getD ((ar - 1) * 64 + s) 0 = u at ea hdif
  generalize cb.getD ((ar - 1) * 64 + s) 0 = w at eb hdif
  generalize dif ca cb ((ar - 1) * 64 + s) = ps at hy hdif hdl
  generalize h5 : a.get 5 = y0 at hy
  by_cases huw : u = w
  · subst huw
    rw [if_pos rfl, List.append_nil] at hdif
    simp only [in26, fAt, cAt, Tryz.f26]
    simp [code_skip, code_region, code_seq, code_cond, code_block, opsA, oneA, wantedA, opA, kindOf, readA, uponA, writeA, AFr.put, get_set, n_set, opd, callee?, callA, cmp_lss, ar_add, ne_int, ex2, hn, g2, g3, g6, g7, hlt, la, lb, ea, eb, sum_eq, h31, hw]
    exact ⟨by simp [n_set, hn], by simp [df_set, hd], by simp [get_set, g2], by simp [get_set, g3], by simp [get_set, g6], by simp [get_set], by rw [hdif]; simpa [get_set, h5] using hy, m0, m1, nx, kp⟩
  · rw [if_neg huw] at hdif
    obtain ⟨i79, z, hi79, hz79, hsz, hzs, hbt⟩ := inf79 L
    have gτ1 : (σ.add (.cells [.i (ar : Int), .i (s : Int), .i w] 0 0)).get σ.next = some (.cells [.i (ar : Int), .i (s : Int), .i w] 0 0) := St.get_add_same _ _
    have gτ1o : ∀ o, o < σ.next → (σ.add (.cells [.i (ar : Int), .i (s : Int), .i w] 0 0)).get o = σ.get o := fun o ho => by rw [get_sadd, if_neg (by omega)]
    obtain ⟨y, υ, hap, hgr, hkp⟩ := append_grow (E := EL L) (t := 55) (u := 55) (el := 79) (el' := 79) (y := [.i (ar : Int), .i (s : Int), .i w]) Tryz.underlying55 Tryz.underlying55 hi79 hz79 hsz hzs hbt (by decide) (hy.keep (σ' := σ.add (.cells [.i (ar : Int), .i (s : Int), .i w] 0 0)) (by rw [next_add]; omega) fun o _ h => gτ1o o h) (by rw [next_add]; omega) gτ1 rfl rfl (by rw [pcs_len]; omega)
    have hne : (w != u) = true := by simpa using (Ne.symm huw)
    have hbd := build79 (L := L) (.i (ar : Int)) (.i (s : Int)) (.i w) rfl rfl rfl
    have hle := hkp.le
    rw [next_add] at hle
    simp only [in26, fAt, cAt, Tryz.f26]
    simp [code_skip, code_region, code_seq, code_cond, code_block, opsA, oneA, wantedA, opA, kindOf, readA, uponA, writeA, AFr.put, get_set, n_set, opd, callee?, callA, cmp_lss, ar_add, ne_int, ex2, hn, g2, g3, g6, g7, h5, hlt, la, lb, ea, eb, sum_eq, h31, hw, hne, hbd, bs79 (L := L) (t := 31) (x := .i (ar : Int)) (y := .i (s : Int)) (z := .i w), hap]
    exact ⟨by simp [n_set, hn], by simp [df_set, hd], by simp [get_set, g2], by simp [get_set, g3], by simp [get_set, g6], by simp [get_set], by rw [hdif, pcs_append]; simp [get_set]; exact hgr,
      (hkp.same _ (by omega)).trans ((gτ1o _ (by omega)).trans m0), (hkp.same _ (by omega)).trans ((gτ1o _ (by omega)).trans m1), by omega,
      kp.trans (c := b) ⟨by omega, fun o ho => (hkp.same _ (by omega)).trans (gτ1o _ (by omega))⟩ (Nat.le_refl _)⟩

structure Out26 (ca cb : List Int) (b : Nat) (σ0 : St) (ar : Nat) (a : AFr) (σ : St) : Prop where
  n : a.n = 35
  d : a.df = []
  g2 : a.get 2 = .ptr b 0 0 192
  g3 : a.get 3 = .ptr (b + 1) 0 0 192
  g6 : a.get 6 = .i (ar : Int)
  y : Grow (b + 2) σ 3 (a.get 5) (pcs (dif ca cb ((ar - 1) * 64)))
  m0 : σ.get b = some (.cells (ints ca) 0 0)
  m1 : σ.get (b + 1) = some (.cells (ints cb) 0 0)
  nx : b + 2 ≤ σ.next
  kp : Keep b σ0 σ

theorem out26_step {K : Kont} {L : SumL} (h31 : sumOf L 31 = some S31) {N b : Nat} (hN : 64 < N) {ca cb : List Int} (hca : ca.length = 192) (hcb : cb.length = 192) {σ0 : St} {ar : Nat} (h1 : 1 ≤ ar) (h3 : ar ≤ 3) {a : AFr} {σ : St} (h : Out26 ca cb b σ0 ar a σ) :
    ∃ a' σ', codeA K (EL L) N none out26 a σ = some (.normal, a', σ') ∧ Out26 ca cb b σ0 (ar + 1) a' σ' := by
  obtain ⟨hn, hd, g2, g3, g6, hy, m0, m1, nx, kp⟩ := h
  have hle : (ar : Int) ≤ 3 := by omega
  obtain ⟨a1, e1, i1⟩ : ∃ a1, codeA K (EL L) N none (fAt Tryz.f26 [1, 1, 0, 1, 0, 0, 0]) a σ = some (.normal, a1, σ) ∧ Out26 ca cb b σ0 ar a1 σ := by
    simp only [fAt, cAt, Tryz.f26]
    simp [code_skip, code_region, code_seq, code_cond, opsA, oneA, wantedA, opA, kindOf, readA, uponA, AFr.put, get_set, n_set, opd, cmp_leq, hn, g6, hle]
    exact ⟨by simp [n_set, hn], by simp [df_set, hd], by simp [get_set, g2], by simp [get_set, g3], by simp [get_set, g6], by simpa [get_set] using hy, m0, m1, nx, kp⟩
  obtain ⟨a2, e2, i2⟩ : ∃ a2, codeA K (EL L) N none (fAt Tryz.f26 [1, 1, 0, 1, 0, 0, 1, 0, 0, 0]) a1 σ = some (.normal, a2, σ) ∧ In26 ca cb b σ0 ar 0 a2 σ := by
    have hn := i1.n
    simp only [fAt, cAt, Tryz.f26]
    simp [code_region, opsA, oneA, wantedA, opA, kindOf, readA, uponA, AFr.put, opd, hn]
    exact ⟨by simp [n_set, hn], by simp [df_set, i1.d], by simp [get_set, i1.g2], by simp [get_set, i1.g3], by simp [get_set, i1.g6], by simp [get_set], by simpa [get_set] using i1.y, m0, m1, nx, kp⟩
  obtain ⟨a3, σ3, e3, i3⟩ := loop_all (K := K) (E := EL L) (N := N) (c := in26) 2 (In26 ca cb b σ0 ar) (In26 ca cb b σ0 ar 64) 64
    (fun k a σ hk hI => in26_step h31 hca hcb h1 h3 hk hI)
    (fun a σ hI => by
      obtain ⟨hn, hd, g2, g3, g6, g7, hy, m0, m1, nx, kp⟩ := hI
      simp only [in26, fAt, cAt, Tryz.f26]
      simp [code_region, code_seq, code_cond, code_exit, opsA, oneA, wantedA, opA, kindOf, readA, uponA, AFr.put, get_set, n_set, opd, cmp_lss, ex2, hn, g7]
      exact ⟨by simp [n_set, hn], by simp [df_set, hd], by simp [get_set, g2], by simp [get_set, g3], by simp [get_set, g6], by simp [get_set, g7], by simpa [get_set] using hy, m0, m1, nx, kp⟩) hN i2
  obtain ⟨hn, hd, g2, g3, g6, g7, hy, m0, m1, nx, kp⟩ := i3
  have hw := wrap_nat (n := ar) (by omega)
  obtain ⟨a4, e4, i4⟩ : ∃ a4, codeA K (EL L) N none (fAt Tryz.f26 [1, 1, 0, 1, 0, 0, 1, 1]) a3 σ3 = some (.normal, a4, σ3) ∧ Out26 ca cb b σ0 (ar + 1) a4 σ3 := by
    simp only [fAt, cAt, Tryz.f26]
    simp [code_region, opsA, oneA, wantedA, opA, kindOf, readA, uponA, AFr.put, get_set, n_set, opd, ar_add, hn, g6, hw]
    refine ⟨by simp [n_set, hn], by simp [df_set, hd], by simp [get_set, g2], by simp [get_set, g3], by simp [get_set], ?_, m0, m1, nx, kp⟩
    rw [show (ar + 1 - 1) * 64 = (ar - 1) * 64 + 64 by omega]
    simpa [get_set] using hy
  exact ⟨a4, σ3, seq_n e1 (seq_n (block_n (seq_n e2 e3)) e4), i4⟩

/-- The reference's Diff. -/
theorem call26 {n : Nat} {L : SumL} (h31 : sumOf L 31 = some S31) {N : Nat} (hN : 64 < N) {ca cb : List Int} (hca : ca.length = 192) (hcb : cb.length = 192) (σ0 : St) :
    ∃ y σ', (evalK (EL L) N (n + 1)).call 26 [.agg (ints ca), .agg (ints cb)] σ0 = some (.ret y, σ') ∧ Grow (σ0.next + 2) σ' 3 y (pcs (dif ca cb 192)) ∧ Keep σ0.next σ0 σ' := by
  have hfn : (EL L).fn 26 = some Tryz.f26 := fnL Tryz.func26 rfl
  have hn : (frame0 Tryz.f26 [.agg (ints ca), .agg (ints cb)]).n = 35 := rfl
  have g0 : (frame0 Tryz.f26 [.agg (ints ca), .agg (ints cb)]).get 0 = .agg (ints ca) := rfl
  have g1 : (frame0 Tryz.f26 [.agg (ints ca), .agg (ints cb)]).get 1 = .agg (ints cb) := rfl
  have hd : (frame0 Tryz.f26 [.agg (ints ca), .agg (ints cb)]).df = [] := rfl
  generalize hfr : frame0 Tryz.f26 [.agg (ints ca), .agg (ints cb)] = a at hn g0 g1 hd
  have hbx : ∀ (t : Tmp) (cs : List Int), cs.length = 192 → ∀ (b : AFr) (o : Oper), o.op = .box 37 (.tmp t) → b.get t = .agg (ints cs) → allocA (EL L) b o = some (.cells (ints cs) 0 0, fun n => .ptr n 0 0 192) := by
    intro t cs hl b o ho hb
    simp [allocA, ho, opd, hb, AV.cells?, ints_len, hl]
  have hbx0 := hbx 0 ca hca
  have hbx1 := hbx 1 cb hcb
  have gA0 : ((σ0.add (.cells (ints ca) 0 0)).add (.cells (ints cb) 0 0)).get σ0.next = some (.cells (ints ca) 0 0) := by
    rw [get_sadd, if_neg (by rw [next_add]; omega), get_sadd, if_pos rfl]
  have gA1 : ((σ0.add (.cells (ints ca) 0 0)).add (.cells (ints cb) 0 0)).get (σ0.next + 1) = some (.cells (ints cb) 0 0) := by
    rw [get_sadd, if_pos (by rw [next_add])]
  have kA : Keep σ0.next σ0 ((σ0.add (.cells (ints ca) 0 0)).add (.cells (ints cb) 0 0)) := (Keep.add _ (Nat.le_refl _)).trans (Keep.add (b := σ0.next) _ (by rw [next_add]; omega)) (Nat.le_refl _)
  have nA : ((σ0.add (.cells (ints ca) 0 0)).add (.cells (ints cb) 0 0)).next = σ0.next + 2 := by rw [next_add, next_add]
  have eA : ∃ aA, codeA (evalK (EL L) N n) (EL L) N none (fAt Tryz.f26 [0]) a σ0 = some (.normal, aA, (σ0.add (.cells (ints ca) 0 0)).add (.cells (ints cb) 0 0)) ∧ aA.n = 35 ∧ aA.df = [] ∧ aA.get 2 = .ptr σ0.next 0 0 192 ∧ aA.get 3 = .ptr (σ0.next + 1) 0 0 192 := by
    simp only [fAt, cAt, Tryz.f26]
    simp [code_region, opsA, oneA, wantedA, opA, kindOf, readA, uponA, AFr.put, get_set, n_set, df_set, opd, hn, hd, g0, g1, hbx0, hbx1, next_add]
  generalize (σ0.add (.cells (ints ca) 0 0)).add (.cells (ints cb) 0 0) = σA at gA0 gA1 kA nA eA
  obtain ⟨aA, eA, nAA, dA, a2, a3⟩ := eA
  have eB : codeA (evalK (EL L) N n) (EL L) N none (fAt Tryz.f26 [1, 0]) aA σA = some (.normal, aA.set 5 (.v (.slice none 0 0)), σA) := by
    simp only [fAt, cAt, Tryz.f26]
    simp [code_region, opsA, oneA, wantedA, opA, kindOf, readA, uponA, AFr.put, opd, nAA]
  obtain ⟨aC, eC, iC⟩ : ∃ aC, codeA (evalK (EL L) N n) (EL L) N none (fAt Tryz.f26 [1, 1, 0, 0]) (aA.set 5 (.v (.slice none 0 0))) σA = some (.normal, aC, σA) ∧ Out26 ca cb σ0.next σ0 1 aC σA := by
    simp only [fAt, cAt, Tryz.f26]
    simp [code_region, opsA, oneA, wantedA, opA, kindOf, readA, uponA, AFr.put, n_set, opd, nAA]
    exact ⟨by simp [n_set, nAA], by simp [df_set, dA], by simp [get_set, a2], by simp [get_set, a3], by simp [get_set], by simp [get_set, dif]; exact Grow.nil _ _ _, gA0, gA1, by omega, kA⟩
  obtain ⟨aD, σD, eD, iD⟩ := loop_all (K := evalK (EL L) N n) (E := EL L) (N := N) (c := out26) 0 (fun k => Out26 ca cb σ0.next σ0 (k + 1)) (Out26 ca cb σ0.next σ0 4) 3
    (fun k a σ hk hI => out26_step h31 hN hca hcb (by omega) (by omega) hI)
    (fun a σ hI => by
      obtain ⟨hn, hd, g2, g3, g6, hy, m0, m1, nx, kp⟩ := hI
      simp only [out26, fAt, cAt, Tryz.f26]
      simp [code_region, code_seq, code_cond, code_exit, opsA, oneA, wantedA, opA, kindOf, readA, uponA, AFr.put, get_set, n_set, opd, cmp_leq, ex2, hn, g6]
      exact ⟨by simp [n_set, hn], by simp [df_set, hd], by simp [get_set, g2], by simp [get_set, g3], by simp [get_set, g6], by simpa [get_set] using hy, m0, m1, nx, kp⟩) (by omega) iC
  have nD := iD.n
  have eE : ∃ aE, codeA (evalK (EL L) N n) (EL L) N none (fAt Tryz.f26 [1, 1, 1]) aD σD = some (.ret, aE, σD) ∧ aE.df = [] ∧ aE.get 4 = aD.get 5 := by
    simp only [fAt, cAt, Tryz.f26]
    simp [code_region, code_seq, code_ret, opsA, oneA, wantedA, opA, kindOf, readA, uponA, AFr.put, get_set, n_set, df_set, opd, nD, iD.d]
  obtain ⟨aE, eE, dE, k4⟩ := eE
  exact ⟨aD.get 5, σD, call_ret hfn (show Tryz.f26.body = some (fAt Tryz.f26 []) from rfl) (by rw [hfr]; exact seq_n eA (seq_n eB (seq_n (seq_n eC eD) eE))) dE (by simp [resultA, resultsA, Tryz.f26, k4]), iD.y, iD.kp⟩
end Go.Proofs.YtfmbpdacdopkgaaGreatDoor
