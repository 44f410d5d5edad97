/- image.Used. Conditions: none. -/
import Derived.Test.YtfmbpdacdopkgaaGreatDoorImgR0
namespace Go.Proofs.YtfmbpdacdopkgaaGreatDoor
set_option maxRecDepth 100000
open Go Go.Ai
open Go.RowKit (Below)

/-- The places at which something holds, as puts. -/
def gath (q : Nat → Bool) : Nat → List Put3
  | 0 => []
  | k + 1 => gath q k ++ if q k then [(((k / 64 + 1 : Nat) : Int), ((k % 64 : Nat) : Int), 0)] else []
theorem gath_len (q : Nat → Bool) : ∀ k, (gath q k).length ≤ k
  | 0 => Nat.le_refl _
  | k + 1 => by
    have := gath_len q k
    simp only [gath, List.length_append]
    split <;> simp <;> omega
theorem gath_congr {p q : Nat → Bool} : ∀ k, (∀ j, j < k → p j = q j) → gath p k = gath q k
  | 0, _ => rfl
  | k + 1, h => by
    simp only [gath, gath_congr k (fun j hj => h j (by omega)), h k (by omega)]
theorem gath_at (q : Nat → Bool) {ar s : Nat} (h1 : 1 ≤ ar) (hs : s < 64) : gath q ((ar - 1) * 64 + s + 1) = gath q ((ar - 1) * 64 + s) ++ if q ((ar - 1) * 64 + s) then [((ar : Int), (s : Int), 0)] else [] := by
  have e1 : ((ar - 1) * 64 + s) / 64 + 1 = ar := by omega
  have e2 : ((ar - 1) * 64 + s) % 64 = s := by omega
  simp only [gath, e1, e2]

theorem build79' {L : SumL} (x y : AV) (hx : x.cells? = some [x]) (hy : y.cells? = some [y]) : buildA (EL L) 79 [(0, x), (1, y)] = some (.agg [x, y, .i 0]) := by
  simp [buildA, zero79, und_eq, Tryz.underlying79, z3, fillA, hx, hy, splice, Value.cells]

noncomputable def asg29 : Code := rgAsg (fAt Tryz.f29 [1, 1, 1, 1, 1, 0, 1, 0])
noncomputable def bdy29 : Code := fAt Tryz.f29 [1, 1, 1, 1, 1, 0, 1, 0, 0]
noncomputable def r29 (A : AFr) (d : Nat) : ALoop := { state := .ready, pending := none, tm := A, params := [28], assign := asg29, body := bdy29, dfr := d }

theorem asg29_run {K : Kont} {L : SumL} {N l : Nat} {σ : St} {a : AFr} {x y z : Int} (hn : a.n = 41) (h28 : a.get 28 = .agg [.i x, .i y, .i z]) :
    codeA K (EL L) N (some l) asg29 a σ = some (.normal, a.set 8 (.ptr σ.next 0 0 3), (σ.add (.cells [.i 0, .i 0, .i 0] 0 0)).set σ.next (.cells [.i x, .i y, .i z] 0 0)) := by
  have hst := st79 (L := L) (σ := σ.add (.cells [.i 0, .i 0, .i 0] 0 0)) (o := σ.next) (x := .i x) (y := .i y) (z := .i z) (St.get_add_same _ _) rfl rfl rfl
  simp only [asg29, rgAsg, fAt, cAt, Tryz.f29]
  rw [code_region_ro _ _ _ rfl]
  simp [opsA, oneA, wantedA, opA, kindOf, uponA, writeA, AFr.put, get_set, opd, hn, h28, al79, hst]

/-- A round of Used. -/
theorem round29 {K : Kont} {L : SumL} {N l v c d : Nat} {σ : St} {A : AFr} {y0 : AV} {ps : List Put3} (hl : σ.get l = some (.loop (r29 A d))) (hA : A.n = 41) (hA7 : A.get 7 = .ptr v 0 0 1)
    (hv : σ.get v = some (.cells [y0] 0 0)) (hg : Grow c σ 3 y0 (pcs ps)) (hps : ps.length < 1048576) (lc' : l < c) (vc : v < c) (cn : c ≤ σ.next) (hlv : l ≠ v) (ar s : Nat) (w : Int) :
    ∃ y σ', roundBody K (EL L) N l [.agg [.i (ar : Int), .i (s : Int), .i w]] σ = some (.ret (.b true), σ') ∧ σ'.get l = some (.loop (r29 A d)) ∧ σ'.get v = some (.cells [y] 0 0) ∧
      Grow c σ' 3 y (pcs (ps ++ if w == 1 then [((ar : Int), (s : Int), 0)] else [])) ∧ σ.next ≤ σ'.next ∧ ∀ o, o < c → o ≠ l → o ≠ v → σ'.get o = σ.get o := by
  have hp : setParams (r29 A d).params [.agg [.i (ar : Int), .i (s : Int), .i w]] { (r29 A d).tm with df := [] } = some (({ A with df := [] } : AFr).set 28 (.agg [.i (ar : Int), .i (s : Int), .i w])) := by
    simp [r29, setParams, hA]
  have ha := asg29_run (K := K) (L := L) (N := N) (l := l) (σ := σ) (a := ({ A with df := [] } : AFr).set 28 (.agg [.i (ar : Int), .i (s : Int), .i w])) (x := ar) (y := s) (z := w) (by simp [n_set, hA]) (by simp [get_set])
  generalize hσ₁ : (σ.add (.cells [.i 0, .i 0, .i 0] 0 0)).set σ.next (.cells [.i (ar : Int), .i (s : Int), .i w] 0 0) = σ₁ at ha
  have n1 : σ₁.next = σ.next + 1 := by rw [← hσ₁]; rfl
  have gp : σ₁.get σ.next = some (.cells [.i (ar : Int), .i (s : Int), .i w] 0 0) := by rw [← hσ₁, get_sset, if_pos rfl]
  have go : ∀ o, o < σ.next → σ₁.get o = σ.get o := fun o ho => by rw [← hσ₁, get_sset, if_neg (by omega), get_sadd, if_neg (by omega)]
  have hl1 : σ₁.get l = some (.loop (r29 A d)) := (go l (by omega)).trans hl
  generalize ha1 : ((({ A with df := [] } : AFr).set 28 (.agg [.i (ar : Int), .i (s : Int), .i w])).set 8 (.ptr σ.next 0 0 3)) = a₁ at ha
  have b1 : a₁.n = 41 := by rw [← ha1]; simp [n_set, hA]
  have b2 : a₁.df = [] := by rw [← ha1]; rfl
  have b8 : a₁.get 8 = .ptr σ.next 0 0 3 := by rw [← ha1]; simp [get_set]
  have b7 : a₁.get 7 = .ptr v 0 0 1 := by rw [← ha1]; simp [get_set]; exact hA7
  generalize hτ : σ₁.set l (.loop { r29 A d with state := .busy }) = τ
  have gτp : τ.get σ.next = some (.cells [.i (ar : Int), .i (s : Int), .i w] 0 0) := by rw [← hτ, get_sset, if_neg (by omega)]; exact gp
  have gτl : τ.get l = some (.loop { r29 A d with state := .busy }) := by rw [← hτ, get_sset, if_pos rfl]
  have gτo : ∀ o, o < σ.next → o ≠ l → τ.get o = σ.get o := fun o ho h => by rw [← hτ, get_sset, if_neg (Ne.symm h), go o ho]
  have gτv : τ.get v = some (.cells [y0] 0 0) := (gτo v (by omega) (Ne.symm hlv)).trans hv
  have nτ : τ.next = σ.next + 1 := by rw [← hτ, next_set, n1]
  have k0 := fa79 (L := L) (o := σ.next) (i := 0) (g := 0) (e := 3) (k := 0) (by omega) (by omega)
  have k1 := fa79 (L := L) (o := σ.next) (i := 0) (g := 0) (e := 3) (k := 1) (by omega) (by omega)
  have k2 := fa79 (L := L) (o := σ.next) (i := 0) (g := 0) (e := 3) (k := 2) (by omega) (by omega)
  have l0 : loadA (EL L) τ 3 (.ptr σ.next (0 + 0) 0 1) = some (.i (ar : Int)) := load_one (agg3 L) (by simp [rdCells, gτp])
  have l1 : loadA (EL L) τ 3 (.ptr σ.next (0 + 1) 0 1) = some (.i (s : Int)) := load_one (agg3 L) (by simp [rdCells, gτp])
  have l2 : loadA (EL L) τ 3 (.ptr σ.next (0 + 2) 0 1) = some (.i w) := load_one (agg3 L) (by simp [rdCells, gτp])
  simp only [Nat.zero_add] at k0 k1 k2 l0 l1 l2
  have gτg : Grow c τ 3 y0 (pcs ps) := hg.keep (by omega) fun o h h' => gτo o h' (by omega)
  by_cases hw1 : w = 1
  · subst hw1
    obtain ⟨i79, z, hi79, hz79, hsz, hzs, hbt⟩ := inf79 L
    have gτ1 : (τ.add (.cells [.i (ar : Int), .i (s : Int), .i 0] 0 0)).get τ.next = some (.cells [.i (ar : Int), .i (s : Int), .i 0] 0 0) := St.get_add_same _ _
    have gτ1o : ∀ o, o < τ.next → (τ.add (.cells [.i (ar : Int), .i (s : Int), .i 0] 0 0)).get o = τ.get o := fun o ho => by rw [get_sadd, if_neg (by omega)]
    obtain ⟨y, υ, hap, hgr, hkp⟩ := append_grow (E := EL L) (t := 55) (u := 55) (el := 79) (el' := 79) (y := [.i (ar : Int), .i (s : Int), .i 0]) Tryz.underlying55 Tryz.underlying55 hi79 hz79 hsz hzs hbt (by decide) (gτg.keep (σ' := τ.add (.cells [.i (ar : Int), .i (s : Int), .i 0] 0 0)) (by rw [next_add]; omega) fun o _ h => gτ1o o h) (by rw [next_add]; omega) gτ1 rfl rfl (by rw [pcs_len]; exact hps)
    have hyc := hgr.cell
    have gυv : υ.get v = some (.cells [y0] 0 0) := (hkp.same v vc).trans ((gτ1o v (by omega)).trans gτv)
    have hst := st55 (L := L) gυv hyc.1 hyc.2
    have hlds : loadA (EL L) τ 55 (.ptr v 0 0 1) = some y0 := ld55 gτv
    have hbd := build79' (L := L) (.i (ar : Int)) (.i (s : Int)) rfl rfl
    have hb : ∃ a₂, codeA K (EL L) N (some l) bdy29 a₁ τ = some (.normal, a₂, υ.set v (.cells [y] 0 0)) ∧ a₂.df = [] := by
      simp only [bdy29, fAt, cAt, Tryz.f29]
      simp [code_seq, code_cond, code_block, opsA, oneA, wantedA, opA, kindOf, readA, uponA, writeA, AFr.put, get_set, n_set, df_set, opd, eq_int, b1, b2, b7, b8, k0, k1, k2, l0, l1, l2, code_region_ro, hasDefer, hbd, bs79 (L := L) (t := 37) (x := .i (ar : Int)) (y := .i (s : Int)) (z := .i 0), hlds, hap, hst]
    obtain ⟨a₂, hb, hd⟩ := hb
    have hυl : (υ.set v (.cells [y] 0 0)).get l = some (.loop { r29 A d with state := .busy }) := by
      rw [get_sset, if_neg (Ne.symm hlv), hkp.same l lc', gτ1o l (by omega)]; exact gτl
    have hle := hkp.le
    rw [next_add] at hle
    refine ⟨y, _, round_n hl rfl hp ha hl1 (by rw [hτ]; exact hb) hd hυl, by rw [get_sset, if_pos rfl]; rfl, by rw [get_sset, if_neg hlv, get_sset, if_pos rfl], ?_, by rw [next_set, next_set]; omega,
      fun o ho h h' => by rw [get_sset, if_neg (Ne.symm h), get_sset, if_neg (Ne.symm h'), hkp.same o ho, gτ1o o (by omega), gτo o (by omega) h]⟩
    rw [pcs_append]
    exact hgr.keep (by rw [next_set, next_set]; exact Nat.le_refl _) fun o h _ => by rw [get_sset, if_neg (by omega), get_sset, if_neg (by omega)]
  · have hne : (w == 1) = false := by simpa using hw1
    have hb : ∃ a₂, codeA K (EL L) N (some l) bdy29 a₁ τ = some (.normal, a₂, τ) ∧ a₂.df = [] := by
      simp only [bdy29, fAt, cAt, Tryz.f29]
      simp [code_skip, code_seq, code_cond, code_block, opsA, oneA, wantedA, opA, kindOf, readA, uponA, AFr.put, get_set, n_set, df_set, opd, eq_int, b1, b2, b8, k2, l2, code_region_ro, hasDefer, hne]
    obtain ⟨a₂, hb, hd⟩ := hb
    refine ⟨y0, _, round_n hl rfl hp ha hl1 (by rw [hτ]; exact hb) hd gτl, by rw [get_sset, if_pos rfl]; rfl, by rw [get_sset, if_neg hlv]; exact gτv, ?_, by rw [next_set, nτ]; omega, fun o ho h _ => by rw [get_sset, if_neg (Ne.symm h), gτo o (by omega) h]⟩
    rw [hne, if_neg (by decide), List.append_nil]
    exact gτg.keep (by rw [next_set]; exact Nat.le_refl _) fun o h _ => by rw [get_sset, if_neg (by omega)]

/-- The state while Used visits the slots: `e`: the view; `c`: the objects made for the visit. -/
structure Usd (cs : List Int) (b e c : Nat) (σ0 : St) (A : AFr) (k : Nat) (σ : St) : Prop where
  g3 : σ.get (c + 3) = some (.loop (r29 A (c + 2)))
  g2 : σ.get (c + 2) = some (.dfr false)
  g1 : σ.get (c + 1) = some (.cells [.ptr e 0 0 192] 0 0)
  ge : σ.get e = some (.cells (ints cs) 0 0)
  y : ∃ y, σ.get c = some (.cells [y] 0 0) ∧ Grow (c + 4) σ 3 y (pcs (gath (fun k => cs.getD k 0 == 1) k))
  n : c + 4 ≤ σ.next
  kp : Keep b σ0 σ

theorem usd_visit {n : Nat} {L : SumL} {N b e c : Nat} (hbe : b ≤ e) (hec : e < c) {cs : List Int} (hcs : cs.length = 192) {σ0 : St} {A : AFr} (hA : A.n = 41) (hA7 : A.get 7 = .ptr c 0 0 1) :
    Visit (evalK (EL L) N (n + 1)) (c + 3) (c + 1) e cs (Usd cs b e c σ0 A) (fun _ => False) where
  hb k σ h := by simp [rdCells, h.g1]
  ho k σ h j hj := rd_ints h.ge (by omega)
  hr ar s σ h1 h3 hs h := by
    obtain ⟨g3, g2, g1, ge, ⟨y, g0, hg⟩, hn, kp⟩ := h
    have hdl := gath_len (fun k => cs.getD k 0 == 1) ((ar - 1) * 64 + s)
    obtain ⟨y', σ', ev, q1, q2, q3, q4, q5⟩ := round29 (K := evalK (EL L) N n) (L := L) (N := N) (l := c + 3) (v := c) (c := c + 4) (d := c + 2) g3 hA hA7 g0 hg (by omega) (by omega) (by omega) hn (by omega) ar s (cs.getD ((ar - 1) * 64 + s) 0)
    refine .inl ⟨σ', ev, q1, (q5 _ (by omega) (by omega) (by omega)).trans g2, (q5 _ (by omega) (by omega) (by omega)).trans g1, (q5 _ (by omega) (by omega) (by omega)).trans ge, ⟨y', q2, ?_⟩, by omega, kp.trans ⟨q4, fun o ho => q5 o (by omega) (by omega) (by omega)⟩ (Nat.le_refl b)⟩
    rw [gath_at _ h1 hs]
    exact q3
end Go.Proofs.YtfmbpdacdopkgaaGreatDoor

namespace Go.Proofs.YtfmbpdacdopkgaaGreatDoor
set_option maxRecDepth 100000
open Go Go.Ai
open Go.RowKit (Below)

def mark1 (x : Lk) : Put3 := (x.a, x.s, 1)
def marks (l : List Lk) : List Int := setAll zimg (l.map mark1)
theorem marks_len (l : List Lk) : (marks l).length = 192 := by rw [marks, setAll_len, zimg_len]
theorem marks_take {l : List Lk} {k : Nat} (hk : k < l.length) : marks (l.take (k + 1)) = (marks (l.take k)).set ((l[k].a.toNat - 1) * 64 + l[k].s.toNat) 1 := by
  unfold marks
  rw [List.take_succ_eq_append_getElem hk, List.map_append]
  simp only [setAll, List.foldl_append, List.map_cons, List.map_nil, List.foldl_cons, List.foldl_nil, setP, mark1]
theorem okI_place {l : List Lk} {k : Nat} (hk : k < l.length) (h : okI l k = true) : isP l[k].a l[k].s = true := by
  rw [okI_at hk] at h
  simp [okL] at h
  exact h.1.2
theorem bd96z {L : SumL} : buildA (EL L) 96 [] = some (.agg (ints zimg)) := by
  obtain ⟨v, hv, hc⟩ := zero96 L
  simp only [buildA, hv, und_eq, Tryz.underlying96, fillA]
  simp [z37, hc]

noncomputable def in29 : Code := fAt Tryz.f29 [1, 1, 1, 0, 1, 0, 0]
structure In29 (l : List Lk) (x : AV) (b e : Nat) (σ0 : St) (k : Nat) (a : AFr) (σ : St) : Prop where
  n : a.n = 41
  d : a.df = []
  g4 : a.get 4 = .ptr e 0 0 192
  g13 : a.get 13 = x
  g14 : a.get 14 = .i (l.length : Int)
  g15 : a.get 15 = .i (k : Int)
  me : σ.get e = some (.cells (ints (marks (l.take k))) 0 0)
  en : e < σ.next
  kp : Keep b σ0 σ

theorem in29_step {n : Nat} {L : SumL} (h44 : sumOf L 44 = none) {N b e : Nat} (hbe : b ≤ e) {l : List Lk} {x : AV} {σ0 : St} (hs : ∀ σ, Keep b σ0 σ → SlAt σ 6 x (lcs l)) (hl : l.length ≤ 400) {k : Nat} (hk : k < l.length) (hok : okI l k = true) {a : AFr} {σ : St} (h : In29 l x b e σ0 k a σ) :
    ∃ a' σ', codeA (evalK (EL L) N (n + 1)) (EL L) N none in29 a σ = some (.normal, a', σ') ∧ In29 l x b e σ0 (k + 1) a' σ' := by
  obtain ⟨hn, hd, g4, g13, g14, g15, me, en, kp⟩ := h
  have hlt : (k : Int) < (l.length : Int) := by omega
  obtain ⟨p, hp, hr⟩ := (hs σ kp).at (E := EL L) (t := 34) (el := 74) Tryz.underlying34 (z74 L) (lcs_at hk) (k := .i64)
  have hld := load_agg (agg74 L) (z74 L) hr
  have hw := wrap_nat (n := k) (by omega)
  have hP := isP_true (okI_place hk hok)
  have hset := marks_take hk
  have hcl := marks_len (l.take k)
  generalize hcur : marks (l.take k) = cur at me hset hcl
  generalize hz : l[k] = z at hld hP hset
  have e1 : z.a = (z.a.toNat : Int) := by omega
  have e2 : z.s = (z.s.toNat : Int) := by omega
  have kle := kp.le
  have hst := st74 (L := L) (σ := σ.add (.cells lz 0 0)) (o := σ.next) z (St.get_add_same _ _)
  generalize hτ : (σ.add (.cells lz 0 0)).set σ.next (.cells (lc z) 0 0) = τ at hst
  have gp : τ.get σ.next = some (.cells (lc z) 0 0) := by rw [← hτ, get_sset, if_pos rfl]
  have go : ∀ o, o < σ.next → τ.get o = σ.get o := fun o ho => by rw [← hτ, get_sset, if_neg (by omega), get_sadd, if_neg (by omega)]
  have nτ : τ.next = σ.next + 1 := by rw [← hτ]; rfl
  obtain ⟨r0, r1, r2, r3, r4, -⟩ := rdL gp
  have m3 : loadA (EL L) τ 3 (.ptr σ.next 3 0 1) = some (.i z.a) := load_one (agg3 L) r3
  have m4 : loadA (EL L) τ 3 (.ptr σ.next 4 0 1) = some (.i z.s) := load_one (agg3 L) r4
  have k3 := fa74 (L := L) (o := σ.next) (i := 0) (g := 0) (e := 6) (k := 3) (by omega) (by omega)
  have k4 := fa74 (L := L) (o := σ.next) (i := 0) (g := 0) (e := 6) (k := 4) (by omega) (by omega)
  simp only [Nat.zero_add] at k3 k4
  rw [e1] at m3
  rw [e2] at m4
  generalize z.a.toNat = ar at e1 hset m3
  generalize z.s.toNat = s at e2 hset m4
  have hc44 : (evalK (EL L) N (n + 1)).call 44 [.ptr e 0 0 192, .i (ar : Int)] τ = some (.ret (.ptr e ((ar - 1) * 64) 0 64), τ) := area44 (by omega) (by omega)
  have hi := ix35 (L := L) (o := e) (b := (ar - 1) * 64) (g := 0) (s := s) (by omega)
  have hw3 := st3 (L := L) (σ := τ) (o := e) (j := (ar - 1) * 64 + s) (v := 1) (by rw [go _ en]; exact me) (by omega)
  simp only [in29, fAt, cAt, Tryz.f29]
  simp [code_skip, code_region, code_draw, code_seq, code_cond, code_block, opsA, oneA, wantedA, opA, kindOf, readA, uponA, writeA, AFr.put, get_set, n_set, df_set, opd, callee?, callA, cmp_lss, ar_add, ex2, regionA, dops, dopsGo, befOf, Region.binds, drawOk, nodupB, hasDefer, eager, drawA, dim, unord, sameIn, chk, beq_self, Nat.testBit, next_set, hn, hd, g4, g13, g14, g15, hlt, hp, hld, al74, hst, k3, k4, m3, m4, sum_eq, h44, fn44, hc44, hi, hw3, hw]
  refine ⟨by simp [n_set, hn], by simp [df_set, hd], by simp [get_set, g4], by simp [get_set, g13], by simp [get_set, g14], by simp [get_set], ?_, ?_, ?_⟩
  · rw [get_sset, if_pos rfl, hset]
  · rw [next_set, nτ]; omega
  · exact kp.trans (b := b) (c := b) ⟨by rw [next_set, nτ]; omega, fun o ho => by rw [get_sset, if_neg (by omega), go _ (by omega)]⟩ (Nat.le_refl _)

/-- image.Used. -/
theorem call29 {n : Nat} {L : SumL} (h44 : sumOf L 44 = none) (h48 : sumOf L 48 = none) (h64 : sumOf L 64 = none) (h53 : sumOf L 53 = none) (h36 : sumOf L 36 = some S36) {N : Nat} (hN : 400 < N) {l : List Lk} {x : AV} {σ0 : St} (hs : ∀ σ, Keep σ0.next σ0 σ → SlAt σ 6 x (lcs l)) :
    ∃ y σ' c, (evalK (EL L) N (n + 3)).call 29 [x] σ0 = some (.ret (.tup [y, .i (if linked l then 0 else 2)]), σ') ∧ σ0.next ≤ c ∧ Grow c σ' 3 y (if linked l then pcs (gath (fun k => (marks l).getD k 0 == 1) 192) else []) ∧ Keep σ0.next σ0 σ' := by
  have hfn : (EL L).fn 29 = some Tryz.f29 := fnL Tryz.func29 rfl
  have f53 : (EL L).fn 53 = some Tryz.f53 := fnL Tryz.func53 rfl
  have hn : (frame0 Tryz.f29 [x]).n = 41 := rfl
  have g0 : (frame0 Tryz.f29 [x]).get 0 = x := rfl
  have hd : (frame0 Tryz.f29 [x]).df = [] := rfl
  generalize hfr : frame0 Tryz.f29 [x] = a at hn g0 hd
  obtain ⟨a1, e1, n1, d1, a10⟩ : ∃ a1, codeA (evalK (EL L) N (n + 2)) (EL L) N none (fAt Tryz.f29 [0]) a σ0 = some (.normal, a1, σ0) ∧ a1.n = 41 ∧ a1.df = [] ∧ a1.get 0 = x := by
    simp only [fAt, cAt, Tryz.f29]
    simp [code_region, opsA, oneA, wantedA, opA, kindOf, readA, uponA, AFr.put, get_set, n_set, df_set, opd, hn, hd, g0]
  obtain ⟨σ2, c53, kp2⟩ := call53 (n := n + 1) (L := L) h36 hN hs
  obtain ⟨a2, e2, n2, d2, a20, a211⟩ : ∃ a2, codeA (evalK (EL L) N (n + 2)) (EL L) N none (fAt Tryz.f29 [1, 0, 0]) a1 σ0 = some (.normal, a2, σ2) ∧ a2.n = 41 ∧ a2.df = [] ∧ a2.get 0 = x ∧ a2.get 11 = .b (!linked l) := by
    simp only [fAt, cAt, Tryz.f29]
    simp [code_region, opsA, oneA, wantedA, opA, kindOf, readA, uponA, writeA, AFr.put, get_set, n_set, df_set, opd, callee?, callA, un_not, n1, d1, a10, sum_eq, h53, f53, c53]
  cases hok : linked l with
  | false =>
    rw [hok] at a211
    obtain ⟨a3, e3, d3, k2, k3⟩ : ∃ a3, codeA (evalK (EL L) N (n + 2)) (EL L) N none (fAt Tryz.f29 [1, 0, 1]) a2 σ2 = some (.ret, a3, σ2) ∧ a3.df = [] ∧ a3.get 2 = .v (.slice none 0 0) ∧ a3.get 3 = .i 2 := by
      simp only [fAt, cAt, Tryz.f29]
      simp [code_region, code_seq, code_cond, code_ret, opsA, oneA, wantedA, opA, kindOf, readA, uponA, AFr.put, get_set, n_set, df_set, opd, n2, d2, a211]
    refine ⟨.v (.slice none 0 0), σ2, σ0.next, call_ret hfn (show Tryz.f29.body = some (fAt Tryz.f29 []) from rfl) (by rw [hfr]; exact seq_n e1 (seq_ret (seq_n e2 e3))) d3 (by simp [resultA, resultsA, Tryz.f29, k2, k3]), Nat.le_refl _, ?_, kp2⟩
    simpa using Grow.nil _ _ _
  | true =>
    rw [hok] at a211
    obtain ⟨hl, hoks⟩ := linked_iff hok
    have e3 : codeA (evalK (EL L) N (n + 2)) (EL L) N none (fAt Tryz.f29 [1, 0, 1]) a2 σ2 = some (.normal, a2, σ2) := by
      simp only [fAt, cAt, Tryz.f29]
      simp [code_skip, code_cond, opd, a211]
    have le2 := kp2.le
    have hst := st96 (L := L) (σ := σ2.add (.cells (ints zimg) 0 0)) (o := σ2.next) (cs := zimg) (St.get_add_same _ _) rep_len zimg_len
    obtain ⟨a4, σ4, e4, n4, d4, a40, a44, m4, x4, kp4⟩ : ∃ a4 σ4, codeA (evalK (EL L) N (n + 2)) (EL L) N none (fAt Tryz.f29 [1, 1, 0]) a2 σ2 = some (.normal, a4, σ4) ∧ a4.n = 41 ∧ a4.df = [] ∧ a4.get 0 = x ∧ a4.get 4 = .ptr σ2.next 0 0 192 ∧ σ4.get σ2.next = some (.cells (ints zimg) 0 0) ∧ σ4.next = σ2.next + 1 ∧ Keep σ0.next σ0 σ4 := by
      have kk : Keep σ0.next σ0 ((σ2.add (.cells (ints zimg) 0 0)).set σ2.next (.cells (ints zimg) 0 0)) := (kp2.trans (Keep.add (b := σ0.next) _ le2) (Nat.le_refl _)).trans (Keep.set (b := σ0.next) _ le2) (Nat.le_refl _)
      simp only [fAt, cAt, Tryz.f29]
      simp [code_region, opsA, oneA, wantedA, opA, kindOf, readA, uponA, writeA, AFr.put, get_set, n_set, df_set, opd, ex2, n2, d2, a20, bd96z, al96, hst, get_sset, next_set, next_add, kk]
    have hlen4 := (hs σ4 kp4).len (E := EL L) (t := 34) (el := 74) Tryz.underlying34
    rw [lcs_len] at hlen4
    obtain ⟨a5, e5, i5⟩ : ∃ a5, codeA (evalK (EL L) N (n + 2)) (EL L) N none (fAt Tryz.f29 [1, 1, 1, 0, 0]) a4 σ4 = some (.normal, a5, σ4) ∧ In29 l x σ0.next σ2.next σ0 0 a5 σ4 := by
      simp only [fAt, cAt, Tryz.f29]
      simp [code_region, opsA, oneA, wantedA, opA, kindOf, readA, uponA, AFr.put, get_set, n_set, opd, n4, a40, hlen4]
      exact ⟨by simp [n_set, n4], by simp [df_set, d4], by simp [get_set, a44], by simp [get_set], by simp [get_set], by simp [get_set], m4, by omega, kp4⟩
    obtain ⟨a6, σ6, e6, n6, d6, a64, m6, nx6, kp6⟩ := loop_all (K := evalK (EL L) N (n + 2)) (E := EL L) (N := N) (c := in29) 0 (In29 l x σ0.next σ2.next σ0) (fun a σ => a.n = 41 ∧ a.df = [] ∧ a.get 4 = .ptr σ2.next 0 0 192 ∧ σ.get σ2.next = some (.cells (ints (marks l)) 0 0) ∧ σ2.next < σ.next ∧ Keep σ0.next σ0 σ) l.length
      (fun k a σ hk hI => in29_step (n := n + 1) h44 le2 hs hl hk (hoks k hk) hI)
      (fun a σ hI => by
        obtain ⟨hn, hd, g4, g13, g14, g15, me, en, kp⟩ := hI
        rw [List.take_length] at me
        simp only [in29, fAt, cAt, Tryz.f29]
        simp [code_region, code_seq, code_cond, code_exit, opsA, oneA, wantedA, opA, kindOf, readA, uponA, AFr.put, get_set, n_set, df_set, opd, cmp_lss, ex2, hn, hd, g4, g14, g15]
        exact ⟨me, en, kp⟩) (by omega) i5
    have le6 := kp6.le
    have e7 : codeA (evalK (EL L) N (n + 2)) (EL L) N none (fAt Tryz.f29 [1, 1, 1, 1, 0]) a6 σ6 = some (.normal, a6.set 7 (.ptr σ6.next 0 0 1), σ6.add (.cells [.v (.slice none 0 0)] 0 0)) := by
      simp only [fAt, cAt, Tryz.f29]
      simp [code_region, opsA, oneA, wantedA, opA, kindOf, uponA, AFr.put, n6, al55]
    have e8 : codeA (evalK (EL L) N (n + 2)) (EL L) N none (fAt Tryz.f29 [1, 1, 1, 1, 1, 0, 0]) (a6.set 7 (.ptr σ6.next 0 0 1)) (σ6.add (.cells [.v (.slice none 0 0)] 0 0)) =
        some (.normal, (a6.set 7 (.ptr σ6.next 0 0 1)).set 27 (.fn 64 [] [.ptr (σ6.next + 1) 0 0 1]), (σ6.add (.cells [.v (.slice none 0 0)] 0 0)).add (.cells [.ptr σ2.next 0 0 192] 0 0)) := by
      have hc := call48 (n := n + 1) (L := L) (N := N) (o := σ2.next) (σ := σ6.add (.cells [.v (.slice none 0 0)] 0 0))
      rw [next_add] at hc
      simp only [fAt, cAt, Tryz.f29]
      simp [code_region, opsA, oneA, wantedA, opA, kindOf, uponA, writeA, AFr.put, get_set, n_set, opd, callee?, callA, n6, a64, sum_eq, h48, fn48, hc]
    generalize hA : (a6.set 7 (.ptr σ6.next 0 0 1)).set 27 (.fn 64 [] [.ptr (σ6.next + 1) 0 0 1]) = A at e8
    have A1 : A.n = 41 := by rw [← hA]; exact n6
    have A7 : A.get 7 = .ptr σ6.next 0 0 1 := by rw [← hA]; simp [get_set]
    have A4 : A.df = [] := by rw [← hA]; exact d6
    have A27 : A.get 27 = .fn 64 [] [.ptr (σ6.next + 1) 0 0 1] := by rw [← hA]; simp [get_set]
    generalize hσF : (σ6.add (.cells [.v (.slice none 0 0)] 0 0)).add (.cells [.ptr σ2.next 0 0 192] 0 0) = σF at e8
    have xF : σF.next = σ6.next + 2 := by rw [← hσF, next_add, next_add]
    have hI : Usd (marks l) σ0.next σ2.next σ6.next σ0 A 0 (rangeSt σF A #[28] asg29 bdy29) := by
      refine ⟨?_, ?_, ?_, ?_, ⟨.v (.slice none 0 0), ?_, Grow.nil _ _ _⟩, ?_, ?_⟩
      · simp only [rangeSt, get_sadd, next_add, xF]; rfl
      · simp [rangeSt, get_sadd, next_add, xF]
      · simp [rangeSt, get_sadd, next_add, ← hσF]; omega
      · simp only [rangeSt, get_sadd, next_add, ← hσF]
        rw [if_neg (by omega), if_neg (by omega), if_neg (by omega), if_neg (by omega)]; exact m6
      · simp only [rangeSt, get_sadd, next_add, ← hσF]
        rw [if_neg (by omega), if_neg (by omega), if_neg (by omega)]; simp
      · simp [rangeSt, next_add, xF]
      · refine kp6.trans (c := σ0.next) ⟨?_, fun o ho => ?_⟩ (Nat.le_refl _)
        · simp only [rangeSt, next_add, xF]; omega
        · simp only [rangeSt, get_sadd, next_add, ← hσF]
          rw [if_neg (by omega), if_neg (by omega), if_neg (by omega), if_neg (by omega)]
    obtain ⟨σG, hc, hq⟩ := call64 (n := n) h44 (by omega) (usd_visit (n := n) (L := L) (N := N) le2 nx6 (marks_len l) A1 A7) hI
    have hq := hq.resolve_right fun h => h
    have hop : opd (EL L) A (.tmp 27) = .fn 64 [] [.ptr (σ6.next + 1) 0 0 1] := A27
    have hr := range_n (K := evalK (EL L) N (n + 2)) (N := N) (f := .tmp 27) (ps := #[28]) (assign := asg29) (body := bdy29) (a := A) (σ := σF) hop h64 (fn64 L) (by rw [xF]; exact hc) (by rw [xF]; exact hq.g3) rfl rfl
    rw [xF] at hr
    obtain ⟨y, hy, hgr⟩ := hq.y
    have hl4 : loadA (EL L) (σG.set (σ6.next + 2 + 1) (.loop { r29 A (σ6.next + 2) with state := .exhausted })) 55 (.ptr σ6.next 0 0 1) = some y := ld55 (by rw [get_sset, if_neg (by omega)]; exact hy)
    have gA : ({ A with df := .mark (σ6.next + 2) :: A.df } : AFr).get 7 = .ptr σ6.next 0 0 1 := A7
    have eH : ∃ aH, codeA (evalK (EL L) N (n + 2)) (EL L) N none (fAt Tryz.f29 [1, 1, 1, 1, 1, 1]) { A with df := .mark (σ6.next + 2) :: A.df } (σG.set (σ6.next + 2 + 1) (.loop { r29 A (σ6.next + 2) with state := .exhausted })) =
        some (.ret, aH, σG.set (σ6.next + 2 + 1) (.loop { r29 A (σ6.next + 2) with state := .exhausted })) ∧ aH.df = [.mark (σ6.next + 2)] ∧ aH.get 2 = y ∧ aH.get 3 = .i 0 := by
      generalize hA' : ({ A with df := .mark (σ6.next + 2) :: A.df } : AFr) = A' at gA
      have A'n : A'.n = 41 := by rw [← hA']; exact A1
      have A'd : A'.df = [.mark (σ6.next + 2)] := by rw [← hA']; simp [A4]
      generalize σG.set (σ6.next + 2 + 1) (.loop { r29 A (σ6.next + 2) with state := .exhausted }) = σH at hl4
      simp only [fAt, cAt, Tryz.f29]
      simp [code_region, code_seq, code_ret, opsA, oneA, wantedA, opA, kindOf, readA, uponA, AFr.put, get_set, n_set, df_set, opd, A'n, A'd, gA, hl4]
    obtain ⟨aH, eH, dH, k2, k3⟩ := eH
    refine ⟨y, _, σ6.next + 4, call_mark hfn (show Tryz.f29.body = some (fAt Tryz.f29 []) from rfl) (by rw [hfr]; exact seq_n e1 (seq_n (seq_n e2 e3) (seq_n e4 (seq_n (seq_n e5 e6) (seq_n e7 (seq_n (seq_n e8 (block_n hr)) eH)))))) dH (by rw [get_sset, if_neg (by omega)]; exact hq.g2) (by simp [resultA, resultsA, Tryz.f29, k2, k3]), by omega, ?_, ?_⟩
    · simp only [if_true]
      exact hgr.keep (by rw [next_set, next_set]; exact Nat.le_refl _) fun o h _ => by rw [get_sset, if_neg (by omega), get_sset, if_neg (by omega)]
    · exact (hq.kp.trans (Keep.set (b := σ0.next) _ (by omega)) (Nat.le_refl _)).trans (Keep.set (b := σ0.next) _ (by omega)) (Nat.le_refl _)
end Go.Proofs.YtfmbpdacdopkgaaGreatDoor
