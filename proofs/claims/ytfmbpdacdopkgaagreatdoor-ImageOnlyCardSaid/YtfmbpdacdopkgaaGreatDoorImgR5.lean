/- The reference's Used. Conditions: none. -/
import Derived.Test.YtfmbpdacdopkgaaGreatDoorImgR3
namespace Go.Ai
/-- A loop with a break. -/
theorem loop_brk {K : Kont} {E : Env} {N : Nat} {c : Code} (id : Nat) (I : Nat → AFr → St → Prop) (X : AFr → St → Prop) (m : Nat)
    (hs : ∀ k a σ, k < m → I k a σ → (∃ a' σ', codeA K E N none c a σ = some (.normal, a', σ') ∧ I (k + 1) a' σ') ∨ (∃ a' σ', codeA K E N none c a σ = some (.exit id, a', σ') ∧ X a' σ'))
    (he : ∀ a σ, I m a σ → ∃ a' σ', codeA K E N none c a σ = some (.exit id, a', σ') ∧ X a' σ')
    (hN : m < N) {a : AFr} {σ : St} (h0 : I 0 a σ) : ∃ a' σ', codeA K E N none (.block id (.loop c)) a σ = some (.normal, a', σ') ∧ X a' σ' := by
  obtain ⟨e, a', σ', h, rfl, hx⟩ := iter_inv (f := codeA K E N none c) I (fun e a' σ' => e = .exit id ∧ X a' σ') m
    (fun k a σ hk hI => (hs k a σ hk hI).imp_right fun ⟨a', σ', h, hr⟩ => ⟨.exit id, a', σ', h, (fun u v e => by cases e), rfl, hr⟩)
    (fun a σ hI => by
      obtain ⟨a', σ', h, hx⟩ := he a σ hI
      exact ⟨.exit id, a', σ', h, (fun u v e => by cases e), rfl, hx⟩) hN h0
  exact ⟨a', σ', block_x (loop_of h), hx⟩
end Go.Ai
namespace Go.Proofs.YtfmbpdacdopkgaaGreatDoor
set_option maxRecDepth 100000
open Go Go.Ai
open Go.RowKit (Below)

def atP (ar s : Nat) (x : Lk) : Bool := x.a == (ar : Int) && x.s == (s : Int)
noncomputable def in30 : Code := fAt Tryz.f30 [1, 1, 0, 1, 0, 0, 1, 0, 0, 1, 0, 0, 1, 0, 0, 1, 0, 0]
noncomputable def mid30 : Code := fAt Tryz.f30 [1, 1, 0, 1, 0, 0, 1, 0, 0, 1, 0, 0]
noncomputable def out30 : Code := fAt Tryz.f30 [1, 1, 0, 1, 0, 0]

structure Mid30 (x : AV) (c : Nat) (σ0 : St) (ar s : Nat) (ps : List Put3) (a : AFr) (σ : St) : Prop where
  n : a.n = 40
  d : a.df = []
  g0 : a.get 0 = x
  g4 : a.get 4 = .i (ar : Int)
  g5 : a.get 5 = .i (s : Int)
  y : Grow c σ 3 (a.get 3) (pcs ps)
  kp : Keep c σ0 σ
structure In30 (l : List Lk) (x : AV) (c : Nat) (σ0 : St) (ar s : Nat) (ps : List Put3) (k : Nat) (a : AFr) (σ : St) : Prop where
  m : Mid30 x c σ0 ar s ps a σ
  g16 : a.get 16 = x
  g17 : a.get 17 = .i (l.length : Int)
  g18 : a.get 18 = .i (k : Int)
  no : (l.take k).any (atP ar s) = false

theorem in30_step {K : Kont} {L : SumL} {N c : Nat} {l : List Lk} {x : AV} {σ0 : St} (hc : c ≤ σ0.next) (hs : ∀ σ, Keep c σ0 σ → SlAt σ 6 x (lcs l)) (hl : l.length ≤ 400) {ar s : Nat} {ps : List Put3} (hps : ps.length ≤ 192) {k : Nat} (hk : k < l.length) {a : AFr} {σ : St} (h : In30 l x c σ0 ar s ps k a σ) :
    (∃ a' σ', codeA K (EL L) N none in30 a σ = some (.normal, a', σ') ∧ In30 l x c σ0 ar s ps (k + 1) a' σ') ∨ ∃ a' σ', codeA K (EL L) N none in30 a σ = some (.exit 4, a', σ') ∧ Mid30 x c σ0 ar s (ps ++ if l.any (atP ar s) then [((ar : Int), (s : Int), 0)] else []) a' σ' := by
  obtain ⟨⟨hn, hd, g0, g4, g5, hy, kp⟩, g16, g17, g18, no⟩ := h
  have hlt : (k : Int) < (l.length : Int) := by omega
  obtain ⟨p, hp, hr⟩ := (hs σ kp).at (E := EL L) (t := 34) (el := 74) Tryz.underlying34 (z74 L) (lcs_at hk) (k := .i64)
  have hld := load_agg (agg74 L) (z74 L) hr
  have hw := wrap_nat (n := k) (by omega)
  have hat : (l.take (k + 1)).any (atP ar s) = ((l.take k).any (atP ar s) || atP ar s l[k]) := by
    rw [List.take_succ_eq_append_getElem hk, List.any_append]; simp
  have hin : atP ar s l[k] = true → l.any (atP ar s) = true := fun h => List.any_eq_true.2 ⟨l[k], List.getElem_mem hk, h⟩
  generalize hz : l[k] = z at hld hat hin
  have kle := kp.le
  have hst := st74 (L := L) (σ := σ.add (.cells lz 0 0)) (o := σ.next) z (St.get_add_same _ _)
  generalize hτ : (σ.add (.cells lz 0 0)).set σ.next (.cells (lc z) 0 0) = τ at hst
  have gp : τ.get σ.next = some (.cells (lc z) 0 0) := by rw [← hτ, get_sset, if_pos rfl]
  have go : ∀ o, o < σ.next → τ.get o = σ.get o := fun o ho => by rw [← hτ, get_sset, if_neg (by omega), get_sadd, if_neg (by omega)]
  have nτ : τ.next = σ.next + 1 := by rw [← hτ]; rfl
  obtain ⟨r0, r1, r2, r3, r4, -⟩ := rdL gp
  have m3 : loadA (EL L) τ 3 (.ptr σ.next 3 0 1) = some (.i z.a) := load_one (agg3 L) r3
  have m4 : loadA (EL L) τ 3 (.ptr σ.next 4 0 1) = some (.i z.s) := load_one (agg3 L) r4
  have k3 := fa74 (L := L) (o := σ.next) (i := 0) (g := 0) (e := 6) (k := 3) (by omega) (by omega)
  have k4 := fa74 (L := L) (o := σ.next) (i := 0) (g := 0) (e := 6) (k := 4) (by omega) (by omega)
  simp only [Nat.zero_add] at k3 k4
  have hyτ : Grow c τ 3 (a.get 3) (pcs ps) := hy.keep (by omega) fun o _ h => go o h
  have kτ : Keep c σ0 τ := kp.trans (b := c) (c := c) ⟨by omega, fun o ho => go o (by omega)⟩ (Nat.le_refl _)
  generalize h3 : a.get 3 = y0 at hyτ
  cases hm : atP ar s z with
  | false =>
    left
    rw [no, hm] at hat
    by_cases ha : z.a = (ar : Int)
    · have hsl : (z.s == (s : Int)) = false := by unfold atP at hm; simp [ha] at hm; simpa using hm
      have ha2 : (z.a == (ar : Int)) = true := by simpa using ha
      simp only [in30, fAt, cAt, Tryz.f30]
      simp [code_skip, code_region, code_seq, code_cond, code_block, opsA, oneA, wantedA, opA, kindOf, readA, uponA, writeA, AFr.put, get_set, n_set, opd, cmp_lss, ar_add, eq_int, ex2, hn, g4, g5, g16, g17, g18, hlt, hp, hld, al74, hst, k3, k4, m3, m4, ha2, hsl, hw]
      exact ⟨⟨by simp [n_set, hn], by simp [df_set, hd], by simp [get_set, g0], by simp [get_set, g4], by simp [get_set, g5], by simpa [get_set, h3] using hyτ, kτ⟩, by simp [get_set, g16], by simp [get_set, g17], by simp [get_set], hat⟩
    · have ha' : (z.a == (ar : Int)) = false := by simpa using ha
      simp only [in30, fAt, cAt, Tryz.f30]
      simp [code_skip, code_region, code_seq, code_cond, code_block, opsA, oneA, wantedA, opA, kindOf, readA, uponA, writeA, AFr.put, get_set, n_set, opd, cmp_lss, ar_add, eq_int, ex2, hn, g4, g16, g17, g18, hlt, hp, hld, al74, hst, k3, m3, ha', hw]
      exact ⟨⟨by simp [n_set, hn], by simp [df_set, hd], by simp [get_set, g0], by simp [get_set, g4], by simp [get_set, g5], by simpa [get_set, h3] using hyτ, kτ⟩, by simp [get_set, g16], by simp [get_set, g17], by simp [get_set], hat⟩
  | true =>
    right
    have ha : (z.a == (ar : Int)) = true := by unfold atP at hm; simp at hm; simpa using hm.1
    have hsl : (z.s == (s : Int)) = true := by unfold atP at hm; simp at hm; simpa using hm.2
    rw [hin hm]
    obtain ⟨i79, zz, hi79, hz79, hsz, hzs, hbt⟩ := inf79 L
    have gτ1 : (τ.add (.cells [.i (ar : Int), .i (s : Int), .i 0] 0 0)).get τ.next = some (.cells [.i (ar : Int), .i (s : Int), .i 0] 0 0) := St.get_add_same _ _
    have gτ1o : ∀ o, o < τ.next → (τ.add (.cells [.i (ar : Int), .i (s : Int), .i 0] 0 0)).get o = τ.get o := fun o ho => by rw [get_sadd, if_neg (by omega)]
    obtain ⟨y, υ, hap, hgr, hkp⟩ := append_grow (E := EL L) (t := 55) (u := 55) (el := 79) (el' := 79) (y := [.i (ar : Int), .i (s : Int), .i 0]) Tryz.underlying55 Tryz.underlying55 hi79 hz79 hsz hzs hbt (by decide) (hyτ.keep (σ' := τ.add (.cells [.i (ar : Int), .i (s : Int), .i 0] 0 0)) (by rw [next_add]; omega) fun o _ h => gτ1o o h) (by rw [next_add]; omega) gτ1 rfl rfl (by rw [pcs_len]; omega)
    have hbd := build79' (L := L) (.i (ar : Int)) (.i (s : Int)) rfl rfl
    have hle := hkp.le
    rw [next_add] at hle
    have kυ : Keep c σ0 υ := kτ.trans (b := c) (c := c) ⟨by omega, fun o ho => (hkp.same o ho).trans (gτ1o o (by omega))⟩ (Nat.le_refl _)
    simp only [in30, fAt, cAt, Tryz.f30]
    simp [code_skip, code_region, code_seq, code_cond, code_block, code_exit, opsA, oneA, wantedA, opA, kindOf, readA, uponA, writeA, AFr.put, get_set, n_set, opd, cmp_lss, eq_int, ex2, hn, g4, g5, h3, g16, g17, g18, hlt, hp, hld, al74, hst, k3, k4, m3, m4, ha, hsl, hbd, bs79 (L := L) (t := 35) (x := .i (ar : Int)) (y := .i (s : Int)) (z := .i 0), hap]
    exact ⟨by simp [n_set, hn], by simp [df_set, hd], by simp [get_set, g0], by simp [get_set, g4], by simp [get_set, g5], by rw [pcs_append]; simp [get_set]; exact hgr, kυ⟩

theorem mid30_step {K : Kont} {L : SumL} {N c : Nat} (hN : 400 < N) {l : List Lk} {x : AV} {σ0 : St} (hc : c ≤ σ0.next) (hs : ∀ σ, Keep c σ0 σ → SlAt σ 6 x (lcs l)) (hl : l.length ≤ 400) {ar s : Nat} (hsl : s < 64) {ps : List Put3} (hps : ps.length ≤ 192) {a : AFr} {σ : St} (h : Mid30 x c σ0 ar s ps a σ) :
    ∃ a' σ', codeA K (EL L) N none mid30 a σ = some (.normal, a', σ') ∧ Mid30 x c σ0 ar (s + 1) (ps ++ if l.any (atP ar s) then [((ar : Int), (s : Int), 0)] else []) a' σ' := by
  obtain ⟨hn, hd, g0, g4, g5, hy, kp⟩ := h
  have hlt : (s : Int) < 64 := by omega
  obtain ⟨a1, e1, i1⟩ : ∃ a1, codeA K (EL L) N none (fAt Tryz.f30 [1, 1, 0, 1, 0, 0, 1, 0, 0, 1, 0, 0, 0]) a σ = some (.normal, a1, σ) ∧ Mid30 x c σ0 ar s ps a1 σ := by
    simp only [fAt, cAt, Tryz.f30]
    simp [code_skip, code_region, code_seq, code_cond, opsA, oneA, wantedA, opA, kindOf, readA, uponA, AFr.put, get_set, n_set, opd, cmp_lss, hn, g5, hlt]
    exact ⟨by simp [n_set, hn], by simp [df_set, hd], by simp [get_set, g0], by simp [get_set, g4], by simp [get_set, g5], by simpa [get_set] using hy, kp⟩
  have hlen := (hs σ kp).len (E := EL L) (t := 34) (el := 74) Tryz.underlying34
  rw [lcs_len] at hlen
  obtain ⟨a2, e2, i2⟩ : ∃ a2, codeA K (EL L) N none (fAt Tryz.f30 [1, 1, 0, 1, 0, 0, 1, 0, 0, 1, 0, 0, 1, 0, 0, 0]) a1 σ = some (.normal, a2, σ) ∧ In30 l x c σ0 ar s ps 0 a2 σ := by
    obtain ⟨hn, hd, g0, g4, g5, hy, kp⟩ := i1
    simp only [fAt, cAt, Tryz.f30]
    simp [code_region, opsA, oneA, wantedA, opA, kindOf, readA, uponA, AFr.put, get_set, n_set, opd, hn, g0, hlen]
    exact ⟨⟨by simp [n_set, hn], by simp [df_set, hd], by simp [get_set, g0], by simp [get_set, g4], by simp [get_set, g5], by simpa [get_set] using hy, kp⟩, by simp [get_set], by simp [get_set], by simp [get_set], rfl⟩
  obtain ⟨a3, σ3, e3, i3⟩ := loop_brk (K := K) (E := EL L) (N := N) (c := in30) 4 (In30 l x c σ0 ar s ps) (Mid30 x c σ0 ar s (ps ++ if l.any (atP ar s) then [((ar : Int), (s : Int), 0)] else [])) l.length
    (fun k a σ hk hI => in30_step hc hs hl hps hk hI)
    (fun a σ hI => by
      obtain ⟨⟨hn, hd, g0, g4, g5, hy, kp⟩, g16, g17, g18, no⟩ := hI
      rw [List.take_length] at no
      rw [no]
      simp only [in30, fAt, cAt, Tryz.f30]
      simp [code_region, code_seq, code_cond, code_exit, opsA, oneA, wantedA, opA, kindOf, readA, uponA, AFr.put, get_set, opd, cmp_lss, ex2, hn, g17, g18]
      exact ⟨by simp [n_set, hn], by simp [df_set, hd], by simp [get_set, g0], by simp [get_set, g4], by simp [get_set, g5], by simpa [get_set] using hy, kp⟩) (by omega) i2
  obtain ⟨hn, hd, g0, g4, g5, hy, kp⟩ := i3
  have hw := wrap_nat (n := s) (by omega)
  obtain ⟨a4, e4, i4⟩ : ∃ a4, codeA K (EL L) N none (fAt Tryz.f30 [1, 1, 0, 1, 0, 0, 1, 0, 0, 1, 0, 0, 1, 1]) a3 σ3 = some (.normal, a4, σ3) ∧ Mid30 x c σ0 ar (s + 1) (ps ++ if l.any (atP ar s) then [((ar : Int), (s : Int), 0)] else []) a4 σ3 := by
    simp only [fAt, cAt, Tryz.f30]
    simp [code_region, opsA, oneA, wantedA, opA, kindOf, readA, uponA, AFr.put, get_set, n_set, opd, ar_add, hn, g5, hw]
    exact ⟨by simp [n_set, hn], by simp [df_set, hd], by simp [get_set, g0], by simp [get_set, g4], by simp [get_set], by simpa [get_set] using hy, kp⟩
  exact ⟨a4, σ3, seq_n e1 (seq_n (block_n (seq_n e2 e3)) e4), i4⟩

/-- Has a place a link? -/
def linkAt (l : List Lk) (k : Nat) : Bool := l.any (atP (k / 64 + 1) (k % 64))
theorem linkAt_at (l : List Lk) {ar s : Nat} (h1 : 1 ≤ ar) (hs : s < 64) : linkAt l ((ar - 1) * 64 + s) = l.any (atP ar s) := by
  have e1 : ((ar - 1) * 64 + s) / 64 + 1 = ar := by omega
  have e2 : ((ar - 1) * 64 + s) % 64 = s := by omega
  simp only [linkAt, e1, e2]

structure Out30 (l : List Lk) (x : AV) (c : Nat) (σ0 : St) (ar : Nat) (a : AFr) (σ : St) : Prop where
  n : a.n = 40
  d : a.df = []
  g0 : a.get 0 = x
  g4 : a.get 4 = .i (ar : Int)
  y : Grow c σ 3 (a.get 3) (pcs (gath (linkAt l) ((ar - 1) * 64)))
  kp : Keep c σ0 σ

theorem out30_step {K : Kont} {L : SumL} {N c : Nat} (hN : 400 < N) {l : List Lk} {x : AV} {σ0 : St} (hc : c ≤ σ0.next) (hs : ∀ σ, Keep c σ0 σ → SlAt σ 6 x (lcs l)) (hl : l.length ≤ 400) {ar : Nat} (h1 : 1 ≤ ar) (h3 : ar ≤ 3) {a : AFr} {σ : St} (h : Out30 l x c σ0 ar a σ) :
    ∃ a' σ', codeA K (EL L) N none out30 a σ = some (.normal, a', σ') ∧ Out30 l x c σ0 (ar + 1) a' σ' := by
  obtain ⟨hn, hd, g0, g4, hy, kp⟩ := h
  have hle : (ar : Int) ≤ 3 := by omega
  obtain ⟨a1, e1, i1⟩ : ∃ a1, codeA K (EL L) N none (fAt Tryz.f30 [1, 1, 0, 1, 0, 0, 0]) a σ = some (.normal, a1, σ) ∧ Out30 l x c σ0 ar a1 σ := by
    simp only [fAt, cAt, Tryz.f30]
    simp [code_skip, code_region, code_seq, code_cond, opsA, oneA, wantedA, opA, kindOf, readA, uponA, AFr.put, get_set, n_set, opd, cmp_leq, hn, g4, hle]
    exact ⟨by simp [n_set, hn], by simp [df_set, hd], by simp [get_set, g0], by simp [get_set, g4], by simpa [get_set] using hy, kp⟩
  obtain ⟨a2, e2, i2⟩ : ∃ a2, codeA K (EL L) N none (fAt Tryz.f30 [1, 1, 0, 1, 0, 0, 1, 0, 0, 0]) a1 σ = some (.normal, a2, σ) ∧ Mid30 x c σ0 ar 0 (gath (linkAt l) ((ar - 1) * 64 + 0)) a2 σ := by
    have hn := i1.n
    simp only [fAt, cAt, Tryz.f30]
    simp [code_region, opsA, oneA, wantedA, opA, kindOf, readA, uponA, AFr.put, opd, hn]
    exact ⟨by simp [n_set, hn], by simp [df_set, i1.d], by simp [get_set, i1.g0], by simp [get_set, i1.g4], by simp [get_set], by simpa [get_set] using i1.y, kp⟩
  obtain ⟨a3, σ3, e3, i3⟩ := loop_all (K := K) (E := EL L) (N := N) (c := mid30) 2 (fun s => Mid30 x c σ0 ar s (gath (linkAt l) ((ar - 1) * 64 + s))) (Mid30 x c σ0 ar 64 (gath (linkAt l) ((ar - 1) * 64 + 64))) 64
    (fun s a σ hk hI => by
      have hg := gath_len (linkAt l) ((ar - 1) * 64 + s)
      obtain ⟨a', σ', h, hM⟩ := mid30_step (K := K) (L := L) (N := N) hN hc hs hl hk (by omega) hI
      refine ⟨a', σ', h, ?_⟩
      rw [← Nat.add_assoc, gath_at _ h1 hk, linkAt_at l h1 hk]
      exact hM)
    (fun a σ hI => by
      obtain ⟨hn, hd, g0, g4, g5, hy, kp⟩ := hI
      simp only [mid30, fAt, cAt, Tryz.f30]
      simp [code_region, code_seq, code_cond, code_exit, opsA, oneA, wantedA, opA, kindOf, readA, uponA, AFr.put, get_set, n_set, opd, cmp_lss, ex2, hn, g5]
      exact ⟨by simp [n_set, hn], by simp [df_set, hd], by simp [get_set, g0], by simp [get_set, g4], by simp [get_set, g5], by simpa [get_set] using hy, kp⟩) (by omega) i2
  obtain ⟨hn, hd, g0, g4, g5, hy, kp⟩ := i3
  have hw := wrap_nat (n := ar) (by omega)
  obtain ⟨a4, e4, i4⟩ : ∃ a4, codeA K (EL L) N none (fAt Tryz.f30 [1, 1, 0, 1, 0, 0, 1, 1]) a3 σ3 = some (.normal, a4, σ3) ∧ Out30 l x c σ0 (ar + 1) a4 σ3 := by
    simp only [fAt, cAt, Tryz.f30]
    simp [code_region, opsA, oneA, wantedA, opA, kindOf, readA, uponA, AFr.put, get_set, n_set, opd, ar_add, hn, g4, hw]
    refine ⟨by simp [n_set, hn], by simp [df_set, hd], by simp [get_set, g0], by simp [get_set], ?_, kp⟩
    rw [show (ar + 1 - 1) * 64 = (ar - 1) * 64 + 64 by omega]
    simpa [get_set] using hy
  exact ⟨a4, σ3, seq_n e1 (seq_n (block_n (seq_n e2 e3)) e4), i4⟩

/-- The reference's Used. -/
theorem call30 {n : Nat} {L : SumL} {N : Nat} (hN : 400 < N) {l : List Lk} {x : AV} {σ0 : St} (hl : l.length ≤ 400) (hs : ∀ σ, Keep σ0.next σ0 σ → SlAt σ 6 x (lcs l)) :
    ∃ y σ', (evalK (EL L) N (n + 1)).call 30 [x] σ0 = some (.ret y, σ') ∧ Grow σ0.next σ' 3 y (pcs (gath (linkAt l) 192)) ∧ Keep σ0.next σ0 σ' := by
  have hfn : (EL L).fn 30 = some Tryz.f30 := fnL Tryz.func30 rfl
  have hn : (frame0 Tryz.f30 [x]).n = 40 := rfl
  have g0 : (frame0 Tryz.f30 [x]).get 0 = x := rfl
  have hd : (frame0 Tryz.f30 [x]).df = [] := rfl
  generalize hfr : frame0 Tryz.f30 [x] = a at hn g0 hd
  have e1 : codeA (evalK (EL L) N n) (EL L) N none (fAt Tryz.f30 [0]) a σ0 = some (.normal, a.set 2 (.v (.slice none 0 0)), σ0) := by
    simp only [fAt, cAt, Tryz.f30]
    simp [code_region, opsA, oneA, wantedA, opA, kindOf, readA, uponA, AFr.put, opd, hn]
  have e2 : codeA (evalK (EL L) N n) (EL L) N none (fAt Tryz.f30 [1, 0]) (a.set 2 (.v (.slice none 0 0))) σ0 = some (.normal, (a.set 2 (.v (.slice none 0 0))).set 3 (.v (.slice none 0 0)), σ0) := by
    simp only [fAt, cAt, Tryz.f30]
    simp [code_region, opsA, oneA, wantedA, opA, kindOf, readA, uponA, AFr.put, n_set, opd, hn]
  obtain ⟨a3, e3, i3⟩ : ∃ a3, codeA (evalK (EL L) N n) (EL L) N none (fAt Tryz.f30 [1, 1, 0, 0]) ((a.set 2 (.v (.slice none 0 0))).set 3 (.v (.slice none 0 0))) σ0 = some (.normal, a3, σ0) ∧ Out30 l x σ0.next σ0 1 a3 σ0 := by
    simp only [fAt, cAt, Tryz.f30]
    simp [code_region, opsA, oneA, wantedA, opA, kindOf, readA, uponA, AFr.put, n_set, opd, hn]
    exact ⟨by simp [n_set, hn], by simp [df_set, hd], by simp [get_set, g0], by simp [get_set], by simp [get_set, gath]; exact Grow.nil _ _ _, Keep.refl _ _⟩
  obtain ⟨a4, σ4, e4, i4⟩ := loop_all (K := evalK (EL L) N n) (E := EL L) (N := N) (c := out30) 0 (fun k => Out30 l x σ0.next σ0 (k + 1)) (Out30 l x σ0.next σ0 4) 3
    (fun k a σ hk hI => out30_step hN (Nat.le_refl _) hs hl (by omega) (by omega) hI)
    (fun a σ hI => by
      obtain ⟨hn, hd, g0, g4, hy, kp⟩ := hI
      simp only [out30, fAt, cAt, Tryz.f30]
      simp [code_region, code_seq, code_cond, code_exit, opsA, oneA, wantedA, opA, kindOf, readA, uponA, AFr.put, get_set, n_set, opd, cmp_leq, ex2, hn, g4]
      exact ⟨by simp [n_set, hn], by simp [df_set, hd], by simp [get_set, g0], by simp [get_set, g4], by simpa [get_set] using hy, kp⟩) (by omega) i3
  have n4 := i4.n
  obtain ⟨a5, e5, d5, k2⟩ : ∃ a5, codeA (evalK (EL L) N n) (EL L) N none (fAt Tryz.f30 [1, 1, 1]) a4 σ4 = some (.ret, a5, σ4) ∧ a5.df = [] ∧ a5.get 2 = a4.get 3 := by
    simp only [fAt, cAt, Tryz.f30]
    simp [code_region, code_seq, code_ret, opsA, oneA, wantedA, opA, kindOf, readA, uponA, AFr.put, get_set, n_set, df_set, opd, n4, i4.d]
  exact ⟨a4.get 3, σ4, call_ret hfn (show Tryz.f30.body = some (fAt Tryz.f30 []) from rfl) (by rw [hfr]; exact seq_n e1 (seq_n e2 (seq_n (seq_n e3 e4) e5))) d5 (by simp [resultA, resultsA, Tryz.f30, k2]), i4.y, i4.kp⟩
end Go.Proofs.YtfmbpdacdopkgaaGreatDoor

namespace Go.Proofs.YtfmbpdacdopkgaaGreatDoor
set_option maxRecDepth 100000
open Go Go.Ai
open Go.RowKit (Below)

theorem box37 {L : SumL} (t : Tmp) (cs : List Int) (hl : cs.length = 192) (b : AFr) (o : Oper) (ho : o.op = .box 37 (.tmp t)) (hb : b.get t = .agg (ints cs)) : allocA (EL L) b o = some (.cells (ints cs) 0 0, fun n => .ptr n 0 0 192) := by
  simp [allocA, ho, opd, hb, AV.cells?, ints_len, hl]

def getS (cs : List Int) (a n : Int) : AV := if cs.all isV then (if isP a n then .tup [.i (cs.getD ((a.toNat - 1) * 64 + n.toNat) 0), .i 0] else .tup [.i 0, .i 6]) else .tup [.i 0, .i 2]

theorem call27 {n : Nat} {L : SumL} (h28 : sumOf L 28 = some S28) (h36 : sumOf L 36 = some S36) (h44 : sumOf L 44 = none) {N : Nat} {cs : List Int} (hc : cs.length = 192) (x y : Int) :
    ∃ σ', (evalK (EL L) N (n + 2)).call 27 [.agg (ints cs), .i x, .i y] start = some (.ret (getS cs x y), σ') := by
  have hfn : (EL L).fn 27 = some Tryz.f27 := fnL Tryz.func27 rfl
  have hn : (frame0 Tryz.f27 [.agg (ints cs), .i x, .i y]).n = 24 := rfl
  have g0 : (frame0 Tryz.f27 [.agg (ints cs), .i x, .i y]).get 0 = .agg (ints cs) := rfl
  have g1 : (frame0 Tryz.f27 [.agg (ints cs), .i x, .i y]).get 1 = .i x := rfl
  have g2 : (frame0 Tryz.f27 [.agg (ints cs), .i x, .i y]).get 2 = .i y := rfl
  have hd : (frame0 Tryz.f27 [.agg (ints cs), .i x, .i y]).df = [] := rfl
  generalize hfr : frame0 Tryz.f27 [.agg (ints cs), .i x, .i y] = a at hn g0 g1 g2 hd
  have hst : start.next = 0 := rfl
  have hbx := box37 (L := L) 0 cs hc
  have hg : (start.add (.cells (ints cs) 0 0)).get 0 = some (.cells (ints cs) 0 0) := St.get_add_same start _
  have hx : (start.add (.cells (ints cs) 0 0)).next = 1 := rfl
  obtain ⟨a1, e1, n1, d1, k1, k2, k3⟩ : ∃ a1, codeA (evalK (EL L) N (n + 1)) (EL L) N none (fAt Tryz.f27 [0]) a start = some (.normal, a1, start.add (.cells (ints cs) 0 0)) ∧ a1.n = 24 ∧ a1.df = [] ∧ a1.get 1 = .i x ∧ a1.get 2 = .i y ∧ a1.get 3 = .ptr 0 0 0 192 := by
    simp only [fAt, cAt, Tryz.f27]
    simp [code_region, opsA, oneA, wantedA, opA, kindOf, readA, uponA, AFr.put, get_set, n_set, df_set, opd, hn, hd, g0, g1, g2, hbx]
  generalize start.add (.cells (ints cs) 0 0) = σ at hg hx e1
  have hs28 := S28_eq hc
  have hl := ld37 (L := L) hg hc
  cases hv : cs.all isV with
  | false =>
    rw [hv] at hs28
    obtain ⟨a2, e2, d2, r6, r7⟩ : ∃ a2, codeA (evalK (EL L) N (n + 1)) (EL L) N none (fAt Tryz.f27 [1, 0]) a1 σ = some (.ret, a2, σ) ∧ a2.df = [] ∧ a2.get 6 = .i 0 ∧ a2.get 7 = .i 2 := by
      simp only [fAt, cAt, Tryz.f27]
      simp [code_region, code_seq, code_cond, code_ret, opsA, oneA, wantedA, opA, kindOf, readA, uponA, writeA, AFr.put, get_set, n_set, df_set, opd, callee?, callA, ne_int, n1, d1, k3, hl, sum_eq, h28, hs28]
    exact ⟨σ, call_ret hfn (show Tryz.f27.body = some (fAt Tryz.f27 []) from rfl) (by rw [hfr]; exact seq_n e1 (seq_ret e2)) d2 (by simp [resultA, resultsA, Tryz.f27, r6, r7, getS, hv])⟩
  | true =>
    rw [hv] at hs28
    obtain ⟨a2, e2, n2, d2, p1, p2, p3⟩ : ∃ a2, codeA (evalK (EL L) N (n + 1)) (EL L) N none (fAt Tryz.f27 [1, 0]) a1 σ = some (.normal, a2, σ) ∧ a2.n = 24 ∧ a2.df = [] ∧ a2.get 1 = .i x ∧ a2.get 2 = .i y ∧ a2.get 3 = .ptr 0 0 0 192 := by
      simp only [fAt, cAt, Tryz.f27]
      simp [code_skip, code_region, code_seq, code_cond, opsA, oneA, wantedA, opA, kindOf, readA, uponA, writeA, AFr.put, get_set, n_set, df_set, opd, callee?, callA, ne_int, n1, d1, k1, k2, k3, hl, sum_eq, h28, hs28]
    cases hp : isP x y with
    | false =>
      obtain ⟨a3, e3, d3, r6, r7⟩ : ∃ a3, codeA (evalK (EL L) N (n + 1)) (EL L) N none (fAt Tryz.f27 [1, 1, 0]) a2 σ = some (.ret, a3, σ) ∧ a3.df = [] ∧ a3.get 6 = .i 0 ∧ a3.get 7 = .i 6 := by
        simp only [fAt, cAt, Tryz.f27]
        simp [code_region, code_seq, code_cond, code_ret, opsA, oneA, wantedA, opA, kindOf, readA, uponA, writeA, AFr.put, get_set, n_set, df_set, opd, callee?, callA, un_not, n2, d2, p1, p2, sum_eq, h36, S36, hp]
      exact ⟨σ, call_ret hfn (show Tryz.f27.body = some (fAt Tryz.f27 []) from rfl) (by rw [hfr]; exact seq_n e1 (seq_n e2 (seq_ret e3))) d3 (by simp [resultA, resultsA, Tryz.f27, r6, r7, getS, hv, hp])⟩
    | true =>
      have hP := isP_true hp
      obtain ⟨a3, e3, n3, d3, q1, q2, q3⟩ : ∃ a3, codeA (evalK (EL L) N (n + 1)) (EL L) N none (fAt Tryz.f27 [1, 1, 0]) a2 σ = some (.normal, a3, σ) ∧ a3.n = 24 ∧ a3.df = [] ∧ a3.get 1 = .i x ∧ a3.get 2 = .i y ∧ a3.get 3 = .ptr 0 0 0 192 := by
        simp only [fAt, cAt, Tryz.f27]
        simp [code_skip, code_region, code_seq, code_cond, opsA, oneA, wantedA, opA, kindOf, readA, uponA, writeA, AFr.put, get_set, n_set, df_set, opd, callee?, callA, un_not, n2, d2, p1, p2, p3, sum_eq, h36, S36, hp]
      have hs := st96 (L := L) (σ := σ.add (.cells (ints zimg) 0 0)) (o := 1) (cs := cs) (by rw [get_sadd, if_pos hx]) rep_len hc
      have hg2 : ((σ.add (.cells (ints zimg) 0 0)).set 1 (.cells (ints cs) 0 0)).get 1 = some (.cells (ints cs) 0 0) := by rw [get_sset, if_pos rfl]
      obtain ⟨a4, e4, n4, d4, r1, r2, r8⟩ : ∃ a4, codeA (evalK (EL L) N (n + 1)) (EL L) N none (fAt Tryz.f27 [1, 1, 1, 0]) a3 σ = some (.normal, a4, (σ.add (.cells (ints zimg) 0 0)).set 1 (.cells (ints cs) 0 0)) ∧ a4.n = 24 ∧ a4.df = [] ∧ a4.get 1 = .i x ∧ a4.get 2 = .i y ∧ a4.get 8 = .ptr 1 0 0 192 := by
        simp only [fAt, cAt, Tryz.f27]
        simp [code_region, opsA, oneA, wantedA, opA, kindOf, readA, uponA, writeA, AFr.put, get_set, n_set, df_set, opd, n3, d3, q1, q2, q3, hl, bd96 hc, al96, hx, hs]
      generalize (σ.add (.cells (ints zimg) 0 0)).set 1 (.cells (ints cs) 0 0) = τ at hg2 e4
      have e1' : x = (x.toNat : Int) := by omega
      have e2' : y = (y.toNat : Int) := by omega
      have hl2 : loadA (EL L) τ 3 (.ptr 1 ((x.toNat - 1) * 64 + y.toNat) 0 1) = some (.i (cs.getD ((x.toNat - 1) * 64 + y.toNat) 0)) := load_one (agg3 L) (rd_ints hg2 (by omega))
      have hgs : getS cs x y = .tup [.i (cs.getD ((x.toNat - 1) * 64 + y.toNat) 0), .i 0] := by simp [getS, hv, hp]
      rw [hgs]
      generalize cs.getD ((x.toNat - 1) * 64 + y.toNat) 0 = w at hl2
      rw [e1'] at r1
      rw [e2'] at r2
      have hc44 : (evalK (EL L) N (n + 1)).call 44 [.ptr 1 0 0 192, .i (x.toNat : Int)] τ = some (.ret (.ptr 1 ((x.toNat - 1) * 64) 0 64), τ) := area44 (by omega) (by omega)
      have hi := ix35 (L := L) (o := 1) (b := (x.toNat - 1) * 64) (g := 0) (s := y.toNat) (by omega)
      generalize x.toNat = ar at r1 hc44 hi hl2
      generalize y.toNat = s at r2 hi hl2
      obtain ⟨a5, e5, d5, r6, r7⟩ : ∃ a5, codeA (evalK (EL L) N (n + 1)) (EL L) N none (fAt Tryz.f27 [1, 1, 1, 1]) a4 τ = some (.ret, a5, τ) ∧ a5.df = [] ∧ a5.get 6 = .i w ∧ a5.get 7 = .i 0 := by
        simp only [fAt, cAt, Tryz.f27]
        simp [code_region, code_seq, code_ret, opsA, oneA, wantedA, opA, kindOf, readA, uponA, writeA, AFr.put, get_set, n_set, df_set, opd, callee?, callA, n4, d4, r1, r2, r8, sum_eq, h44, fn44, hc44, hi, hl2]
      exact ⟨τ, call_ret hfn (show Tryz.f27.body = some (fAt Tryz.f27 []) from rfl) (by rw [hfr]; exact seq_n e1 (seq_n e2 (seq_n e3 (seq_n e4 e5)))) d5 (by simp [resultA, resultsA, Tryz.f27, r6, r7])⟩

def S27 : List AV → Option AV
  | [.agg cs, .v (.int .i64 a), .v (.int .i64 n)] => match ints? cs with
    | some l => if l.length = 192 then some (getS l a n) else none
    | none => none
  | _ => none
theorem S27_eq {cs : List Int} (h : cs.length = 192) (x y : Int) : S27 [.agg (ints cs), .i x, .i y] = some (getS cs x y) := by simp [S27, ints?_ints, h]
theorem getS_exact (cs : List Int) (x y : Int) : ∃ z, exactT? (getS cs x y) = some z := by
  unfold getS
  split
  · split <;> exact ⟨_, rfl⟩
  · exact ⟨_, rfl⟩
theorem sum27 (W : World) : SumOk W 27 S27 := by
  refine sum_eval (L := L2) L2_ok (fun args x hx => ?_) W
  match args, hx with
  | [.agg cs, .v (.int .i64 a), .v (.int .i64 n)], hx =>
    simp only [S27] at hx
    split at hx
    · rename_i l hl
      obtain rfl := ints?_some hl
      split at hx
      · rename_i hlen
        cases hx
        obtain ⟨σ', h⟩ := call27 (L := L2) (n := 0) (N := 10) rfl rfl rfl hlen a n
        obtain ⟨z, hz⟩ := getS_exact l a n
        exact ⟨[.agg (l.map (Value.int .i64)).toArray, .int .i64 a, .int .i64 n], z, by simp [AV.exacts?, AV.exact?, ints_exact], hz, 10, 2, σ', h⟩
      · cases hx
    · cases hx

/- The reference's put. -/
theorem call47 {n : Nat} {L : SumL} {N : Nat} {cs : List Int} (hc : cs.length = 192) {ar s : Nat} (h1 : 1 ≤ ar) (h3 : ar ≤ 3) (hs : s < 64) (v : Int) :
    ∃ σ', (evalK (EL L) N (n + 1)).call 47 [.agg (ints cs), .i (ar : Int), .i (s : Int), .i v] start = some (.ret (.agg (ints (cs.set ((ar - 1) * 64 + s) v))), σ') := by
  have hfn : (EL L).fn 47 = some Tryz.f47 := fnL Tryz.func47 rfl
  have hn : (frame0 Tryz.f47 [.agg (ints cs), .i (ar : Int), .i (s : Int), .i v]).n = 27 := rfl
  have g0 : (frame0 Tryz.f47 [.agg (ints cs), .i (ar : Int), .i (s : Int), .i v]).get 0 = .agg (ints cs) := rfl
  have g1 : (frame0 Tryz.f47 [.agg (ints cs), .i (ar : Int), .i (s : Int), .i v]).get 1 = .i (ar : Int) := rfl
  have g2 : (frame0 Tryz.f47 [.agg (ints cs), .i (ar : Int), .i (s : Int), .i v]).get 2 = .i (s : Int) := rfl
  have g3 : (frame0 Tryz.f47 [.agg (ints cs), .i (ar : Int), .i (s : Int), .i v]).get 3 = .i v := rfl
  have hd : (frame0 Tryz.f47 [.agg (ints cs), .i (ar : Int), .i (s : Int), .i v]).df = [] := rfl
  generalize hfr : frame0 Tryz.f47 [.agg (ints cs), .i (ar : Int), .i (s : Int), .i v] = a at hn g0 g1 g2 g3 hd
  have hst : start.next = 0 := rfl
  have hbx := box37 (L := L) 0 cs hc
  have hg0 : ((start.add (.cells (ints cs) 0 0)).add (.cells (ints zimg) 0 0)).get 0 = some (.cells (ints cs) 0 0) := by
    rw [get_sadd, if_neg (by rw [next_add, hst]; omega), get_sadd, if_pos hst]
  have hg1 : ((start.add (.cells (ints cs) 0 0)).add (.cells (ints zimg) 0 0)).get 1 = some (.cells (ints zimg) 0 0) := by
    rw [get_sadd, if_pos (by rw [next_add, hst])]
  obtain ⟨a1, e1, n1, d1, k1, k2, k3, k4, k8⟩ : ∃ a1, codeA (evalK (EL L) N n) (EL L) N none (fAt Tryz.f47 [0]) a start = some (.normal, a1, (start.add (.cells (ints cs) 0 0)).add (.cells (ints zimg) 0 0)) ∧ a1.n = 27 ∧ a1.df = [] ∧ a1.get 1 = .i (ar : Int) ∧ a1.get 2 = .i (s : Int) ∧ a1.get 3 = .i v ∧ a1.get 4 = .ptr 0 0 0 192 ∧ a1.get 8 = .ptr 1 0 0 192 := by
    simp only [fAt, cAt, Tryz.f47]
    simp [code_region, opsA, oneA, wantedA, opA, kindOf, uponA, AFr.put, get_set, n_set, df_set, hn, hd, g0, g1, g2, g3, hbx, al37, next_add]
  generalize (start.add (.cells (ints cs) 0 0)).add (.cells (ints zimg) 0 0) = σ at hg0 hg1 e1
  have hf := fa37 (L := L) (o := 0) (g := 0) h1 h3
  have hi := ix35 (L := L) (o := 0) (b := (ar - 1) * 64) (g := 0) hs
  have hst3 := st3 (L := L) (v := v) hg0 (j := (ar - 1) * 64 + s) (by omega)
  have hlen : (cs.set ((ar - 1) * 64 + s) v).length = 192 := by simp [hc]
  generalize hcs' : cs.set ((ar - 1) * 64 + s) v = cs' at hst3 hlen
  obtain ⟨a2, e2, n2, d2, p4, p8⟩ : ∃ a2, codeA (evalK (EL L) N n) (EL L) N none (fAt Tryz.f47 [1, 0]) a1 σ = some (.normal, a2, σ.set 0 (.cells (ints cs') 0 0)) ∧ a2.n = 27 ∧ a2.df = [] ∧ a2.get 4 = .ptr 0 0 0 192 ∧ a2.get 8 = .ptr 1 0 0 192 := by
    have h : ar = 1 ∨ ar = 2 ∨ ar = 3 := by omega
    simp only [fAt, cAt, Tryz.f47]
    rcases h with rfl | rfl | rfl <;>
    simp only [Nat.reduceSub, Nat.reduceMul, Nat.zero_mul, Nat.sub_self, Nat.zero_add] at hf hi hst3 <;>
    simp [code_region, code_seq, code_cond, code_block, opsA, oneA, wantedA, opA, kindOf, readA, uponA, writeA, AFr.put, get_set, n_set, df_set, opd, eq_int, n1, d1, k1, k2, k3, k4, k8, hf, hi, hst3]
  have hl := ld37 (L := L) (σ := σ.set 0 (.cells (ints cs') 0 0)) (o := 0) (by rw [get_sset, if_pos rfl]) hlen
  have hs8 := st37 (L := L) (σ := σ.set 0 (.cells (ints cs') 0 0)) (o := 1) (cs := cs') (by rw [get_sset, if_neg (by decide)]; exact hg1) rep_len hlen
  obtain ⟨a3, e3, d3, q8⟩ : ∃ a3, codeA (evalK (EL L) N n) (EL L) N none (fAt Tryz.f47 [1, 1]) a2 (σ.set 0 (.cells (ints cs') 0 0)) = some (.ret, a3, (σ.set 0 (.cells (ints cs') 0 0)).set 1 (.cells (ints cs') 0 0)) ∧ a3.df = [] ∧ a3.get 8 = .ptr 1 0 0 192 := by
    simp only [fAt, cAt, Tryz.f47]
    simp [code_region, code_seq, code_ret, opsA, oneA, wantedA, opA, kindOf, readA, uponA, writeA, AFr.put, get_set, df_set, opd, n2, d2, p4, p8, hl, hs8]
  have hl' := ld37 (L := L) (σ := (σ.set 0 (.cells (ints cs') 0 0)).set 1 (.cells (ints cs') 0 0)) (o := 1) (by rw [get_sset, if_pos rfl]) hlen
  exact ⟨_, call_ret hfn (show Tryz.f47.body = some (fAt Tryz.f47 []) from rfl) (by rw [hfr]; exact seq_n e1 (seq_n e2 e3)) d3 (by simp [resultA, resultsA, Tryz.f47, q8, hl'])⟩

def S47 : List AV → Option AV
  | [.agg cs, .v (.int .i64 a), .v (.int .i64 n), .v (.int .i64 v)] => match ints? cs with
    | some l => if l.length = 192 ∧ isP a n = true then some (.agg (ints (setP l (a, n, v)))) else none
    | none => none
  | _ => none
theorem S47_eq {cs : List Int} (h : cs.length = 192) {x y : Int} (v : Int) (hp : isP x y = true) : S47 [.agg (ints cs), .i x, .i y, .i v] = some (.agg (ints (setP cs (x, y, v)))) := by simp [S47, ints?_ints, h, hp]
theorem sum47 (W : World) : SumOk W 47 S47 := by
  refine sum_eval (L := L1) L1_ok (fun args x hx => ?_) W
  match args, hx with
  | [.agg cs, .v (.int .i64 a), .v (.int .i64 n), .v (.int .i64 v)], hx =>
    simp only [S47] at hx
    split at hx
    · rename_i l hl
      obtain rfl := ints?_some hl
      split at hx
      · rename_i hlen
        obtain ⟨hlen, hp⟩ := hlen
        have hp := isP_true hp
        cases hx
        obtain ⟨σ', h⟩ := call47 (L := L1) (n := 0) (N := 10) hlen (ar := a.toNat) (s := n.toNat) (by omega) (by omega) (by omega) v
        rw [show ((a.toNat : Nat) : Int) = a by omega, show ((n.toNat : Nat) : Int) = n by omega] at h
        exact ⟨[.agg (l.map (Value.int .i64)).toArray, .int .i64 a, .int .i64 n, .int .i64 v], .agg ((setP l (a, n, v)).map (Value.int .i64)).toArray, by simp [AV.exacts?, AV.exact?, ints_exact], by simp [exactT?, AV.exact?, ints_exact], 10, 1, σ', h⟩
      · cases hx
    · cases hx

/-- The fourth layer. -/
def L4 : SumL := (27, S27) :: (47, S47) :: L3
theorem L4_ok : ∀ w, AllOk w L4 := cons_ok (cons_ok L3_ok sum47 Tryz.func47 rfl) sum27 Tryz.func27 rfl
end Go.Proofs.YtfmbpdacdopkgaaGreatDoor

namespace Go.Proofs.YtfmbpdacdopkgaaGreatDoor
set_option maxRecDepth 100000
open Go Go.Ai
open Go.RowKit (Below)

noncomputable def in32 : Code := fAt Tryz.f32 [1, 0, 1, 0, 0]
structure In32 (l : List Put3) (x : AV) (b : Nat) (σ0 : St) (k : Nat) (a : AFr) (σ : St) : Prop where
  n : a.n = 24
  d : a.df = []
  g5 : a.get 5 = x
  g6 : a.get 6 = .i (l.length : Int)
  g7 : a.get 7 = .i (k : Int)
  ok : ∀ j (h : j < l.length), j < k → okP3 l[j] = true
  kp : Keep b σ0 σ

theorem rdP {σ : St} {o : Nat} {x y z : AV} (h : σ.get o = some (.cells [x, y, z] 0 0)) : rdCells σ (.ptr o 0 0 1) 1 = some [x] ∧ rdCells σ (.ptr o 1 0 1) 1 = some [y] ∧ rdCells σ (.ptr o 2 0 1) 1 = some [z] := by
  simp [rdCells, h]

theorem in32_step {K : Kont} {L : SumL} (h11 : sumOf L 11 = some S36) (h54 : sumOf L 54 = some SV) {N b : Nat} {l : List Put3} {x : AV} {σ0 : St} (hb : b ≤ σ0.next) (hs : ∀ σ, Keep b σ0 σ → SlAt σ 3 x (pcs l)) (hl : l.length < 4611686018427387904) {k : Nat} (hk : k < l.length) {a : AFr} {σ : St} (h : In32 l x b σ0 k a σ) :
    (∃ a' σ', codeA K (EL L) N none in32 a σ = some (.normal, a', σ') ∧ In32 l x b σ0 (k + 1) a' σ') ∨ ∃ a' σ', codeA K (EL L) N none in32 a σ = some (.ret, a', σ') ∧ Keep b σ0 σ' ∧ a'.df = [] ∧ a'.get 2 = .b false ∧ l.all okP3 = false := by
  obtain ⟨hn, hd, g5, g6, g7, ok, kp⟩ := h
  have hlt : (k : Int) < (l.length : Int) := by omega
  obtain ⟨p, hp, hr⟩ := (hs σ kp).at (E := EL L) (t := 55) (el := 79) Tryz.underlying55 (z79 L) (pcs_at hk) (k := .i64)
  have hld := load_agg (agg79 L) (z79 L) hr
  have hw := wrap_nat (n := k) (by omega)
  have kle := kp.le
  have hst := st79 (L := L) (σ := σ.add (.cells [.i 0, .i 0, .i 0] 0 0)) (o := σ.next) (x := .i l[k].1) (y := .i l[k].2.1) (z := .i l[k].2.2) (St.get_add_same _ _) rfl rfl rfl
  generalize hτ : (σ.add (.cells [.i 0, .i 0, .i 0] 0 0)).set σ.next (.cells [.i l[k].1, .i l[k].2.1, .i l[k].2.2] 0 0) = τ at hst
  have gp : τ.get σ.next = some (.cells [.i l[k].1, .i l[k].2.1, .i l[k].2.2] 0 0) := by rw [← hτ, get_sset, if_pos rfl]
  have kτ : Keep b σ0 τ := by
    rw [← hτ]
    exact (kp.trans (Keep.add (b := b) _ (by omega)) (Nat.le_refl _)).trans (Keep.set (b := b) _ (by omega)) (Nat.le_refl _)
  obtain ⟨r0, r1, r2⟩ := rdP gp
  have l0 : loadA (EL L) τ 3 (.ptr σ.next 0 0 1) = some (.i l[k].1) := load_one (agg3 L) r0
  have l1 : loadA (EL L) τ 3 (.ptr σ.next 1 0 1) = some (.i l[k].2.1) := load_one (agg3 L) r1
  have l2 : loadA (EL L) τ 3 (.ptr σ.next 2 0 1) = some (.i l[k].2.2) := load_one (agg3 L) r2
  have k0 := fa79 (L := L) (o := σ.next) (i := 0) (g := 0) (e := 3) (k := 0) (by omega) (by omega)
  have k1 := fa79 (L := L) (o := σ.next) (i := 0) (g := 0) (e := 3) (k := 1) (by omega) (by omega)
  have k2 := fa79 (L := L) (o := σ.next) (i := 0) (g := 0) (e := 3) (k := 2) (by omega) (by omega)
  simp only [Nat.zero_add] at k0 k1 k2
  cases hv : okP3 l[k] with
  | true =>
    left
    have hok := ok_step hk ok hv
    have h1 : isP l[k].1 l[k].2.1 = true := by unfold okP3 okP at hv; simp at hv; exact hv.1
    have h2 : isV l[k].2.2 = true := by unfold okP3 okP at hv; simp at hv; exact hv.2
    simp only [in32, fAt, cAt, Tryz.f32]
    simp [code_skip, code_region, code_seq, code_cond, code_block, opsA, oneA, wantedA, opA, kindOf, readA, uponA, writeA, AFr.put, get_set, n_set, opd, callee?, callA, cmp_lss, ar_add, un_not, ex2, hn, g5, g6, g7, hlt, hp, hld, al79, hst, k0, k1, k2, l0, l1, l2, sum_eq, h11, h54, S36, SV, h1, h2, hw]
    exact ⟨by simp [n_set, hn], by simp [df_set, hd], by simp [get_set, g5], by simp [get_set, g6], by simp [get_set], hok, kτ⟩
  | false =>
    right
    have hall := not_all hk hv
    rw [hall]
    cases h1 : isP l[k].1 l[k].2.1 with
    | false =>
      simp only [in32, fAt, cAt, Tryz.f32]
      simp [code_skip, code_region, code_seq, code_cond, code_block, code_ret, opsA, oneA, wantedA, opA, kindOf, readA, uponA, writeA, AFr.put, get_set, n_set, df_set, opd, callee?, callA, cmp_lss, un_not, ex2, hn, hd, g5, g6, g7, hlt, hp, hld, al79, hst, k0, k1, l0, l1, sum_eq, h11, S36, h1]
      exact kτ
    | true =>
      have h2 : isV l[k].2.2 = false := by unfold okP3 okP at hv; simpa [h1] using hv
      simp only [in32, fAt, cAt, Tryz.f32]
      simp [code_skip, code_region, code_seq, code_cond, code_block, code_ret, opsA, oneA, wantedA, opA, kindOf, readA, uponA, writeA, AFr.put, get_set, n_set, df_set, opd, callee?, callA, cmp_lss, un_not, ex2, hn, hd, g5, g6, g7, hlt, hp, hld, al79, hst, k0, k1, k2, l0, l1, l2, sum_eq, h11, h54, S36, SV, h1, h2]
      exact kτ

/-- The reference's Puts. -/
theorem call32 {n : Nat} {L : SumL} (h11 : sumOf L 11 = some S36) (h54 : sumOf L 54 = some SV) {N : Nat} {l : List Put3} {x : AV} {σ0 : St} (hs : ∀ σ, Keep σ0.next σ0 σ → SlAt σ 3 x (pcs l)) (hN : l.length < N) (hl : l.length < 4611686018427387904) :
    ∃ σ', (evalK (EL L) N (n + 1)).call 32 [x] σ0 = some (.ret (.b (l.all okP3)), σ') ∧ Keep σ0.next σ0 σ' := by
  have hfn : (EL L).fn 32 = some Tryz.f32 := fnL Tryz.func32 rfl
  have hn : (frame0 Tryz.f32 [x]).n = 24 := rfl
  have g0 : (frame0 Tryz.f32 [x]).get 0 = x := rfl
  have hd : (frame0 Tryz.f32 [x]).df = [] := rfl
  generalize hfr : frame0 Tryz.f32 [x] = a at hn g0 hd
  have hlen := (hs σ0 (Keep.refl _ _)).len (E := EL L) (t := 55) (el := 79) Tryz.underlying55
  rw [pcs_len] at hlen
  obtain ⟨a1, e1, k1⟩ : ∃ a1, codeA (evalK (EL L) N n) (EL L) N none (.seq (fAt Tryz.f32 [0]) (fAt Tryz.f32 [1, 0, 0])) a σ0 = some (.normal, a1, σ0) ∧ In32 l x σ0.next σ0 0 a1 σ0 := by
    simp only [fAt, cAt, Tryz.f32]
    simp [code_region, code_seq, opsA, oneA, wantedA, opA, kindOf, readA, uponA, AFr.put, get_set, n_set, opd, hn, g0, hlen]
    exact ⟨by simp [n_set, hn], by simp [df_set, hd], by simp [get_set], by simp [get_set], by simp [get_set], (fun j _ h => absurd h (by omega)), Keep.refl _ _⟩
  have hlp := loop_inv (K := evalK (EL L) N n) (E := EL L) (N := N) (c := in32) 0 (In32 l x σ0.next σ0) (fun a' σ' => Keep σ0.next σ0 σ' ∧ a'.df = [] ∧ a'.n = 24 ∧ l.all okP3 = true) (fun a' σ' => Keep σ0.next σ0 σ' ∧ a'.df = [] ∧ a'.get 2 = .b false ∧ l.all okP3 = false) l.length
    (fun k a σ' hk hI => in32_step h11 h54 (Nat.le_refl _) hs hl hk hI)
    (fun a σ' hI => by
      obtain ⟨hn, hd, g5, g6, g7, ok, kp⟩ := hI
      have hall : l.all okP3 = true := all_of fun j h => ok j h h
      rw [hall]
      simp only [in32, fAt, cAt, Tryz.f32]
      simp [code_region, code_seq, code_cond, code_exit, opsA, oneA, wantedA, opA, kindOf, readA, uponA, AFr.put, get_set, n_set, df_set, opd, cmp_lss, ex2, hn, hd, g6, g7]
      exact kp) hN k1
  rcases hlp with ⟨a2, σ2, e2, kp, d2, n2, hall⟩ | ⟨a2, σ2, e2, kp, d2, k2, hall⟩
  · have e3 : codeA (evalK (EL L) N n) (EL L) N none (fAt Tryz.f32 [1, 1]) a2 σ2 = some (.ret, a2.set 2 (.b true), σ2) := by
      simp only [fAt, cAt, Tryz.f32]
      simp [code_region, code_seq, code_ret, opsA, oneA, wantedA, opA, kindOf, readA, uponA, AFr.put, opd, n2]
    exact ⟨σ2, call_ret (x := .b (l.all okP3)) hfn (show Tryz.f32.body = some (fAt Tryz.f32 []) from rfl) (by rw [hfr]; exact body_n e1 e2 e3) (by rw [df_set]; exact d2) (by simp only [resultA, resultsA, Tryz.f32, get_set, hall]; rfl), kp⟩
  · exact ⟨σ2, call_ret (x := .b (l.all okP3)) hfn (show Tryz.f32.body = some (fAt Tryz.f32 []) from rfl) (by rw [hfr]; exact body_ret e1 e2) d2 (by simp only [resultA, resultsA, Tryz.f32, k2, hall]; rfl), kp⟩

noncomputable def in33 : Code := fAt Tryz.f33 [1, 0, 1, 0, 0]
structure In33 (cs : List Int) (l : List Put3) (x : AV) (b : Nat) (σ0 : St) (k : Nat) (a : AFr) (σ : St) : Prop where
  n : a.n = 23
  d : a.df = []
  g2 : a.get 2 = .ptr b 0 0 192
  g4 : a.get 4 = .ptr (b + 1) 0 0 192
  g7 : a.get 7 = x
  g8 : a.get 8 = .i (l.length : Int)
  g9 : a.get 9 = .i (k : Int)
  m0 : σ.get b = some (.cells (ints (setAll cs (l.take k))) 0 0)
  m1 : σ.get (b + 1) = some (.cells (ints zimg) 0 0)
  nx : b + 2 ≤ σ.next
  kp : Keep b σ0 σ

theorem in33_step {K : Kont} {L : SumL} (h47 : sumOf L 47 = some S47) {N b : Nat} {cs : List Int} (hc : cs.length = 192) {l : List Put3} {x : AV} {σ0 : St} (hs : ∀ σ, Keep b σ0 σ → SlAt σ 3 x (pcs l)) (hl : l.length < 4611686018427387904) {k : Nat} (hk : k < l.length) (hok : okP3 l[k] = true) {a : AFr} {σ : St} (h : In33 cs l x b σ0 k a σ) :
    ∃ a' σ', codeA K (EL L) N none in33 a σ = some (.normal, a', σ') ∧ In33 cs l x b σ0 (k + 1) a' σ' := by
  obtain ⟨hn, hd, g2, g4, g7, g8, g9, m0, m1, nx, kp⟩ := h
  have hlt : (k : Int) < (l.length : Int) := by omega
  obtain ⟨p, hp, hr⟩ := (hs σ kp).at (E := EL L) (t := 55) (el := 79) Tryz.underlying55 (z79 L) (pcs_at hk) (k := .i64)
  have hld := load_agg (agg79 L) (z79 L) hr
  have hw := wrap_nat (n := k) (by omega)
  have hP : isP l[k].1 l[k].2.1 = true := by unfold okP3 okP at hok; simp at hok; exact hok.1
  have hset := setAll_take (cs := cs) hk
  have hcl : (setAll cs (l.take k)).length = 192 := by rw [setAll_len, hc]
  generalize hcur : setAll cs (l.take k) = cur at m0 hset hcl
  have h47e := S47_eq hcl l[k].2.2 hP
  have hnl : (setP cur l[k]).length = 192 := by rw [setP_len, hcl]
  rw [show (l[k].1, l[k].2.1, l[k].2.2) = l[k] from rfl] at h47e
  generalize setP cur l[k] = nw at h47e hset hnl
  have hst := st79 (L := L) (σ := σ.add (.cells [.i 0, .i 0, .i 0] 0 0)) (o := σ.next) (x := .i l[k].1) (y := .i l[k].2.1) (z := .i l[k].2.2) (St.get_add_same _ _) rfl rfl rfl
  generalize hτ : (σ.add (.cells [.i 0, .i 0, .i 0] 0 0)).set σ.next (.cells [.i l[k].1, .i l[k].2.1, .i l[k].2.2] 0 0) = τ at hst
  have gp : τ.get σ.next = some (.cells [.i l[k].1, .i l[k].2.1, .i l[k].2.2] 0 0) := by rw [← hτ, get_sset, if_pos rfl]
  have go : ∀ o, o < σ.next → τ.get o = σ.get o := fun o ho => by rw [← hτ, get_sset, if_neg (by omega), get_sadd, if_neg (by omega)]
  have nτ : τ.next = σ.next + 1 := by rw [← hτ]; rfl
  obtain ⟨r0, r1, r2⟩ := rdP gp
  have l0 : loadA (EL L) τ 3 (.ptr σ.next 0 0 1) = some (.i l[k].1) := load_one (agg3 L) r0
  have l1 : loadA (EL L) τ 3 (.ptr σ.next 1 0 1) = some (.i l[k].2.1) := load_one (agg3 L) r1
  have l2 : loadA (EL L) τ 3 (.ptr σ.next 2 0 1) = some (.i l[k].2.2) := load_one (agg3 L) r2
  have k0 := fa79 (L := L) (o := σ.next) (i := 0) (g := 0) (e := 3) (k := 0) (by omega) (by omega)
  have k1 := fa79 (L := L) (o := σ.next) (i := 0) (g := 0) (e := 3) (k := 1) (by omega) (by omega)
  have k2 := fa79 (L := L) (o := σ.next) (i := 0) (g := 0) (e := 3) (k := 2) (by omega) (by omega)
  simp only [Nat.zero_add] at k0 k1 k2
  have hlm := ld37 (L := L) (σ := τ) (o := b) (by rw [go b (by omega)]; exact m0) hcl
  have hsm := st37 (L := L) (σ := τ) (o := b) (cs := nw) (by rw [go b (by omega)]; exact m0) (by rw [ints_len, hcl]) hnl
  simp only [in33, fAt, cAt, Tryz.f33]
  simp [code_skip, code_region, code_seq, code_cond, code_block, opsA, oneA, wantedA, opA, kindOf, readA, uponA, writeA, AFr.put, get_set, n_set, opd, callee?, callA, cmp_lss, ar_add, ex2, hn, g2, g7, g8, g9, hlt, hp, hld, al79, hst, k0, k1, k2, l0, l1, l2, hlm, sum_eq, h47, h47e, hsm, hw]
  refine ⟨by simp [n_set, hn], by simp [df_set, hd], by simp [get_set, g2], by simp [get_set, g4], by simp [get_set, g7], by simp [get_set, g8], by simp [get_set], ?_, ?_, ?_, ?_⟩
  · rw [get_sset, if_pos rfl, hset]
  · rw [get_sset, if_neg (by omega), go _ (by omega)]; exact m1
  · rw [next_set, nτ]; omega
  · exact kp.trans (b := b) (c := b) ⟨by rw [next_set, nτ]; omega, fun o ho => by rw [get_sset, if_neg (by omega), go _ (by omega)]⟩ (Nat.le_refl _)

/-- The reference's Set. -/
theorem call33 {n : Nat} {L : SumL} (h47 : sumOf L 47 = some S47) {N : Nat} {cs : List Int} (hc : cs.length = 192) {l : List Put3} (hok : l.all okP3 = true) {x : AV} {σ0 : St} (hs : ∀ σ, Keep σ0.next σ0 σ → SlAt σ 3 x (pcs l)) (hN : l.length < N) (hl : l.length < 4611686018427387904) :
    ∃ σ', (evalK (EL L) N (n + 1)).call 33 [.agg (ints cs), x] σ0 = some (.ret (.agg (ints (setAll cs l))), σ') ∧ Keep σ0.next σ0 σ' := by
  have hfn : (EL L).fn 33 = some Tryz.f33 := fnL Tryz.func33 rfl
  have hn : (frame0 Tryz.f33 [.agg (ints cs), x]).n = 23 := rfl
  have g0 : (frame0 Tryz.f33 [.agg (ints cs), x]).get 0 = .agg (ints cs) := rfl
  have g1 : (frame0 Tryz.f33 [.agg (ints cs), x]).get 1 = x := rfl
  have hd : (frame0 Tryz.f33 [.agg (ints cs), x]).df = [] := rfl
  generalize hfr : frame0 Tryz.f33 [.agg (ints cs), x] = a at hn g0 g1 hd
  have hbx := box37 (L := L) 0 cs hc
  have gA0 : ((σ0.add (.cells (ints cs) 0 0)).add (.cells (ints zimg) 0 0)).get σ0.next = some (.cells (ints cs) 0 0) := by
    rw [get_sadd, if_neg (by rw [next_add]; omega), get_sadd, if_pos rfl]
  have gA1 : ((σ0.add (.cells (ints cs) 0 0)).add (.cells (ints zimg) 0 0)).get (σ0.next + 1) = some (.cells (ints zimg) 0 0) := by
    rw [get_sadd, if_pos (by rw [next_add])]
  have kA : Keep σ0.next σ0 ((σ0.add (.cells (ints cs) 0 0)).add (.cells (ints zimg) 0 0)) := (Keep.add _ (Nat.le_refl _)).trans (Keep.add (b := σ0.next) _ (by rw [next_add]; omega)) (Nat.le_refl _)
  have nA : ((σ0.add (.cells (ints cs) 0 0)).add (.cells (ints zimg) 0 0)).next = σ0.next + 2 := by rw [next_add, next_add]
  obtain ⟨aA, eA, nAA, dA, a1, a2, a4⟩ : ∃ aA, codeA (evalK (EL L) N n) (EL L) N none (fAt Tryz.f33 [0]) a σ0 = some (.normal, aA, (σ0.add (.cells (ints cs) 0 0)).add (.cells (ints zimg) 0 0)) ∧ aA.n = 23 ∧ aA.df = [] ∧ aA.get 1 = x ∧ aA.get 2 = .ptr σ0.next 0 0 192 ∧ aA.get 4 = .ptr (σ0.next + 1) 0 0 192 := by
    simp only [fAt, cAt, Tryz.f33]
    simp [code_region, opsA, oneA, wantedA, opA, kindOf, uponA, AFr.put, get_set, n_set, df_set, hn, hd, g0, g1, hbx, al37, next_add]
  generalize (σ0.add (.cells (ints cs) 0 0)).add (.cells (ints zimg) 0 0) = σA at gA0 gA1 kA nA eA
  have hlen := (hs σA kA).len (E := EL L) (t := 55) (el := 79) Tryz.underlying55
  rw [pcs_len] at hlen
  obtain ⟨aB, eB, iB⟩ : ∃ aB, codeA (evalK (EL L) N n) (EL L) N none (fAt Tryz.f33 [1, 0, 0]) aA σA = some (.normal, aB, σA) ∧ In33 cs l x σ0.next σ0 0 aB σA := by
    simp only [fAt, cAt, Tryz.f33]
    simp [code_region, opsA, oneA, wantedA, opA, kindOf, readA, uponA, AFr.put, get_set, n_set, opd, nAA, a1, hlen]
    exact ⟨by simp [n_set, nAA], by simp [df_set, dA], by simp [get_set, a2], by simp [get_set, a4], by simp [get_set], by simp [get_set], by simp [get_set], gA0, gA1, by omega, kA⟩
  obtain ⟨aC, σC, eC, nC, dC, c2, c4, m0, m1, kC⟩ := loop_all (K := evalK (EL L) N n) (E := EL L) (N := N) (c := in33) 0 (In33 cs l x σ0.next σ0) (fun a σ => a.n = 23 ∧ a.df = [] ∧ a.get 2 = .ptr σ0.next 0 0 192 ∧ a.get 4 = .ptr (σ0.next + 1) 0 0 192 ∧ σ.get σ0.next = some (.cells (ints (setAll cs l)) 0 0) ∧ σ.get (σ0.next + 1) = some (.cells (ints zimg) 0 0) ∧ Keep σ0.next σ0 σ) l.length
    (fun k a σ hk hI => in33_step h47 hc hs hl hk ((List.all_eq_true.1 hok) _ (List.getElem_mem hk)) hI)
    (fun a σ hI => by
      obtain ⟨hn, hd, g2, g4, g7, g8, g9, m0, m1, nx, kp⟩ := hI
      rw [List.take_length] at m0
      simp only [in33, fAt, cAt, Tryz.f33]
      simp [code_region, code_seq, code_cond, code_exit, opsA, oneA, wantedA, opA, kindOf, readA, uponA, AFr.put, get_set, n_set, df_set, opd, cmp_lss, ex2, hn, hd, g2, g4, g8, g9]
      exact ⟨m0, m1, kp⟩) hN iB
  have hlenC : (setAll cs l).length = 192 := by rw [setAll_len, hc]
  have hst := st37 (L := L) (σ := σC) (o := σ0.next + 1) m1 rep_len hlenC
  obtain ⟨aD, eD, dD, d4⟩ : ∃ aD, codeA (evalK (EL L) N n) (EL L) N none (fAt Tryz.f33 [1, 1]) aC σC = some (.ret, aD, σC.set (σ0.next + 1) (.cells (ints (setAll cs l)) 0 0)) ∧ aD.df = [] ∧ aD.get 4 = .ptr (σ0.next + 1) 0 0 192 := by
    simp only [fAt, cAt, Tryz.f33]
    simp [code_region, code_seq, code_ret, opsA, oneA, wantedA, opA, kindOf, readA, uponA, writeA, AFr.put, get_set, df_set, opd, nC, dC, c2, c4, ld37 m0 hlenC, hst]
  have hl' := ld37 (L := L) (σ := σC.set (σ0.next + 1) (.cells (ints (setAll cs l)) 0 0)) (o := σ0.next + 1) (by rw [get_sset, if_pos rfl]) hlenC
  exact ⟨_, call_ret hfn (show Tryz.f33.body = some (fAt Tryz.f33 []) from rfl) (by rw [hfr]; exact seq_n eA (seq_n (seq_n eB eC) eD)) dD (by simp [resultA, resultsA, Tryz.f33, d4, hl']), kC.trans (Keep.set (b := σ0.next) _ (by omega)) (Nat.le_refl _)⟩

/- The plain law: a place is marked where it has a link. -/
theorem marks_get {l : List Lk} (hok : ∀ x ∈ l, isP x.a x.s = true) : ∀ k, k ≤ l.length → ∀ j, j < 192 → (marks (l.take k)).getD j 0 = if linkAt (l.take k) j then 1 else 0
  | 0, _, j, hj => by
    have : zimg.getD j 0 = 0 := by unfold zimg; rw [getD_lt (by rw [List.length_replicate]; exact hj), List.getElem_replicate]
    simpa [marks, setAll, linkAt] using this
  | k + 1, hk, j, hj => by
    have ih := marks_get hok k (by omega) j hj
    have hkl : k < l.length := by omega
    have hP := isP_true (hok _ (List.getElem_mem hkl))
    have hl := marks_len (l.take k)
    have hlk : linkAt (l.take (k + 1)) j = (linkAt (l.take k) j || atP (j / 64 + 1) (j % 64) l[k]) := by
      unfold linkAt
      rw [List.take_succ_eq_append_getElem hkl, List.any_append]; simp
    rw [marks_take hkl, hlk]
    generalize l[k] = z at hP
    have hat : atP (j / 64 + 1) (j % 64) z = decide ((z.a.toNat - 1) * 64 + z.s.toNat = j) := by
      unfold atP
      rw [Bool.eq_iff_iff]
      simp only [Bool.and_eq_true, beq_iff_eq, decide_eq_true_eq]
      omega
    rw [hat, getD_lt (by simp [hl]; omega), List.getElem_set]
    rw [getD_lt (by omega)] at ih
    by_cases hj' : (z.a.toNat - 1) * 64 + z.s.toNat = j
    · simp [hj']
    · rw [if_neg hj', ih]; simp [hj']
theorem used_eq {l : List Lk} (h : linked l = true) : gath (fun k => (marks l).getD k 0 == 1) 192 = gath (linkAt l) 192 := by
  obtain ⟨hl, hok⟩ := linked_iff h
  apply gath_congr
  intro j hj
  have hP : ∀ x ∈ l, isP x.a x.s = true := by
    intro x hx
    obtain ⟨i, hi, rfl⟩ := List.getElem_of_mem hx
    exact okI_place hi (hok i hi)
  have := marks_get hP l.length (Nat.le_refl _) j hj
  rw [List.take_length] at this
  rw [this]
  cases linkAt l j <;> rfl
end Go.Proofs.YtfmbpdacdopkgaaGreatDoor
