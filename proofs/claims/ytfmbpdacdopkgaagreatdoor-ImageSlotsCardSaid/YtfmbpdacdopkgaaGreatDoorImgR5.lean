/- The reference's Used. Conditions: none. -/
import Derived.Test.YtfmbpdacdopkgaaGreatDoorImgR3
namespace Go.Ai
/-- A loop with a break. -/
theorem loop_brk {K : Kont} {E : Env} {N : Nat} {c : Code} (id : Nat) (I : Nat → AFr → St → Prop) (X : AFr → St → Prop) (m : Nat)
    (hs : ∀ k a σ, k < m → I k a σ → (∃ a' σ', codeA K E N none c a σ = some (.normal, a', σ') ∧ I (k + 1) a' σ') ∨ (∃ a' σ', codeA K E N none c a σ = some (.exit id, a', σ') ∧ X a' σ'))
    (he : ∀ a σ, I m a σ → ∃ a' σ', codeA K E N none c a σ = some (.exit id, a', σ') ∧ X a' σ')
    (hN : m < N) {a : AFr} {σ : St} (h0 : I 0 a σ) : ∃ a' σ', codeA K E N none (.block id (.loop c)) a σ = some (.normal, a', σ') ∧ X a' σ' := by
  obtain ⟨e, a', σ', h, rfl, hx⟩ := iter_inv (f := codeA K E N none c) I (fun e a' σ' => e = .exit id ∧ X a' σ') m
    (fun k a σ hk hI => (hs k a σ hk hI).imp_right fun ⟨a', σ', h, hr⟩ => ⟨.exit id, a', σ', h, (fun u v e => by cases e), rfl, hr⟩)
    (fun a σ hI => by
      obtain ⟨a', σ', h, hx⟩ := he a σ hI
      exact ⟨.exit id, a', σ', h, (fun u v e => by cases e), rfl, hx⟩) hN h0
  exact ⟨a', σ', block_x (loop_of h), hx⟩
end Go.Ai
namespace Go.Proofs.YtfmbpdacdopkgaaGreatDoor
set_option maxRecDepth 100000
open Go Go.Ai
open Go.RowKit (Below)

def atP (ar s : Nat) (x : Lk) : Bool := x.a == (ar : Int) && x.s == (s : Int)
noncomputable def in30 : Code := fAt Tryz.f30 [1, 1, 0, 1, 0, 0, 1, 0, 0, 1, 0, 0, 1, 0, 0, 1, 0, 0]
noncomputable def mid30 : Code := fAt Tryz.f30 [1, 1, 0, 1, 0, 0, 1, 0, 0, 1, 0, 0]
noncomputable def out30 : Code := fAt Tryz.f30 [1, 1, 0, 1, 0, 0]

structure Mid30 (x : AV) (c : Nat) (σ0 : St) (ar s : Nat) (ps : List Put3) (a : AFr) (σ : St) : Prop where
  n : a.n = 40
  d : a.df = []
  g0 : a.get 0 = x
  g4 : a.get 4 = .i (ar : Int)
  g5 : a.get 5 = .i (s : Int)
  y : Grow c σ 3 (a.get 3) (pcs ps)
  kp : Keep c σ0 σ
structure In30 (l : List Lk) (x : AV) (c : Nat) (σ0 : St) (ar s : Nat) (ps : List Put3) (k : Nat) (a : AFr) (σ : St) : Prop where
  m : Mid30 x c σ0 ar s ps a σ
  g16 : a.get 16 = x
  g17 : a.get 17 = .i (l.length : Int)
  g18 : a.get 18 = .i (k : Int)
  no : (l.take k).any (atP ar s) = false

theorem in30_step {K : Kont} {L : SumL} {N c : Nat} {l : List Lk} {x : AV} {σ0 : St} (hc : c ≤ σ0.next) (hs : ∀ σ, Keep c σ0 σ → SlAt σ 6 x (lcs l)) (hl : l.length ≤ 400) {ar s : Nat} {ps : List Put3} (hps : ps.length ≤ 192) {k : Nat} (hk : k < l.length) {a : AFr} {σ : St} (h : In30 l x c σ0 ar s ps k a σ) :
    (∃ a' σ', codeA K (EL L) N none in30 a σ = some (.normal, a', σ') ∧ In30 l x c σ0 ar s ps (k + 1) a' σ') ∨ ∃ a' σ', codeA K (EL L) N none in30 a σ = some (.exit 4, a', σ') ∧ Mid30 x c σ0 ar s (ps ++ if l.any (atP ar s) then [((ar : Int), (s : Int), 0)] else []) a' σ' := by
  obtain ⟨⟨hn, hd, g0, g4, g5, hy, kp⟩, g16, g17, g18, no⟩ := h
  have hlt : (k : Int) < (l.length : Int) := by omega
  obtain ⟨p, hp, hr⟩ := (hs σ kp).at (E := EL L) (t := 34) (el := 74) Tryz.underlying34 (z74 L) (lcs_at hk) (k := .i64)
  have hld := load_agg (agg74 L) (z74 L) hr
  have hw := wrap_nat (n := k) (by omega)
  have hat : (l.take (k + 1)).any (atP ar s) = ((l.take k).any (atP ar s) || atP ar s l[k]) := by
    rw [List.take_succ_eq_append_getElem hk, List.any_append]; simp
  have hin : atP ar s l[k] = true → l.any (atP ar s) = true := fun h => List.any_eq_true.2 ⟨l[k], List.getElem_mem hk, h⟩
  generalize hz : l[k] = z at hld hat hin
  have kle := kp.le
  have hst := st74 (L := L) (σ := σ.add (.cells lz 0 0)) (o := σ.next) z (St.get_add_same _ _)
  generalize hτ : (σ.add (.cells lz 0 0)).set σ.next (.cells (lc z) 0 0) = τ at hst
  have gp : τ.get σ.next = some (.cells (lc z) 0 0) := by rw [← hτ, get_sset, if_pos rfl]
  have go : ∀ o, o < σ.next → τ.get o = σ.get o := fun o ho => by rw [← hτ, get_sset, if_neg (by omega), get_sadd, if_neg (by omega)]
  have nτ : τ.next = σ.next + 1 := by rw [← hτ]; rfl
  obtain ⟨r0, r1, r2, r3, r4, -⟩ := rdL gp
  have m3 : loadA (EL L) τ 3 (.ptr σ.next 3 0 1) = some (.i z.a) := load_one (agg3 L) r3
  have m4 : loadA (EL L) τ 3 (.ptr σ.next 4 0 1) = some (.i z.s) := load_one (agg3 L) r4
  have k3 := fa74 (L := L) (o := σ.next) (i := 0) (g := 0) (e := 6) (k := 3) (by omega) (by omega)
  have k4 := fa74 (L := L) (o := σ.next) (i := 0) (g := 0) (e := 6) (k := 4) (by omega) (by omega)
  simp only [Nat.zero_add] at k3 k4
  have hyτ : Grow c τ 3 (a.get 3) (pcs ps) := hy.keep (by omega) fun o _ h => go o h
  have kτ : Keep c σ0 τ := kp.trans (b := c) (c := c) ⟨by omega, fun o ho => go o (by omega)⟩ (Nat.le_refl _)
  generalize h3 : a.get 3 = y0 at hyτ
  cases hm : atP ar s z with
  | false =>
    left
    rw [no, hm] at hat
    by_cases ha : z.a = (ar : Int)
    · have hsl : (z.s == (s : Int)) = false := by unfold atP at hm; simp [ha] at hm; simpa using hm
      have ha2 : (z.a == (ar : Int)) = true := by simpa using ha
      simp only [in30, fAt, cAt, Tryz.f30]
      simp [code_skip, code_region, code_seq, code_cond, code_block, opsA, oneA, wantedA, opA, kindOf, readA, uponA, writeA, AFr.put, get_set, n_set, opd, cmp_lss, ar_add, eq_int, ex2, hn, g4, g5, g16, g17, g18, hlt, hp, hld, al74, hst, k3, k4, m3, m4, ha2, hsl, hw]
      exact ⟨⟨by simp [n_set, hn], by simp [df_set, hd], by simp [get_set, g0], by simp [get_set, g4], by simp [get_set, g5], by simpa [get_set, h3] using hyτ, kτ⟩, by simp [get_set, g16], by simp [get_set, g17], by simp [get_set], hat⟩
    · have ha' : (z.a == (ar : Int)) = false := by simpa using ha
      simp only [in30, fAt, cAt, Tryz.f30]
      simp [code_skip, code_region, code_seq, code_cond, code_block, opsA, oneA, wantedA, opA, kindOf, readA, uponA, writeA, AFr.put, get_set, n_set, opd, cmp_lss, ar_add, eq_int, ex2, hn, g4, g16, g17, g18, hlt, hp, hld, al74, hst, k3, m3, ha', hw]
      exact ⟨⟨by simp [n_set, hn], by simp [df_set, hd], by simp [get_set, g0], by simp [get_set, g4], by simp [get_set, g5], by simpa [get_set, h3] using hyτ, kτ⟩, by simp [get_set, g16], by simp [get_set, g17], by simp [get_set], hat⟩
  | true =>
    right
    have ha : (z.a == (ar : Int)) = true := by unfold atP at hm; simp at hm; simpa using hm.1
    have hsl : (z.s == (s : Int)) = true := by unfold atP at hm; simp at hm; simpa using hm.2
    rw [hin hm]
    obtain ⟨i79, zz, hi79, hz79, hsz, hzs, hbt⟩ := inf79 L
    have gτ1 : (τ.add (.cells [.i (ar : Int), .i (s : Int), .i 0] 0 0)).get τ.next = some (.cells [.i (ar : Int), .i (s : Int), .i 0] 0 0) := St.get_add_same _ _
    have gτ1o : ∀ o, o < τ.next → (τ.add (.cells [.i (ar : Int), .i (s : Int), .i 0] 0 0)).get o = τ.get o := fun o ho => by rw [get_sadd, if_neg (by omega)]
    obtain ⟨y, υ, hap, hgr, hkp⟩ := append_grow (E := EL L) (t := 55) (u := 55) (el := 79) (el' := 79) (y := [.i (ar : Int), .i (s : Int), .i 0]) Tryz.underlying55 Tryz.underlying55 hi79 hz79 hsz hzs hbt (by decide) (hyτ.keep (σ' := τ.add (.cells [.i (ar : Int), .i (s : Int), .i 0] 0 0)) (by rw [next_add]; omega) fun o _ h => gτ1o o h) (by rw [next_add]; omega) gτ1 rfl rfl (by rw [pcs_len]; omega)
    have hbd := build79' (L := L) (.i (ar : Int)) (.i (s : Int)) rfl rfl
    have hle := hkp.le
    rw [next_add] at hle
    have kυ : Keep c σ0 υ := kτ.trans (b := c) (c := c) ⟨by omega, fun o ho => (hkp.same o ho).trans (gτ1o o (by omega))⟩ (Nat.le_refl _)
    simp only [in30, fAt, cAt, Tryz.f30]
    simp [code_skip, code_region, code_seq, code_cond, code_block, code_exit, opsA, oneA, wantedA, opA, kindOf, readA, uponA, writeA, AFr.put, get_set, n_set, opd, cmp_lss, eq_int, ex2, hn, g4, g5, h3, g16, g17, g18, hlt, hp, hld, al74, hst, k3, k4, m3, m4, ha, hsl, hbd, bs79 (L := L) (t := 35) (x := .i (ar : Int)) (y := .i (s : Int)) (z := .i 0), hap]
    exact ⟨by simp [n_set, hn], by simp [df_set, hd], by simp [get_set, g0], by simp [get_set, g4], by simp [get_set, g5], by rw [pcs_append]; simp [get_set]; exact hgr, kυ⟩

theorem mid30_step {K : Kont} {L : SumL} {N c : Nat} (hN : 400 < N) {l : List Lk} {x : AV} {σ0 : St} (hc : c ≤ σ0.next) (hs : ∀ σ, Keep c σ0 σ → SlAt σ 6 x (lcs l)) (hl : l.length ≤ 400) {ar s : Nat} (hsl : s < 64) {ps : List Put3} (hps : ps.length ≤ 192) {a : AFr} {σ : St} (h : Mid30 x c σ0 ar s ps a σ) :
    ∃ a' σ', codeA K (EL L) N none mid30 a σ = some (.normal, a', σ') ∧ Mid30 x c σ0 ar (s + 1) (ps ++ if l.any (atP ar s) then [((ar : Int), (s : Int), 0)] else []) a' σ' := by
  obtain ⟨hn, hd, g0, g4, g5, hy, kp⟩ := h
  have hlt : (s : Int) < 64 := by omega
  obtain ⟨a1, e1, i1⟩ : ∃ a1, codeA K (EL L) N none (fAt Tryz.f30 [1, 1, 0, 1, 0, 0, 1, 0, 0, 1, 0, 0, 0]) a σ = some (.normal, a1, σ) ∧ Mid30 x c σ0 ar s ps a1 σ := by
    simp only [fAt, cAt, Tryz.f30]
    simp [code_skip, code_region, code_seq, code_cond, opsA, oneA, wantedA, opA, kindOf, readA, uponA, AFr.put, get_set, n_set, opd, cmp_lss, hn, g5, hlt]
    exact ⟨by simp [n_set, hn], by simp [df_set, hd], by simp [get_set, g0], by simp [get_set, g4], by simp [get_set, g5], by simpa [get_set] using hy, kp⟩
  have hlen := (hs σ kp).len (E := EL L) (t := 34) (el := 74) Tryz.underlying34
  rw [lcs_len] at hlen
  obtain ⟨a2, e2, i2⟩ : ∃ a2, codeA K (EL L) N none (fAt Tryz.f30 [1, 1, 0, 1, 0, 0, 1, 0, 0, 1, 0, 0, 1, 0, 0, 0]) a1 σ = some (.normal, a2, σ) ∧ In30 l x c σ0 ar s ps 0 a2 σ := by
    obtain ⟨hn, hd, g0, g4, g5, hy, kp⟩ := i1
    simp only [fAt, cAt, Tryz.f30]
    simp [code_region, opsA, oneA, wantedA, opA, kindOf, readA, uponA, AFr.put, get_set, n_set, opd, hn, g0, hlen]
    exact ⟨⟨by simp [n_set, hn], by simp [df_set, hd], by simp [get_set, g0], by simp [get_set, g4], by simp [get_set, g5], by simpa [get_set] using hy, kp⟩, by simp [get_set], by simp [get_set], by simp [get_set], rfl⟩
  obtain ⟨a3, σ3, e3, i3⟩ := loop_brk (K := K) (E := EL L) (N := N) (c := in30) 4 (In30 l x c σ0 ar s ps) (Mid30 x c σ0 ar s (ps ++ if l.any (atP ar s) then [((ar : Int), (s : Int), 0)] else [])) l.length
    (fun k a σ hk hI => in30_step hc hs hl hps hk hI)
    (fun a σ hI => by
      obtain ⟨⟨hn, hd, g0, g4, g5, hy, kp⟩, g16, g17, g18, no⟩ := hI
      rw [List.take_length] at no
      rw [no]
      simp only [in30, fAt, cAt, Tryz.f30]
      simp [code_region, code_seq, code_cond, code_exit, opsA, oneA, wantedA, opA, kindOf, readA, uponA, AFr.put, get_set, opd, cmp_lss, ex2, hn, g17, g18]
      exact ⟨by simp [n_set, hn], by simp [df_set, hd], by simp [get_set, g0], by simp [get_set, g4], by simp [get_set, g5], by simpa [get_set] using hy, kp⟩) (by omega) i2
  obtain ⟨hn, hd, g0, g4, g5, hy, kp⟩ := i3
  have hw := wrap_nat (n := s) (by omega)
  obtain ⟨a4, e4, i4⟩ : ∃ a4, codeA K (EL L) N none (fAt Tryz.f30 [1, 1, 0, 1, 0, 0, 1, 0, 0, 1, 0, 0, 1, 1]) a3 σ3 = some (.normal, a4, σ3) ∧ Mid30 x c σ0 ar (s + 1) (ps ++ if l.any (atP ar s) then [((ar : Int), (s : Int), 0)] else []) a4 σ3 := by
    simp only [fAt, cAt, Tryz.f30]
    simp [code_region, opsA, oneA, wantedA, opA, kindOf, readA, uponA, AFr.put, get_set, n_set, opd, ar_add, hn, g5, hw]
    exact ⟨by simp [n_set, hn], by simp [df_set, hd], by simp [get_set, g0], by simp [get_set, g4], by simp [get_set], by simpa [get_set] using hy, kp⟩
  exact ⟨a4, σ3, seq_n e1 (seq_n (block_n (seq_n e2 e3)) e4), i4⟩

/-- Has a place a link? -/
def linkAt (l : List Lk) (k : Nat) : Bool := l.any (atP (k / 64 + 1) (k % 64))
theorem linkAt_at (l : List Lk) {ar s : Nat} (h1 : 1 ≤ ar) (hs : s < 64) : linkAt l ((ar - 1) * 64 + s) = l.any (atP ar s) := by
  have e1 : ((ar - 1) * 64 + s) / 64 + 1 = ar := by omega
  have e2 : ((ar - 1) * 64 + s) % 64 = s := by omega
  simp only [linkAt, e1, e2]

structure Out30 (l : List Lk) (x : AV) (c : Nat) (σ0 : St) (ar : Nat) (a : AFr) (σ : St) : Prop where
  n : a.n = 40
  d : a.df = []
  g0 : a.get 0 = x
  g4 : a.get 4 = .i (ar : Int)
  y : Grow c σ 3 (a.get 3) (pcs (gath (linkAt l) ((ar - 1) * 64)))
  kp : Keep c σ0 σ

theorem out30_step {K : Kont} {L : SumL} {N c : Nat} (hN : 400 < N) {l : List Lk} {x : AV} {σ0 : St} (hc : c ≤ σ0.next) (hs : ∀ σ, Keep c σ0 σ → SlAt σ 6 x (lcs l)) (hl : l.length ≤ 400) {ar : Nat} (h1 : 1 ≤ ar) (h3 : ar ≤ 3) {a : AFr} {σ : St} (h : Out30 l x c σ0 ar a σ) :
    ∃ a' σ', codeA K (EL L) N none out30 a σ = some (.normal, a', σ') ∧ Out30 l x c σ0 (ar + 1) a' σ' := by
  obtain ⟨hn, hd, g0, g4, hy, kp⟩ := h
  have hle : (ar : Int) ≤ 3 := by omega
  obtain ⟨a1, e1, i1⟩ : ∃ a1, codeA K (EL L) N none (fAt Tryz.f30 [1, 1, 0, 1, 0, 0, 0]) a σ = some (.normal, a1, σ) ∧ Out30 l x c σ0 ar a1 σ := by
    simp only [fAt, cAt, Tryz.f30]
    simp [code_skip, code_region, code_seq, code_cond, opsA, oneA, wantedA, opA, kindOf, readA, uponA, AFr.put, get_set, n_set, opd, cmp_leq, hn, g4, hle]
    exact ⟨by simp [n_set, hn], by simp [df_set, hd], by simp [get_set, g0], by simp [get_set, g4], by simpa [get_set] using hy, kp⟩
  obtain ⟨a2, e2, i2⟩ : ∃ a2, codeA K (EL L) N none (fAt Tryz.f30 [1, 1, 0, 1, 0, 0, 1, 0, 0, 0]) a1 σ = some (.normal, a2, σ) ∧ Mid30 x c σ0 ar 0 (gath (linkAt l) ((ar - 1) * 64 + 0)) a2 σ := by
    have hn := i1.n
    simp only [fAt, cAt, Tryz.f30]
    simp [code_region, opsA, oneA, wantedA, opA, kindOf, readA, uponA, AFr.put, opd, hn]
    exact ⟨by simp [n_set, hn], by simp [df_set, i1.d], by simp [get_set, i1.g0], by simp [get_set, i1.g4], by simp [get_set], by simpa [get_set] using i1.y, kp⟩
  obtain ⟨a3, σ3, e3, i3⟩ := loop_all (K := K) (E := EL L) (N := N) (c := mid30) 2 (fun s => Mid30 x c σ0 ar s (gath (linkAt l) ((ar - 1) * 64 + s))) (Mid30 x c σ0 ar 64 (gath (linkAt l) ((ar - 1) * 64 + 64))) 64
    (fun s a σ hk hI => by
      have hg := gath_len (linkAt l) ((ar - 1) * 64 + s)
      obtain ⟨a', σ', h, hM⟩ := mid30_step (K := K) (L := L) (N := N) hN hc hs hl hk (by omega) hI
      refine ⟨a', σ', h, ?_⟩
      rw [← Nat.add_assoc, gath_at _ h1 hk, linkAt_at l h1 hk]
      exact hM)
    (fun a σ hI => by
      obtain ⟨hn, hd, g0, g4, g5, hy, kp⟩ := hI
      simp only [mid30, fAt, cAt, Tryz.f30]
      simp [code_region, code_seq, code_cond, code_exit, opsA, oneA, wantedA, opA, kindOf, readA, uponA, AFr.put, get_set, n_set, opd, cmp_lss, ex2, hn, g5]
      exact ⟨by simp [n_set, hn], by simp [df_set, hd], by simp [get_set, g0], by simp [get_set, g4], by simp [get_set, g5], by simpa [get_set] using hy, kp⟩) (by omega) i2
  obtain ⟨hn, hd, g0, g4, g5, hy, kp⟩ := i3
  have hw := wrap_nat (n := ar) (by omega)
  obtain ⟨a4, e4, i4⟩ : ∃ a4, codeA K (EL L) N none (fAt Tryz.f30 [1, 1, 0, 1, 0, 0, 1, 1]) a3 σ3 = some (.normal, a4, σ3) ∧ Out30 l x c σ0 (ar + 1) a4 σ3 := by
    simp only [fAt, cAt, Tryz.f30]
    simp [code_region, opsA, oneA, wantedA, opA, kindOf, readA, uponA, AFr.put, get_set, n_set, opd, ar_add, hn, g4, hw]
    refine ⟨by simp [n_set, hn], by simp [df_set, hd], by simp [get_set, g0], by simp [get_set], ?_, kp⟩
    rw [show (ar + 1 - 1) * 64 = (ar - 1) * 64 + 64 by omega]
    simpa [get_set] using hy
  exact ⟨a4, σ3, seq_n e1 (seq_n (block_n (seq_n e2 e3)) e4), i4⟩

/-- The reference's Used. -/
theorem call30 {n : Nat} {L : SumL} {N : Nat} (hN : 400 < N) {l : List Lk} {x : AV} {σ0 : St} (hl : l.length ≤ 400) (hs : ∀ σ, Keep σ0.next σ0 σ → SlAt σ 6 x (lcs l)) :
    ∃ y σ', (evalK (EL L) N (n + 1)).call 30 [x] σ0 = some (.ret y, σ') ∧ Grow σ0.next σ' 3 y (pcs (gath (linkAt l) 192)) ∧ Keep σ0.next σ0 σ' := by
  have hfn : (EL L).fn 30 = some Tryz.f30 := fnL Tryz.func30 rfl
  have hn : (frame0 Tryz.f30 [x]).n = 40 := rfl
  have g0 : (frame0 Tryz.f30 [x]).get 0 = x := rfl
  have hd : (frame0 Tryz.f30 [x]).df = [] := rfl
  generalize hfr : frame0 Tryz.f30 [x] = a at hn g0 hd
  have e1 : codeA (evalK (EL L) N n) (EL L) N none (fAt Tryz.f30 [0]) a σ0 = some (.normal, a.set 2 (.v (.slice none 0 0)), σ0) := by
    simp only [fAt, cAt, Tryz.f30]
    simp [code_region, opsA, oneA, wantedA, opA, kindOf, readA, uponA, AFr.put, opd, hn]
  have e2 : codeA (evalK (EL L) N n) (EL L) N none (fAt Tryz.f30 [1, 0]) (a.set 2 (.v (.slice none 0 0))) σ0 = some (.normal, (a.set 2 (.v (.slice none 0 0))).set 3 (.v (.slice none 0 0)), σ0) := by
    simp only [fAt, cAt, Tryz.f30]
    simp [code_region, opsA, oneA, wantedA, opA, kindOf, readA, uponA, AFr.put, n_set, opd, hn]
  obtain ⟨a3, e3, i3⟩ : ∃ a3, codeA (evalK (EL L) N n) (EL L) N none (fAt Tryz.f30 [1, 1, 0, 0]) ((a.set 2 (.v (.slice none 0 0))).set 3 (.v (.slice none 0 0))) σ0 = some (.normal, a3, σ0) ∧ Out30 l x σ0.next σ0 1 a3 σ0 := by
    simp only [fAt, cAt, Tryz.f30]
    simp [code_region, opsA, oneA, wantedA, opA, kindOf, readA, uponA, AFr.put, n_set, opd, hn]
    exact ⟨by simp [n_set, hn], by simp [df_set, hd], by simp [get_set, g0], by simp [get_set], by simp [get_set, gath]; exact Grow.nil _ _ _, Keep.refl _ _⟩
  obtain ⟨a4, σ4, e4, i4⟩ := loop_all (K := evalK (EL L) N n) (E := EL L) (N := N) (c := out30) 0 (fun k => Out30 l x σ0.next σ0 (k + 1)) (Out30 l x σ0.next σ0 4) 3
    (fun k a σ hk hI => out30_step hN (Nat.le_refl _) hs hl (by omega) (by omega) hI)
    (fun a σ hI => by
      obtain ⟨hn, hd, g0, g4, hy, kp⟩ := hI
      simp only [out30, fAt, cAt, Tryz.f30]
      simp [code_region, code_seq, code_cond, code_exit, opsA, oneA, wantedA, opA, kindOf, readA, uponA, AFr.put, get_set, n_set, opd, cmp_leq, ex2, hn, g4]
      exact ⟨by simp [n_set, hn], by simp [df_set, hd], by simp [get_set, g0], by simp [get_set, g4], by simpa [get_set] using hy, kp⟩) (by omega) i3
  have n4 := i4.n
  obtain ⟨a5, e5, d5, k2⟩ : ∃ a5, codeA (evalK (EL L) N n) (EL L) N none (fAt Tryz.f30 [1, 1, 1]) a4 σ4 = some (.ret, a5, σ4) ∧ a5.df = [] ∧ a5.get 2 = a4.get 3 := by
    simp only [fAt, cAt, Tryz.f30]
    simp [code_region, code_seq, code_ret, opsA, oneA, wantedA, opA, kindOf, readA, uponA, AFr.put, get_set, n_set, df_set, opd, n4, i4.d]
  exact ⟨a4.get 3, σ4, call_ret hfn (show Tryz.f30.body = some (fAt Tryz.f30 []) from rfl) (by rw [hfr]; exact seq_n e1 (seq_n e2 (seq_n (seq_n e3 e4) e5))) d5 (by simp [resultA, resultsA, Tryz.f30, k2]), i4.y, i4.kp⟩
end Go.Proofs.YtfmbpdacdopkgaaGreatDoor
