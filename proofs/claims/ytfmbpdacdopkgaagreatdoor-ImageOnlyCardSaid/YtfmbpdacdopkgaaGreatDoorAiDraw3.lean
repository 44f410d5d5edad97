/- The abstract interpreter: regions of open order are sound. Conditions: the environment tells the truth of the program. -/
import Derived.Test.YtfmbpdacdopkgaaGreatDoorAiDraw2
namespace Go.Ai
open Go.RowKit (Below)

def InS (listed : Array Bool) (x : Nat) : Prop := listed.getD x false = true

theorem inS_set {listed : Array Bool} {i : Nat} (hi : i < listed.size) (x : Nat) : InS (listed.setIfInBounds i true) x ↔ x = i ∨ InS listed x := by
  unfold InS
  simp only [Array.getD_eq_getD_getElem?, Array.getElem?_setIfInBounds]
  by_cases h : i = x
  · subst h; simp [hi]
  · simp [h, Ne.symm h]

/-- What is where, when a part of a region has been done. -/
def GS (σ0 : St) (listed : Array Bool) (R B : List TStep) (o : Nat) (y : AObj) : Prop := (topS σ0 B).get o = some y ∨ ∃ s ∈ R, InS listed s.d.i ∧ s.makes y ∧ s.σ.next = o

structure HInv (w0 : World) (σ0 : St) (ρ0 : Asg) (ws : World) (listed : Array Bool) (ρ : Asg) (R B : List TStep) (w : World) : Prop where
  fam : ∀ n, (topS σ0 B).next ≤ n → InvR w0 (cut ρ n) (fun o y => o < n ∧ GS σ0 listed R B o y) n w
  dom : ∀ o k Lc, ρ o k = some Lc → o < (topS σ0 B).next ∨ ∃ s ∈ R, InS listed s.d.i ∧ (∃ y, s.makes y) ∧ s.σ.next = o
  bound : ∀ o y, (topS σ0 B).get o = some y → o < (topS σ0 B).next
  ext : Ext ρ0 ρ
  size : ws.heap.size ≤ w.heap.size
  old : ∀ o, o < σ0.next → σ0.get o = none → (topS σ0 B).get o = none
  frame : ∀ b, b < ws.heap.size → ¬ Touch ρ0 σ0 b → w.heap[b]? = ws.heap[b]?
  locs : ∀ o k Lc, ρ o k = some Lc → ρ0 o k = some Lc ∨ ws.heap.size ≤ Lc.blk ∨ Touch ρ0 σ0 Lc.blk

structure TInv (w0 : World) (a0 : AFr) (ρ0 : Asg) (c0 : Act) (L : List TStep) (listed : Array Bool) (ρ : Asg) (c : Act) : Prop where
  size : c.tmps.size = a0.n
  done : ∀ t, ∀ s ∈ L, InS listed s.d.i → s.d.o.dst = some t → VRel w0 (cut ρ s.σ'.next) (s.a'.get t) (c.tmps.getD t undef)
  rest : ∀ t, (∀ s ∈ L, InS listed s.d.i → s.d.o.dst ≠ some t) → VRel w0 ρ0 (a0.get t) (c.tmps.getD t undef)
  df : c.defers = c0.defers

structure LInv (ops : Array Oper) (all : List DOp) (L : List TStep) (listed : Array Bool) (R B : List TStep) : Prop where
  size : listed.size = ops.size
  split : L = R ++ B
  base : Base B
  inB : ∀ s ∈ B, InS listed s.d.i
  notR : ∀ s ∈ R, s.isW = true → ¬ InS listed s.d.i
  closed : ∀ d ∈ all, InS listed d.i → ∀ x, d.bef.testBit x = true → InS listed x
  only : ∀ d ∈ all, InS listed d.i → ∃ s ∈ L, s.d = d

section
variable {K : Kont} {E : Env} {ops : Array Oper} {all : List DOp} {a0 : AFr} {σ0 : St} {w0 : World} {ρ0 ρ : Asg} {ws w : World} {c0 c : Act} {L : List TStep} {listed : Array Bool} {R B : List TStep} {aE : AFr} {σE : St}

/-- What an operation sees. -/
theorem TInv.frel (hdst : (all.filterMap (·.o.dst)).Nodup) (hrun : Run K E ops all a0 σ0 L aE σE) (hdom0 : ∀ o k Lc, ρ0 o k = some Lc → o < σ0.next) (hext : Ext ρ0 ρ) (hl : LInv ops all L listed R B) (ht : TInv w0 a0 ρ0 c0 L listed ρ c)
    {post pre : List TStep} {s : TStep} (hL : L = post ++ s :: pre) (hs : ¬ InS listed s.d.i) (hb : ∀ x, s.d.bef.testBit x = true → InS listed x) : FRel w0 (cut ρ s.σ.next) (dim s.d all s.a) c.tmps := by
  obtain ⟨hpre, hv⟩ := Run.at (hL ▸ hrun)
  have hsL : s ∈ L := by rw [hL]; simp
  have hpL : ∀ q ∈ pre, q ∈ L := fun q hq => by rw [hL]; simp [hq]
  refine ⟨by rw [(dim_n _ _ _).1, (Run.frame hpre).1]; exact ht.size, fun t => ?_⟩
  rcases dim_get s.d all s.a t with h | ⟨h, hu⟩
  · rw [h]; exact .top _
  · rw [h]
    by_cases hex : ∃ q ∈ L, InS listed q.d.i ∧ q.d.o.dst = some t
    · obtain ⟨q, hq, hqS, hqd⟩ := hex
      have hun := hu q.d (Run.inAll hrun q hq) hqd
      have hne : q.d.i ≠ s.d.i := fun e => hs (e ▸ hqS)
      have hqpre : q ∈ pre := by
        by_cases h1 : s.d.bef.testBit q.d.i = true
        · obtain ⟨q', hq', e⟩ := hv.bef _ h1
          rw [← Run.uniq hrun q' (hpL q' hq') q hq e]; exact hq'
        · by_cases h2 : q.d.bef.testBit s.d.i = true
          · exact absurd (hl.closed q.d (Run.inAll hrun q hq) hqS _ h2) hs
          · simp [unord, hne, h1, h2] at hun
      rw [(Run.get hdst hpre t).1 q hqpre hqd]
      exact (ht.done t q hq hqS hqd).mono (cut_mono (Ext.refl _) ((Run.mono hpre).2 q hqpre))
    · have hno : ∀ q ∈ L, InS listed q.d.i → q.d.o.dst ≠ some t := fun q hq hS e => hex ⟨q, hq, hS, e⟩
      have hpre0 : ∀ q ∈ pre, q.d.o.dst ≠ some t := fun q hq e => by
        have hqS : ¬ InS listed q.d.i := fun h => hno q (hpL q hq) h e
        have hun := hu q.d (Run.inAll hpre q hq) e
        have h1 : s.d.bef.testBit q.d.i = false := by
          cases hh : s.d.bef.testBit q.d.i with
          | false => rfl
          | true => exact absurd (hb _ hh) hqS
        have h2 : q.d.bef.testBit s.d.i = false := by
          cases hh : q.d.bef.testBit s.d.i with
          | false => rfl
          | true =>
            obtain ⟨po, pr, hpq⟩ := steps_mem hq
            obtain ⟨_, hvq⟩ := Run.at (hpq ▸ hpre)
            obtain ⟨q', hq', e'⟩ := hvq.bef _ hh
            exact absurd e' (hv.new q' (by rw [hpq]; simp [hq']))
        have h3 := hv.new q hq
        simp [unord, h1, h2, h3] at hun
      rw [(Run.get hdst hpre t).2 hpre0]
      refine (ht.rest t hno).mono fun o g Lc e => cut_some.2 ⟨?_, hext _ _ _ e⟩
      exact Nat.lt_of_lt_of_le (hdom0 _ _ _ e) (Run.mono hpre).1

theorem TInv.put (hdst : (all.filterMap (·.o.dst)).Nodup) (hrun : Run K E ops all a0 σ0 L aE σE) (ht : TInv w0 a0 ρ0 c0 L listed ρ c) {s : TStep} (hs : s ∈ L) (hsize : s.d.i < listed.size) {v : AV} {y : Value} {ρ' : Asg} {c' : Act}
    (hp : s.a.put s.d.o.dst v = some s.a') (hn : s.a.n = a0.n) (hv : VRel w0 (cut ρ' s.σ'.next) v y) (he : Ext ρ ρ') (hc : c'.tmps = (c.put s.d.o.dst y).tmps) (hd : c'.defers = c.defers) :
    TInv w0 a0 ρ0 c0 L (listed.setIfInBounds s.d.i true) ρ' c' := by
  have hget : ∀ t, s.d.o.dst ≠ some t → c'.tmps.getD t undef = c.tmps.getD t undef := fun t h => by
    rw [hc]
    cases hdd : s.d.o.dst with
    | none => rfl
    | some t' =>
      have htt : t' ≠ t := fun e => h (by rw [hdd, e])
      simp [Act.put, Array.getD_eq_getD_getElem?, htt]
  have hme : ∀ t, s.d.o.dst = some t → c'.tmps.getD t undef = y := fun t h => by
    have htn : t < s.a.n := by
      rw [h] at hp
      simp only [AFr.put] at hp
      split at hp
      · assumption
      · cases hp
    have : t < c.tmps.size := by rw [ht.size, ← hn]; exact htn
    rw [hc, h]
    simp [Act.put, Array.getD_eq_getD_getElem?, this]
  refine ⟨?_, fun t q hq hqS hqd => ?_, fun t h => ?_, hd.trans ht.df⟩
  · rw [hc, ← ht.size]; cases s.d.o.dst <;> simp [Act.put]
  · by_cases hqs : q = s
    · subst hqs
      rw [hme t hqd, (AFr.put_get hp t).1 hqd]
      exact hv
    · have hne : s.d.o.dst ≠ some t := fun e => hqs (by
        have := dst_inj hdst q.d (Run.inAll hrun q hq) s.d (Run.inAll hrun s hs) t hqd e
        exact Run.uniq hrun q hq s hs (by rw [this]))
      rw [hget t hne]
      have hqS' : InS listed q.d.i := ((inS_set hsize q.d.i).1 hqS).resolve_left fun e => hqs (Run.uniq hrun q hq s hs e)
      exact (ht.done t q hq hqS' hqd).mono (cut_mono he (Nat.le_refl _))
  · have hne : s.d.o.dst ≠ some t := h s hs ((inS_set hsize _).2 (.inl rfl))
    rw [hget t hne]
    exact ht.rest t fun q hq hS => h q hq ((inS_set hsize _).2 (.inr hS))

theorem LInv.quiet (hok : DopsOk ops all) (hrun : Run K E ops all a0 σ0 L aE σE) (hl : LInv ops all L listed R B) {s : TStep} (hs : s ∈ L) (hsize : s.d.i < listed.size) (hw : s.isW = false) (hb : ∀ x, s.d.bef.testBit x = true → InS listed x) :
    LInv ops all L (listed.setIfInBounds s.d.i true) R B := by
  refine ⟨by simp [hl.size], hl.split, hl.base, fun q hq => (inS_set hsize _).2 (.inr (hl.inB q hq)), fun q hq hqw hS => ?_, fun d hd hS x hx => ?_, fun d hd hS => ?_⟩
  · rcases (inS_set hsize _).1 hS with e | e
    · have := Run.uniq hrun q (by rw [hl.split]; simp [hq]) s hs e
      rw [this, hw] at hqw; cases hqw
    · exact hl.notR q hq hqw e
  · rcases (inS_set hsize _).1 hS with e | e
    · have := hok.uniq d hd s.d (Run.inAll hrun s hs) e
      rw [this] at hx
      exact (inS_set hsize _).2 (.inr (hb x hx))
    · exact (inS_set hsize _).2 (.inr (hl.closed d hd e x hx))
  · rcases (inS_set hsize _).1 hS with e | e
    · exact ⟨s, hs, (hok.uniq d hd s.d (Run.inAll hrun s hs) e).symm⟩
    · exact hl.only d hd e

/-- The state before an operation, when all that came before it is done. -/
theorem HInv.gs (hh : HInv w0 σ0 ρ0 ws listed ρ R B w) (hl : LInv ops all L listed R B) {R2 R1 : List TStep} {a : AFr} {σ : St} (hR : R = R2 ++ R1) (hrun : Run K E ops all a0 σ0 (R1 ++ B) a σ) (hin : ∀ q ∈ R1, InS listed q.d.i) :
    ∀ o y, σ.get o = some y → o < σ.next ∧ GS σ0 listed R B o y := by
  intro o y e
  have hw : ∀ q ∈ R1, q.isW = false := fun q hq => by
    cases h : q.isW with
    | false => rfl
    | true => exact absurd (hin q hq) (hl.notR q (by rw [hR]; simp [hq]) h)
  rcases Run.objs hrun hw o y e with h | ⟨q, hq, hm, hid⟩
  · exact ⟨Nat.lt_of_lt_of_le (hh.bound _ _ h) (Run.next hrun).1, .inl h⟩
  · refine ⟨?_, .inr ⟨q, by rw [hR]; simp [hq], hin q hq, hm, hid⟩⟩
    obtain ⟨po, pr, hpq⟩ := steps_mem (L := R1 ++ B) (s := q) (by simp [hq])
    have hmn := Run.made_next (Run.at (hpq ▸ hrun)).2 hm
    have h2 := ((Run.next hrun).2 q hq).2
    rw [hmn] at h2
    have : q.σ.next + 1 ≤ σ.next := h2
    omega

theorem HInv.step (hI0 : Inv w0 ρ0 σ0 ws) (hh : HInv w0 σ0 ρ0 ws listed ρ R B w) (hl : LInv ops all L listed R B) {R2 R1 : List TStep} {a : AFr} {σ : St} (hR : R = R2 ++ R1) (hrun : Run K E ops all a0 σ0 (R1 ++ B) a σ) (hin : ∀ q ∈ R1, InS listed q.d.i) :
    Step w0 ρ0 σ0 ws (cut ρ σ.next) σ w := by
  have hgs := hh.gs hl hR hrun hin
  have hn := Run.next hrun
  refine ⟨fun o g Lc e => cut_some.2 ⟨Nat.lt_of_lt_of_le (hI0.dom e) (Run.mono hrun).1, hh.ext _ _ _ e⟩, (hh.fam σ.next hn.1).inv rfl hgs, hh.size, (Run.mono hrun).1, fun o ho e => ?_, hh.frame, fun o k Lc e => hh.locs o k Lc (cut_some.1 e).2⟩
  cases hg : σ.get o with
  | none => rfl
  | some y =>
    rcases (hgs o y hg).2 with h | ⟨q, hq, _, _, hid⟩
    · rw [hh.old o ho e] at h; cases h
    · obtain ⟨po, pr, hpq⟩ := steps_mem hq
      have hw : ∀ q ∈ R1, q.isW = false := fun q hq => by
        cases h : q.isW with
        | false => rfl
        | true => exact absurd (hin q hq) (hl.notR q (by rw [hR]; simp [hq]) h)
      rcases Run.objs hrun hw o y hg with h | ⟨q', hq', _, hid'⟩
      · rw [hh.old o ho e] at h; cases h
      · have h1 := (hn.2 q' hq').1
        have h2 : σ0.next ≤ (topS σ0 B).next := by
          obtain ⟨_, _, hB⟩ := Run.drop hrun
          rw [Run.top hB]; exact (Run.mono hB).1
        omega

/-- An operation that makes nothing. -/
theorem HInv.quiet (hrun : Run K E ops all a0 σ0 L aE σE) (hh : HInv w0 σ0 ρ0 ws listed ρ R B w) (hl : LInv ops all L listed R B) {s : TStep} (hs : s ∈ L) (hsize : s.d.i < listed.size) (hm : ∀ y, ¬ s.makes y) :
    HInv w0 σ0 ρ0 ws (listed.setIfInBounds s.d.i true) ρ R B w := by
  refine ⟨fun n hn => (hh.fam n hn).sub fun o y h => ⟨h.1, h.2.imp id fun ⟨q, h1, h2, h3, h4⟩ => ⟨q, h1, ?_, h3, h4⟩⟩, fun o k Lc e => (hh.dom o k Lc e).imp id fun ⟨q, h1, h2, h3⟩ => ⟨q, h1, (inS_set hsize _).2 (.inr h2), h3⟩,
    hh.bound, hh.ext, hh.size, hh.old, hh.frame, hh.locs⟩
  refine ((inS_set hsize _).1 h2).resolve_left fun e => hm y ?_
  rw [← Run.uniq hrun q (by rw [hl.split]; simp [h1]) s hs e]; exact h3

/-- An operation that makes an object. -/
theorem HInv.made (hrun : Run K E ops all a0 σ0 L aE σE) (hh : HInv w0 σ0 ρ0 ws listed ρ R B w) (hl : LInv ops all L listed R B) {R2 R1 : List TStep} {s : TStep} (hR : R = R2 ++ s :: R1) (hsize : s.d.i < listed.size) (hnS : ¬ InS listed s.d.i)
    {x : AObj} {f : Nat → AV} (hout : s.out = .made x f) {obj : Obj} {wd : World} {Lc : Loc} (hwd : wd = w ∨ wd = w.drew) (hblk : Lc.blk = w.heap.size) (hg : ∀ cs g m, x = .cells cs g m → g = 0)
    (hx : ORel w0 (upd (cut ρ s.σ.next) s.σ.next 0 Lc) (wd.alloc obj) s.σ.next x) :
    Ext ρ (upd ρ s.σ.next 0 Lc) ∧ Ext (upd (cut ρ s.σ.next) s.σ.next 0 Lc) (cut (upd ρ s.σ.next 0 Lc) s.σ'.next) ∧ HInv w0 σ0 ρ0 ws (listed.setIfInBounds s.d.i true) (upd ρ s.σ.next 0 Lc) R B (wd.alloc obj) := by
  have hLs : L = R2 ++ s :: (R1 ++ B) := by rw [hl.split, hR]; simp
  obtain ⟨hpre, hv⟩ := Run.at (hLs ▸ hrun)
  have hsL : s ∈ L := by rw [hLs]; simp
  have hσ' : s.σ' = s.σ.add x := Run.made_next hv ⟨f, hout⟩
  have hn' : s.σ'.next = s.σ.next + 1 := by rw [hσ']; rfl
  have hpn := Run.next hpre
  have hnew : ∀ q ∈ R2, s.σ'.next ≤ q.σ.next := fun q hq => by
    have := Run.next (R := R2) (B := s :: (R1 ++ B)) (hLs ▸ hrun)
    exact (this.2 q hq).1
  have hold : ∀ q ∈ R1, (∃ y, q.makes y) → q.σ.next < s.σ.next := fun q hq ⟨y, hm⟩ => by
    obtain ⟨po, pr, hpq⟩ := steps_mem (L := R1 ++ B) (s := q) (by simp [hq])
    have hmn := Run.made_next (Run.at (hpq ▸ hpre)).2 hm
    have h2 := (hpn.2 q hq).2
    rw [hmn] at h2
    exact h2
  have hidne : ∀ q ∈ R, InS listed q.d.i → (∃ y, q.makes y) → q.σ.next ≠ s.σ.next := fun q hq hS hm => by
    rw [hR] at hq
    rcases List.mem_append.1 hq with h | h
    · have := hnew q h; omega
    · rcases List.mem_cons.1 h with h | h
      · subst h; exact absurd hS hnS
      · have := hold q h hm; omega
  have hno : ∀ k, ρ s.σ.next k = none := fun k => by
    cases hk : ρ s.σ.next k with
    | none => rfl
    | some L' =>
      rcases hh.dom _ _ _ hk with h | ⟨q, hq, hS, hm, hid⟩
      · omega
      · exact absurd hid (hidne q hq hS hm)
  have hGne : ∀ o y, GS σ0 listed R B o y → o ≠ s.σ.next := fun o y h e => by
    rcases h with h | ⟨q, hq, hS, hm, hid⟩
    · have := hh.bound _ _ h; omega
    · exact hidne q hq hS ⟨y, hm⟩ (hid.trans e)
  have hG' : ∀ o y, GS σ0 (listed.setIfInBounds s.d.i true) R B o y → GS σ0 listed R B o y ∨ (o = s.σ.next ∧ y = x) := fun o y h => by
    rcases h with h | ⟨q, hq, hS, hm, hid⟩
    · exact .inl (.inl h)
    · rcases (inS_set hsize _).1 hS with e | e
      · have := Run.uniq hrun q (by rw [hl.split]; simp [hq]) s hsL e
        subst this
        obtain ⟨f', hf'⟩ := hm
        rw [hout] at hf'; cases hf'
        exact .inr ⟨hid.symm, rfl⟩
      · exact .inl (.inr ⟨q, hq, e, hm, hid⟩)
  have he : Ext ρ (upd ρ s.σ.next 0 Lc) := upd_ext (hno 0)
  have hwdh : wd.heap = w.heap := by rcases hwd with rfl | rfl <;> rfl
  have hcutup : ∀ n, s.σ.next < n → Ext (upd (cut ρ s.σ.next) s.σ.next 0 Lc) (cut (upd ρ s.σ.next 0 Lc) n) := fun n hn o k L' e => by
    rcases upd_cases e with ⟨rfl, rfl, rfl⟩ | e
    · exact cut_some.2 ⟨hn, upd_same _ _ _ _⟩
    · obtain ⟨h1, h2⟩ := cut_some.1 e
      exact cut_some.2 ⟨by omega, he _ _ _ h2⟩
  refine ⟨he, hcutup _ (by omega), ?_, ?_, hh.bound, hh.ext.trans he, ?_, hh.old, ?_, ?_⟩
  · intro n hn
    have F := hh.fam n hn
    have hbel : Below w0.heap.size w0 wd := by rcases hwd with rfl | rfl; exact F.below; exact F.below.drew
    have Fw : InvR w0 (cut ρ n) (fun o y => o < n ∧ GS σ0 listed R B o y) n (wd.alloc obj) :=
      F.heap (hbel.alloc hbel.size obj) (by simp [hwdh]) fun b hb => by rw [alloc_get wd obj (by rw [hwdh]; exact hb), hwdh]
    by_cases hns : n ≤ s.σ.next
    · have hcut : cut (upd ρ s.σ.next 0 Lc) n = cut ρ n := by
        funext o k
        unfold cut
        by_cases ho : o < n
        · simp only [ho, if_true]; exact upd_ne (by omega)
        · simp [ho]
      rw [hcut]
      refine Fw.sub fun o y h => ⟨h.1, (hG' o y h.2).resolve_right fun e => ?_⟩
      omega
    · have hns : s.σ.next < n := by omega
      have hsame : ∀ o k, o ≠ s.σ.next → cut (upd ρ s.σ.next 0 Lc) n o k = cut ρ n o k := fun o k ho => by
        unfold cut
        split
        · exact upd_ne (fun e => ho e.1)
        · rfl
      refine ⟨Fw.below, fun o y h => ?_, fun o cs g m h k hk => ?_, fun o o' y y' k k' L₁ L₂ h h' e e' hb => ?_, fun o ho => ⟨fun y h => by omega, fun k => ?_⟩, fun o k L' e => ?_, fun o k L' e => ?_⟩
      · rcases hG' o y h.2 with k | ⟨rfl, rfl⟩
        · exact (Fw.objs o y ⟨h.1, k⟩).keep (cut_mono he (Nat.le_refl _)) fun _ _ _ => rfl
        · exact hx.keep (hcutup n hns) fun _ _ _ => rfl
      · rcases hG' o _ h.2 with j | ⟨rfl, hxe⟩
        · rw [hsame o k (hGne o _ j)]; exact Fw.gen o cs g m ⟨h.1, j⟩ k hk
        · have := hg cs g m hxe.symm
          cases hc : cut (upd ρ s.σ.next 0 Lc) n s.σ.next k with
          | none => rfl
          | some L' =>
            have := (cut_some.1 hc).2
            rw [upd_ne (by omega), hno k] at this; cases this
      · rcases hG' o _ h.2 with j | ⟨rfl, rfl⟩ <;> rcases hG' o' _ h'.2 with j' | ⟨rfl, rfl⟩
        · rw [hsame o k (hGne o _ j)] at e
          rw [hsame o' k' (hGne o' _ j')] at e'
          exact Fw.disj o o' y y' k k' L₁ L₂ ⟨h.1, j⟩ ⟨h'.1, j'⟩ e e' hb
        · rw [hsame o k (hGne o _ j)] at e
          have hb1 := F.bnd _ _ _ e
          rcases upd_cases (cut_some.1 e').2 with ⟨_, _, rfl⟩ | e'
          · omega
          · rw [hno k'] at e'; cases e'
        · rw [hsame o' k' (hGne o' _ j')] at e'
          have hb1 := F.bnd _ _ _ e'
          rcases upd_cases (cut_some.1 e).2 with ⟨_, _, rfl⟩ | e
          · omega
          · rw [hno k] at e; cases e
        · rfl
      · cases hc : cut (upd ρ s.σ.next 0 Lc) n o k with
        | none => rfl
        | some L' => have := (cut_some.1 hc).1; omega
      · rcases upd_cases (cut_some.1 e).2 with ⟨_, _, rfl⟩ | e'
        · rw [hblk]; simp [hwdh]
        · have := F.bnd o k L' (cut_some.2 ⟨(cut_some.1 e).1, e'⟩); simp [hwdh]; omega
      · rcases upd_cases (cut_some.1 e).2 with ⟨_, _, rfl⟩ | e'
        · rw [hblk]; exact F.below.size
        · exact F.own o k L' (cut_some.2 ⟨(cut_some.1 e).1, e'⟩)
  · intro o k L' e
    rcases upd_cases e with ⟨rfl, _, _⟩ | e
    · exact .inr ⟨s, by rw [hR]; simp, (inS_set hsize _).2 (.inl rfl), ⟨x, f, hout⟩, rfl⟩
    · exact (hh.dom o k L' e).imp id fun ⟨q, h1, h2, h3⟩ => ⟨q, h1, (inS_set hsize _).2 (.inr h2), h3⟩
  · have := hh.size; simp [hwdh]; omega
  · intro b hb ht
    have := hh.size
    rw [alloc_get wd obj (by rw [hwdh]; omega), hwdh]; exact hh.frame b hb ht
  · intro o k L' e
    rcases upd_cases e with ⟨_, _, rfl⟩ | e
    · right; left; rw [hblk]; exact hh.size
    · exact hh.locs o k L' e

/-- An operation that writes. -/
theorem HInv.wrote (hI0 : Inv w0 ρ0 σ0 ws) (hrun : Run K E ops all a0 σ0 L aE σE) (hh : HInv w0 σ0 ρ0 ws listed ρ R B w) (hl : LInv ops all L listed R B) {R2 R1 : List TStep} {s : TStep} (hR : R = R2 ++ s :: R1) (hsize : s.d.i < listed.size)
    (hw : s.isW = true) (hin : ∀ q ∈ R1, InS listed q.d.i) {ρ₂ : Asg} {w₂ : World} (hst : Step w0 (cut ρ s.σ.next) s.σ w ρ₂ s.σ' w₂) :
    ∃ ρ', Ext ρ ρ' ∧ Ext ρ₂ (cut ρ' s.σ'.next) ∧ HInv w0 σ0 ρ0 ws (listed.setIfInBounds s.d.i true) ρ' R2 (s :: (R1 ++ B)) w₂ := by
  have hLs : L = R2 ++ s :: (R1 ++ B) := by rw [hl.split, hR]; simp
  obtain ⟨hpre, hv⟩ := Run.at (hLs ▸ hrun)
  have hsL : s ∈ L := by rw [hLs]; simp
  have hR' : R = (R2 ++ [s]) ++ R1 := by rw [hR]; simp
  have hgs := hh.gs hl hR' hpre hin
  have tot := (hh.step hI0 hl hR' hpre hin).trans hI0 hst
  have hpn := Run.next hpre
  have hnx := hv.next
  have hmk : ∀ y, ¬ s.makes y := fun y ⟨f, e⟩ => by simp [TStep.isW, e] at hw
  have hnew : ∀ q ∈ R2, s.σ'.next ≤ q.σ.next := fun q hq => by
    have := Run.next (R := R2) (B := s :: (R1 ++ B)) (hLs ▸ hrun)
    exact (this.2 q hq).1
  have hold : ∀ q ∈ R1, (∃ y, q.makes y) → q.σ.next < s.σ.next := fun q hq ⟨y, hm⟩ => by
    obtain ⟨po, pr, hpq⟩ := steps_mem (L := R1 ++ B) (s := q) (by simp [hq])
    have hmn := Run.made_next (Run.at (hpq ▸ hpre)).2 hm
    have h2 := (hpn.2 q hq).2
    rw [hmn] at h2
    exact h2
  have hwhere : ∀ q ∈ R, (∃ y, q.makes y) → q ∈ R2 ∨ q.σ.next < s.σ.next := fun q hq hm => by
    rw [hR] at hq
    rcases List.mem_append.1 hq with h | h
    · exact .inl h
    · rcases List.mem_cons.1 h with h | h
      · subst h; obtain ⟨y, hy⟩ := hm; exact absurd hy (hmk y)
      · exact .inr (hold q h hm)
  have hE : Ext ρ (fun o g => if o < s.σ'.next then ρ₂ o g else ρ o g) := fun o g Lc e => by
    show (if o < s.σ'.next then ρ₂ o g else ρ o g) = some Lc
    by_cases ho : o < s.σ'.next
    · rw [if_pos ho]
      have hlt : o < s.σ.next := by
        rcases hh.dom _ _ _ e with h | ⟨q, hq, hS, hm, hid⟩
        · omega
        · rcases hwhere q hq hm with h | h
          · have := hnew q h; omega
          · omega
      exact hst.ext _ _ _ (cut_some.2 ⟨hlt, e⟩)
    · rw [if_neg ho]; exact e
  refine ⟨fun o g => if o < s.σ'.next then ρ₂ o g else ρ o g, hE, fun o g Lc e => cut_some.2 ?_, ?_⟩
  · have := hst.inv.dom e; exact ⟨this, by rw [if_pos this]; exact e⟩
  · have hcl : ∀ n o g, s.σ'.next ≤ n → o < s.σ'.next → cut (fun o g => if o < s.σ'.next then ρ₂ o g else ρ o g) n o g = ρ₂ o g := fun n o g hn ho => by
      simp only [cut]; rw [if_pos (by omega), if_pos ho]
    have hch : ∀ n o g, s.σ'.next ≤ o → cut (fun o g => if o < s.σ'.next then ρ₂ o g else ρ o g) n o g = cut ρ n o g := fun n o g ho => by
      simp only [cut]
      split
      · rw [if_neg (by omega)]
      · rfl
    have hsplit : ∀ o y, GS σ0 (listed.setIfInBounds s.d.i true) R2 (s :: (R1 ++ B)) o y → (o < s.σ'.next ∧ s.σ'.get o = some y) ∨ (s.σ'.next ≤ o ∧ GS σ0 listed R B o y) := fun o y h => by
      rcases h with h | ⟨q, hq, hS, hm, hid⟩
      · exact .inl ⟨hst.inv.has h, h⟩
      · refine .inr ⟨by have := hnew q hq; omega, .inr ⟨q, by rw [hR]; simp [hq], ((inS_set hsize _).1 hS).resolve_left fun e => ?_, hm, hid⟩⟩
        have := Run.uniq hrun q (by rw [hLs]; simp [hq]) s hsL e
        subst this
        exact hmk y hm
    refine ⟨fun n hn => ?_, fun o k Lc e => ?_, fun o y e => hst.inv.has e, hh.ext.trans hE, tot.size, tot.old, tot.frame, fun o k Lc e => ?_⟩
    · have hn : s.σ'.next ≤ n := hn
      have F := hh.fam n (by omega)
      have htouch : ∀ o y k Lc, s.σ'.next ≤ o → o < n ∧ GS σ0 listed R B o y → cut ρ n o k = some Lc → ¬ Touch (cut ρ s.σ.next) s.σ Lc.blk := fun o y k Lc ho hG e ⟨o₁, x₁, k₁, L₁, h1, h2, h3⟩ => by
        have g1 := hgs o₁ x₁ h1
        have := F.disj o₁ o x₁ y k₁ k L₁ Lc ⟨by omega, g1.2⟩ hG (cut_mono (Ext.refl _) (by omega) _ _ _ h2) e h3
        omega
      have hmixed : ∀ o y k L₁ o' y' k' L₂, o < s.σ'.next → s.σ'.get o = some y → s.σ'.next ≤ o' → (o' < n ∧ GS σ0 listed R B o' y') → ρ₂ o k = some L₁ → cut ρ n o' k' = some L₂ → L₁.blk ≠ L₂.blk :=
        fun o y k L₁ o' y' k' L₂ ho hy ho' hG e e' hb => by
          rcases hst.locs o k L₁ e with h | h | h
          · have hlt := (cut_some.1 h).1
            cases hg : s.σ.get o with
            | none => have := hst.old o hlt hg; rw [hy] at this; cases this
            | some x => exact htouch o' y' k' L₂ ho' hG e' ⟨o, x, k, L₁, hg, h, hb⟩
          · have := F.bnd _ _ _ e'; omega
          · rw [hb] at h; exact htouch o' y' k' L₂ ho' hG e' h
      refine ⟨hst.inv.below, fun o y h => ?_, fun o cs g m h k hk => ?_, fun o o' y y' k k' L₁ L₂ h h' e e' hb => ?_, fun o ho => ⟨fun y h => by omega, fun k => ?_⟩, fun o k Lc e => ?_, fun o k Lc e => ?_⟩
      · rcases hsplit o y h.2 with ⟨ho, j⟩ | ⟨ho, j⟩
        · refine (hst.inv.objs o y j).keep (fun o₁ g₁ L₁ e₁ => ?_) fun _ _ _ => rfl
          rw [hcl n o₁ g₁ hn (hst.inv.dom e₁)]; exact e₁
        · exact (F.objs o y ⟨h.1, j⟩).keep (cut_mono hE (Nat.le_refl _)) fun k Lc e => hst.frame _ (F.bnd _ _ _ e) (htouch o y k Lc ho ⟨h.1, j⟩ e)
      · rcases hsplit o _ h.2 with ⟨ho, j⟩ | ⟨ho, j⟩
        · rw [hcl n o k hn ho]; exact hst.inv.gen o cs g m j k hk
        · rw [hch n o k ho]; exact F.gen o cs g m ⟨h.1, j⟩ k hk
      · rcases hsplit o _ h.2 with ⟨ho, j⟩ | ⟨ho, j⟩ <;> rcases hsplit o' _ h'.2 with ⟨ho', j'⟩ | ⟨ho', j'⟩
        · rw [hcl n o k hn ho] at e
          rw [hcl n o' k' hn ho'] at e'
          exact hst.inv.disj o o' y y' k k' L₁ L₂ j j' e e' hb
        · rw [hcl n o k hn ho] at e
          rw [hch n o' k' ho'] at e'
          exact absurd hb (hmixed o y k L₁ o' y' k' L₂ ho j ho' ⟨h'.1, j'⟩ e e')
        · rw [hch n o k ho] at e
          rw [hcl n o' k' hn ho'] at e'
          exact absurd hb.symm (hmixed o' y' k' L₂ o y k L₁ ho' j' ho ⟨h.1, j⟩ e' e)
        · rw [hch n o k ho] at e
          rw [hch n o' k' ho'] at e'
          exact F.disj o o' y y' k k' L₁ L₂ ⟨h.1, j⟩ ⟨h'.1, j'⟩ e e' hb
      · unfold cut; rw [if_neg (by omega)]
      · by_cases ho : o < s.σ'.next
        · rw [hcl n o k hn ho] at e; exact hst.inv.bnd _ _ _ e
        · rw [hch n o k (by omega)] at e; exact Nat.lt_of_lt_of_le (F.bnd _ _ _ e) hst.size
      · by_cases ho : o < s.σ'.next
        · rw [hcl n o k hn ho] at e; exact hst.inv.own _ _ _ e
        · rw [hch n o k (by omega)] at e; exact F.own _ _ _ e
    · by_cases ho : o < s.σ'.next
      · exact .inl ho
      · right
        have e : (if o < s.σ'.next then ρ₂ o k else ρ o k) = some Lc := e
        rw [if_neg ho] at e
        rcases hh.dom _ _ _ e with h | ⟨q, hq, hS, hm, hid⟩
        · omega
        · rcases hwhere q hq hm with h | h
          · exact ⟨q, h, (inS_set hsize _).2 (.inr hS), hm, hid⟩
          · omega
    · have e : (if o < s.σ'.next then ρ₂ o k else ρ o k) = some Lc := e
      by_cases ho : o < s.σ'.next
      · rw [if_pos ho] at e; exact tot.locs o k Lc e
      · rw [if_neg ho] at e; exact hh.locs o k Lc e

end
end Go.Ai
