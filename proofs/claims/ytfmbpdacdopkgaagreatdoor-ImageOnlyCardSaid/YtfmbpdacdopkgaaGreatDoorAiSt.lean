/- The abstract interpreter: states against worlds. Conditions: none. -/
import Derived.Test.YtfmbpdacdopkgaaGreatDoorAiRel
namespace Go.Ai
open Go.RowKit (Below)

section
variable (w0 : World)

/-- An activation's temporaries. -/
def FRel (ρ : Asg) (a : AFr) (tmps : Array Value) : Prop := tmps.size = a.n ∧ ∀ t, VRel w0 ρ (a.get t) (tmps.getD t undef)

def DRel1 (ρ : Asg) : ADef → Deferred → Prop
  | .call f args, d => ∃ cap dargs : Array Value, d = ⟨.fn (.func f) cap, dargs⟩ ∧ VRels w0 ρ args (dargs ++ cap).toList
  | .mark o, d => ∃ L : Loc, ρ o 0 = some L ∧ d = ⟨.collected L.blk, #[]⟩

inductive DRel (ρ : Asg) : List ADef → List Deferred → Prop
  | nil : DRel ρ [] []
  | cons {x : ADef} {y : Deferred} {xs : List ADef} {ys : List Deferred} (h : DRel1 w0 ρ x y) (hs : DRel ρ xs ys) : DRel ρ (x :: xs) (y :: ys)

structure ARel (ρ : Asg) (a : AFr) (c : Act) : Prop where
  tm : FRel w0 ρ a c.tmps
  df : DRel w0 ρ a.df c.defers

/-- The cells of an object, in a block. -/
def CellsAt (ρ : Asg) (w : World) (L : Loc) (cs : List AV) : Prop :=
  ∃ (c : Array Value) (t : TypeId) (fz : Nat × Nat), w.heap[L.blk]? = some (.cells c t fz) ∧ L.base + L.lim ≤ c.size ∧ L.size ≤ L.lim ∧
    (∀ off, off < c.size → ¬ (fz.1 ≤ off ∧ off < fz.2)) ∧ ∀ i, i < L.size → ∃ y, c[L.base + i]? = some y ∧ VRel w0 ρ (cs.getD i .top) y

inductive EntRel (ρ : Asg) : List AEntry → List MapEntry → Prop
  | nil : EntRel ρ [] []
  | cons {x : AEntry} {y : MapEntry} {xs : List AEntry} {ys : List MapEntry} (hk : y.key = x.key) (hb : y.born = x.born) (h : VRel w0 ρ x.val y.val) (hs : EntRel ρ xs ys) :
      EntRel ρ (x :: xs) (y :: ys)

def ORel (ρ : Asg) (w : World) (o : Nat) : AObj → Prop
  | .cells cs g m => m ≤ g ∧ (∀ k, m ≤ k → k ≤ g → ∃ L, ρ o k = some L ∧ L.size ≤ cs.length ∧ (k = g → L.size = cs.length) ∧ CellsAt w0 ρ w L cs) ∧
      ∀ k L L', m ≤ k → k ≤ g → ρ o k = some L → ρ o g = some L' → L.blk = L'.blk → L.base = L'.base
  | .map es clock => ∃ L ents, ρ o 0 = some L ∧ w.heap[L.blk]? = some (.map ents clock) ∧ EntRel w0 ρ es ents.toList
  | .loop l => ∃ (L : Loc) (r : Loop), ρ o 0 = some L ∧ w.heap[L.blk]? = some (.loop r) ∧ r.state = l.state ∧ r.pending = l.pending ∧ r.params.toList = l.params ∧ r.assign = l.assign ∧
      r.body = l.body ∧ FRel w0 ρ l.tm r.tmps ∧ ∃ D : Loc, ρ l.dfr 0 = some D ∧ r.defers = D.blk
  | .dfr b => ∃ L, ρ o 0 = some L ∧ w.heap[L.blk]? = some (.deferred (if b then none else some []))

structure Inv (ρ : Asg) (σ : St) (w : World) : Prop where
  below : Below w0.heap.size w0 w
  objs : ∀ o x, σ.get o = some x → ORel w0 ρ w o x
  gen : ∀ o cs g m, σ.get o = some (.cells cs g m) → ∀ k, g < k → ρ o k = none
  disj : ∀ o o' x x' k k' L L', σ.get o = some x → σ.get o' = some x' → ρ o k = some L → ρ o' k' = some L' → L.blk = L'.blk → o = o'
  fresh : ∀ o, σ.next ≤ o → σ.get o = none ∧ ∀ k, ρ o k = none
  bnd : ∀ o k L, ρ o k = some L → L.blk < w.heap.size
  own : ∀ o k L, ρ o k = some L → w0.heap.size ≤ L.blk

end

/-- A block of a live object. -/
def Touch (ρ : Asg) (σ : St) (b : Nat) : Prop := ∃ o x k L, σ.get o = some x ∧ ρ o k = some L ∧ L.blk = b

structure Step (w0 : World) (ρ : Asg) (σ : St) (w : World) (ρ' : Asg) (σ' : St) (w' : World) : Prop where
  ext : Ext ρ ρ'
  inv : Inv w0 ρ' σ' w'
  size : w.heap.size ≤ w'.heap.size
  next : σ.next ≤ σ'.next
  old : ∀ o, o < σ.next → σ.get o = none → σ'.get o = none
  frame : ∀ b, b < w.heap.size → ¬ Touch ρ σ b → w'.heap[b]? = w.heap[b]?
  locs : ∀ o k L, ρ' o k = some L → ρ o k = some L ∨ w.heap.size ≤ L.blk ∨ Touch ρ σ L.blk

section
variable {w0 : World} {ρ ρ' : Asg} {σ σ' : St} {w w' : World}

theorem FRel.mono (he : Ext ρ ρ') {a : AFr} {t : Array Value} (h : FRel w0 ρ a t) : FRel w0 ρ' a t := ⟨h.1, fun t => (h.2 t).mono he⟩
theorem DRel1.mono (he : Ext ρ ρ') {x : ADef} {y : Deferred} (h : DRel1 w0 ρ x y) : DRel1 w0 ρ' x y := by
  cases x with
  | call f args => obtain ⟨c, d, e, r⟩ := h; exact ⟨c, d, e, r.mono he⟩
  | mark o => obtain ⟨L, e, r⟩ := h; exact ⟨L, he _ _ _ e, r⟩
theorem DRel.mono (he : Ext ρ ρ') {x : List ADef} {y : List Deferred} (h : DRel w0 ρ x y) : DRel w0 ρ' x y := by
  induction h with
  | nil => exact .nil
  | cons h _ ih => exact .cons (h.mono he) ih
theorem ARel.mono (he : Ext ρ ρ') {a : AFr} {c : Act} (h : ARel w0 ρ a c) : ARel w0 ρ' a c := ⟨h.tm.mono he, h.df.mono he⟩
theorem EntRel.mono (he : Ext ρ ρ') {x : List AEntry} {y : List MapEntry} (h : EntRel w0 ρ x y) : EntRel w0 ρ' x y := by
  induction h with
  | nil => exact .nil
  | cons hk hb h _ ih => exact .cons hk hb (h.mono he) ih
theorem CellsAt.keep (he : Ext ρ ρ') {L : Loc} {cs : List AV} (h : CellsAt w0 ρ w L cs) (hb : w'.heap[L.blk]? = w.heap[L.blk]?) : CellsAt w0 ρ' w' L cs := by
  obtain ⟨c, t, fz, h1, h2, h3, h4, h5⟩ := h
  exact ⟨c, t, fz, hb.trans h1, h2, h3, h4, fun i hi => let ⟨y, a, b⟩ := h5 i hi; ⟨y, a, b.mono he⟩⟩
theorem ORel.keep (he : Ext ρ ρ') {o : Nat} {x : AObj} (h : ORel w0 ρ w o x) (hb : ∀ k L, ρ o k = some L → w'.heap[L.blk]? = w.heap[L.blk]?) : ORel w0 ρ' w' o x := by
  cases x with
  | cells cs g m =>
    refine ⟨h.1, fun k h1 h2 => ?_, fun k L L' h1 h2 e e' hbl => ?_⟩
    · obtain ⟨L, a, b, c, d⟩ := h.2.1 k h1 h2
      exact ⟨L, he _ _ _ a, b, c, d.keep he (hb _ _ a)⟩
    · obtain ⟨L₁, a, _⟩ := h.2.1 k h1 h2
      obtain ⟨L₂, b, _⟩ := h.2.1 g h.1 (Nat.le_refl _)
      have e1 := he _ _ _ a
      have e2 := he _ _ _ b
      rw [e] at e1; cases e1
      rw [e'] at e2; cases e2
      exact h.2.2 k L L' h1 h2 a b hbl
  | map es clock => obtain ⟨L, ents, a, b, c⟩ := h; exact ⟨L, ents, he _ _ _ a, (hb _ _ a).trans b, c.mono he⟩
  | loop l =>
    obtain ⟨L, r, a, b, c1, c2, c3, c4, c5, c6, D, d1, d2⟩ := h
    exact ⟨L, r, he _ _ _ a, (hb _ _ a).trans b, c1, c2, c3, c4, c5, c6.mono he, D, he _ _ _ d1, d2⟩
  | dfr b => obtain ⟨L, a, c⟩ := h; exact ⟨L, he _ _ _ a, (hb _ _ a).trans c⟩

theorem Inv.dom (h : Inv w0 ρ σ w) {o k : Nat} {L : Loc} (e : ρ o k = some L) : o < σ.next := by
  by_cases hlt : o < σ.next
  · exact hlt
  · have := (h.fresh o (by omega)).2 k; rw [e] at this; cases this
theorem Inv.has (h : Inv w0 ρ σ w) {o : Nat} {x : AObj} (e : σ.get o = some x) : o < σ.next := by
  by_cases hlt : o < σ.next
  · exact hlt
  · have := (h.fresh o (by omega)).1; rw [e] at this; cases this

theorem Step.refl (h : Inv w0 ρ σ w) : Step w0 ρ σ w ρ σ w :=
  ⟨Ext.refl _, h, Nat.le_refl _, Nat.le_refl _, fun _ _ e => e, fun _ _ _ => rfl, fun _ _ _ e => .inl e⟩

theorem Step.touch {ρ₁ : Asg} {σ₁ : St} {w₁ : World} (h0 : Inv w0 ρ σ w) (h : Step w0 ρ σ w ρ₁ σ₁ w₁) {b : Nat} (ht : Touch ρ₁ σ₁ b) : w.heap.size ≤ b ∨ Touch ρ σ b := by
  obtain ⟨o, x, k, L, hx, hL, rfl⟩ := ht
  rcases h.locs o k L hL with e | e | e
  · right
    have hlt := h0.dom e
    cases hg : σ.get o with
    | none => have := h.old o hlt hg; rw [hx] at this; cases this
    | some y => exact ⟨o, y, k, L, hg, e, rfl⟩
  · exact .inl e
  · exact .inr e

theorem Step.trans {ρ₁ ρ₂ : Asg} {σ₁ σ₂ : St} {w₁ w₂ : World} (h0 : Inv w0 ρ σ w) (h : Step w0 ρ σ w ρ₁ σ₁ w₁) (k : Step w0 ρ₁ σ₁ w₁ ρ₂ σ₂ w₂) : Step w0 ρ σ w ρ₂ σ₂ w₂ where
  ext := h.ext.trans k.ext
  inv := k.inv
  size := Nat.le_trans h.size k.size
  next := Nat.le_trans h.next k.next
  old := fun o ho e => k.old o (Nat.lt_of_lt_of_le ho h.next) (h.old o ho e)
  frame := fun b hb ht => by
    rw [k.frame b (Nat.lt_of_lt_of_le hb h.size) (fun ht' => by rcases h.touch h0 ht' with e | e; omega; exact ht e), h.frame b hb ht]
  locs := fun o g L e => by
    rcases k.locs o g L e with e | e | e
    · exact h.locs o g L e
    · exact .inr (.inl (Nat.le_trans h.size e))
    · rcases h.touch h0 e with e | e
      · exact .inr (.inl e)
      · exact .inr (.inr e)

theorem Below.drewB {w : World} (h : Below w0.heap.size w0 w) : Below w0.heap.size w0 w.drew := h.drew

theorem Inv.drew (h : Inv w0 ρ σ w) : Inv w0 ρ σ w.drew :=
  ⟨h.below.drew, fun o x e => (h.objs o x e).keep (Ext.refl _) (fun _ _ _ => rfl), h.gen, h.disj, h.fresh, h.bnd, h.own⟩
theorem Step.drew (h : Inv w0 ρ σ w) : Step w0 ρ σ w ρ σ w.drew :=
  ⟨Ext.refl _, h.drew, Nat.le_refl _, Nat.le_refl _, fun _ _ e => e, fun _ _ _ => rfl, fun _ _ _ e => .inl e⟩

/-- One place more is told. -/
def upd (ρ : Asg) (o g : Nat) (L : Loc) : Asg := fun o' g' => if o' = o ∧ g' = g then some L else ρ o' g'
theorem upd_same (ρ : Asg) (o g : Nat) (L : Loc) : upd ρ o g L o g = some L := by simp [upd]
theorem upd_ne {ρ : Asg} {o g o' g' : Nat} {L : Loc} (h : ¬ (o' = o ∧ g' = g)) : upd ρ o g L o' g' = ρ o' g' := by simp [upd, h]
theorem upd_ext {ρ : Asg} {o g : Nat} {L : Loc} (h : ρ o g = none) : Ext ρ (upd ρ o g L) := fun o' g' L' e => by
  by_cases hc : o' = o ∧ g' = g
  · obtain ⟨rfl, rfl⟩ := hc; rw [h] at e; cases e
  · rw [upd_ne hc]; exact e
theorem upd_cases {ρ : Asg} {o g o' g' : Nat} {L L' : Loc} (h : upd ρ o g L o' g' = some L') : (o' = o ∧ g' = g ∧ L' = L) ∨ ρ o' g' = some L' := by
  by_cases hc : o' = o ∧ g' = g
  · obtain ⟨rfl, rfl⟩ := hc; rw [upd_same] at h; cases h; exact .inl ⟨rfl, rfl, rfl⟩
  · rw [upd_ne hc] at h; exact .inr h

theorem alloc_get (w : World) (x : Obj) {b : Nat} (h : b < w.heap.size) : (w.alloc x).heap[b]? = w.heap[b]? := Below.heap_alloc w x b h
theorem alloc_new (w : World) (x : Obj) : (w.alloc x).heap[w.heap.size]? = some x := World.alloc_heap_new w x

/-- A new object in a new block. -/
theorem Step.add (h : Inv w0 ρ σ w) (x : AObj) (obj : Obj) (L : Loc) (hL : L.blk = w.heap.size) (hg : ∀ cs g m, x = .cells cs g m → g = 0)
    (hx : ORel w0 (upd ρ σ.next 0 L) (w.alloc obj) σ.next x) : Step w0 ρ σ w (upd ρ σ.next 0 L) (σ.add x) (w.alloc obj) := by
  have hno : ρ σ.next 0 = none := (h.fresh σ.next (Nat.le_refl _)).2 0
  have he : Ext ρ (upd ρ σ.next 0 L) := upd_ext hno
  have hget : ∀ o y, (σ.add x).get o = some y → (o = σ.next ∧ y = x) ∨ (o ≠ σ.next ∧ σ.get o = some y) := fun o y e => by
    by_cases ho : o = σ.next
    · subst ho; rw [St.get_add_same] at e; cases e; exact .inl ⟨rfl, rfl⟩
    · rw [St.get_add_ne _ _ _ (Ne.symm ho)] at e; exact .inr ⟨ho, e⟩
  refine ⟨he, ⟨h.below.alloc h.below.size obj, ?_, ?_, ?_, ?_, ?_, ?_⟩, by simp, Nat.le_succ _, ?_, fun b hb _ => alloc_get w obj hb, ?_⟩
  · intro o y e
    rcases hget o y e with ⟨rfl, rfl⟩ | ⟨ho, e⟩
    · exact hx
    · exact (h.objs o y e).keep he fun k L' e' => alloc_get w obj (h.bnd _ _ _ e')
  · intro o cs g m e k hk
    rcases hget o _ e with ⟨rfl, e'⟩ | ⟨ho, e⟩
    · have := hg cs g m e'.symm; subst this
      rw [upd_ne (by omega)]; exact (h.fresh _ (Nat.le_refl _)).2 k
    · rw [upd_ne (fun c => ho c.1)]; exact h.gen o cs g m e k hk
  · intro o o' y y' k k' L₁ L₂ e e' a b hb
    rcases upd_cases a with ⟨rfl, rfl, rfl⟩ | a₁ <;> rcases upd_cases b with ⟨rfl, rfl, rfl⟩ | b₁
    · rfl
    · have := h.bnd _ _ _ b₁; omega
    · have := h.bnd _ _ _ a₁; omega
    · rcases hget o y e with ⟨rfl, _⟩ | ⟨_, e⟩
      · have := h.dom a₁; omega
      · rcases hget o' y' e' with ⟨rfl, _⟩ | ⟨_, e'⟩
        · have := h.dom b₁; omega
        · exact h.disj o o' y y' k k' L₁ L₂ e e' a₁ b₁ hb
  · intro o ho
    have ho' : σ.next + 1 ≤ o := ho
    refine ⟨?_, fun k => ?_⟩
    · rw [St.get_add_ne _ _ _ (by omega)]; exact (h.fresh o (by omega)).1
    · rw [upd_ne (by omega)]; exact (h.fresh o (by omega)).2 k
  · intro o k L' e
    rcases upd_cases e with ⟨_, _, rfl⟩ | e
    · simp [hL]
    · have := h.bnd _ _ _ e; simp; omega
  · intro o k L' e
    rcases upd_cases e with ⟨_, _, rfl⟩ | e
    · rw [hL]; exact h.below.size
    · exact h.own _ _ _ e
  · intro o ho e
    rw [St.get_add_ne _ _ _ (by omega)]; exact e
  · intro o k L' e
    rcases upd_cases e with ⟨_, _, rfl⟩ | e
    · exact .inr (.inl (by omega))
    · exact .inl e

/-- An object changes: in its own blocks, or by a new block. -/
theorem Step.chg (h : Inv w0 ρ σ w) {o : Nat} {x : AObj} (x' : AObj) (ho : σ.get o = some x) (he : Ext ρ ρ') (hbelow : Below w0.heap.size w0 w') (hsz : w.heap.size ≤ w'.heap.size)
    (hoth : ∀ o' k, o' ≠ o → ρ' o' k = ρ o' k)
    (hnew : ∀ k L, ρ' o k = some L → L.blk < w'.heap.size ∧ (ρ o k = some L ∨ w.heap.size ≤ L.blk ∨ ∃ k₀ L₀, ρ o k₀ = some L₀ ∧ L₀.blk = L.blk))
    (hframe : ∀ b, b < w.heap.size → (∀ k L, ρ o k = some L → L.blk ≠ b) → w'.heap[b]? = w.heap[b]?)
    (hgen : ∀ cs g m, x' = .cells cs g m → ∀ k, g < k → ρ' o k = none)
    (hx : ORel w0 ρ' w' o x') : Step w0 ρ σ w ρ' (σ.set o x') w' := by
  have hlt := h.has ho
  have hget : ∀ p y, (σ.set o x').get p = some y → (p = o ∧ y = x') ∨ (p ≠ o ∧ σ.get p = some y) := fun p y e => by
    by_cases hp : p = o
    · subst hp; rw [St.get_set_same] at e; cases e; exact .inl ⟨rfl, rfl⟩
    · rw [St.get_set_ne _ _ _ _ (Ne.symm hp)] at e; exact .inr ⟨hp, e⟩
  have hlive : ∀ p y, (σ.set o x').get p = some y → ∃ y', σ.get p = some y' := fun p y e => by
    rcases hget p y e with ⟨rfl, _⟩ | ⟨_, e⟩
    · exact ⟨x, ho⟩
    · exact ⟨y, e⟩
  have hsrc : ∀ p k L, ρ' p k = some L → ρ p k = some L ∨ w.heap.size ≤ L.blk ∨ (p = o ∧ ∃ k₀ L₀, ρ o k₀ = some L₀ ∧ L₀.blk = L.blk) := fun p k L e => by
    by_cases hp : p = o
    · subst hp; rcases (hnew k L e).2 with e | e | e
      · exact .inl e
      · exact .inr (.inl e)
      · exact .inr (.inr ⟨rfl, e⟩)
    · rw [hoth p k hp] at e; exact .inl e
  refine ⟨he, ⟨hbelow, ?_, ?_, ?_, ?_, ?_, ?_⟩, hsz, Nat.le_refl _, ?_, ?_, ?_⟩
  · intro p y e
    rcases hget p y e with ⟨rfl, rfl⟩ | ⟨hp, e⟩
    · exact hx
    · refine (h.objs p y e).keep he fun k L e' => hframe _ (h.bnd _ _ _ e') fun k' L' e'' hb => hp ?_
      exact h.disj p o y x k k' L L' e ho e' e'' hb.symm
  · intro p cs g m e k hk
    rcases hget p _ e with ⟨rfl, e'⟩ | ⟨hp, e⟩
    · exact hgen cs g m e'.symm k hk
    · rw [hoth p k hp]; exact h.gen p cs g m e k hk
  · intro p q y y' k k' L L' e e' a b hb
    obtain ⟨z, ez⟩ := hlive p y e
    obtain ⟨z', ez'⟩ := hlive q y' e'
    by_cases hp : p = o
    · by_cases hq : q = o
      · exact hp.trans hq.symm
      · have b' := b; rw [hoth q k' hq] at b'
        have hb2 := h.bnd _ _ _ b'
        rcases hsrc p k L a with a | a | ⟨_, k₀, L₀, a, e0⟩
        · exact h.disj p q z z' k k' L L' ez ez' a b' hb
        · omega
        · rw [hp] at ez ⊢; exact h.disj o q z z' k₀ k' L₀ L' ez ez' a b' (e0.trans hb)
    · have a' := a; rw [hoth p k hp] at a'
      have ha2 := h.bnd _ _ _ a'
      rcases hsrc q k' L' b with b | b | ⟨hq, k₀, L₀, b, e0⟩
      · exact h.disj p q z z' k k' L L' ez ez' a' b hb
      · omega
      · rw [hq] at ez' ⊢; exact h.disj p o z z' k k₀ L L₀ ez ez' a' b (hb.trans e0.symm)
  · intro p hp
    have hp' : σ.next ≤ p := hp
    refine ⟨?_, fun k => ?_⟩
    · rw [St.get_set_ne _ _ _ _ (by omega)]; exact (h.fresh p hp').1
    · rw [hoth p k (by omega)]; exact (h.fresh p hp').2 k
  · intro p k L e
    by_cases hp : p = o
    · subst hp; exact (hnew k L e).1
    · rw [hoth p k hp] at e; exact Nat.lt_of_lt_of_le (h.bnd _ _ _ e) hsz
  · intro p k L e
    rcases hsrc p k L e with e | e | ⟨_, k₀, L₀, e, e0⟩
    · exact h.own _ _ _ e
    · exact Nat.le_trans h.below.size e
    · rw [← e0]; exact h.own _ _ _ e
  · intro p hp e
    by_cases hpo : p = o
    · subst hpo; rw [ho] at e; cases e
    · rw [St.get_set_ne _ _ _ _ (Ne.symm hpo)]; exact e
  · intro b hb ht
    exact hframe b hb fun k L e hbl => ht ⟨o, x, k, L, ho, e, hbl⟩
  · intro p k L e
    rcases hsrc p k L e with e | e | ⟨_, k₀, L₀, e, e0⟩
    · exact .inl e
    · exact .inr (.inl e)
    · exact .inr (.inr ⟨o, x, k₀, L₀, ho, e, e0⟩)

/-- An object dies; another one takes its block, or a new one. -/
theorem Step.kill (h : Inv w0 ρ σ w) {o : Nat} {x : AObj} (x' : AObj) (L : Loc) (ho : σ.get o = some x) (hbelow : Below w0.heap.size w0 w') (hsz : w.heap.size ≤ w'.heap.size)
    (hL : L.blk < w'.heap.size ∧ (w.heap.size ≤ L.blk ∨ ∃ k₀ L₀, ρ o k₀ = some L₀ ∧ L₀.blk = L.blk))
    (hframe : ∀ b, b < w.heap.size → (∀ k L, ρ o k = some L → L.blk ≠ b) → w'.heap[b]? = w.heap[b]?)
    (hg : ∀ cs g m, x' = .cells cs g m → g = 0)
    (hx : ORel w0 (upd ρ σ.next 0 L) w' σ.next x') : Step w0 ρ σ w (upd ρ σ.next 0 L) ((σ.del o).add x') w' := by
  have hlt := h.has ho
  have hno : ρ σ.next 0 = none := (h.fresh σ.next (Nat.le_refl _)).2 0
  have he : Ext ρ (upd ρ σ.next 0 L) := upd_ext hno
  have hget : ∀ p y, ((σ.del o).add x').get p = some y → (p = σ.next ∧ y = x') ∨ (p ≠ σ.next ∧ p ≠ o ∧ σ.get p = some y) := fun p y e => by
    by_cases hp : p = σ.next
    · subst hp
      have : ((σ.del o).add x').get σ.next = some x' := St.get_add_same (σ.del o) x'
      rw [this] at e; cases e; exact .inl ⟨rfl, rfl⟩
    · rw [St.get_add_ne (σ.del o) p x' (Ne.symm hp)] at e
      by_cases hpo : p = o
      · subst hpo; rw [St.get_del_same] at e; cases e
      · rw [St.get_del_ne _ _ _ (Ne.symm hpo)] at e; exact .inr ⟨hp, hpo, e⟩
  have hother : ∀ p y k L', σ.get p = some y → p ≠ o → ρ p k = some L' → L'.blk ≠ L.blk := fun p y k L' e hp e' hb => by
    rcases hL.2 with hL | ⟨k₀, L₀, a, b⟩
    · have := h.bnd _ _ _ e'; omega
    · exact hp (h.disj p o y x k k₀ L' L₀ e ho e' a (hb.trans b.symm))
  refine ⟨he, ⟨hbelow, ?_, ?_, ?_, ?_, ?_, ?_⟩, hsz, Nat.le_succ _, ?_, ?_, ?_⟩
  · intro p y e
    rcases hget p y e with ⟨rfl, rfl⟩ | ⟨hp, hpo, e⟩
    · exact hx
    · refine (h.objs p y e).keep he fun k L' e' => hframe _ (h.bnd _ _ _ e') fun k' L'' e'' hb => hpo ?_
      exact h.disj p o y x k k' L' L'' e ho e' e'' hb.symm
  · intro p cs g m e k hk
    rcases hget p _ e with ⟨rfl, e'⟩ | ⟨hp, hpo, e⟩
    · have := hg cs g m e'.symm; subst this
      rw [upd_ne (by omega)]; exact (h.fresh _ (Nat.le_refl _)).2 k
    · rw [upd_ne (fun c => hp c.1)]; exact h.gen p cs g m e k hk
  · intro p q y y' k k' L₁ L₂ e e' a b hb
    rcases upd_cases a with ⟨rfl, rfl, rfl⟩ | a₁ <;> rcases upd_cases b with ⟨rfl, rfl, rfl⟩ | b₁
    · rfl
    · rcases hget q y' e' with ⟨rfl, _⟩ | ⟨_, hq, e'⟩
      · rfl
      · exact absurd hb.symm (hother q y' k' L₂ e' hq b₁)
    · rcases hget p y e with ⟨rfl, _⟩ | ⟨_, hp, e⟩
      · rfl
      · exact absurd hb (hother p y k L₁ e hp a₁)
    · rcases hget p y e with ⟨rfl, _⟩ | ⟨_, _, e⟩
      · have := h.dom a₁; omega
      · rcases hget q y' e' with ⟨rfl, _⟩ | ⟨_, _, e'⟩
        · have := h.dom b₁; omega
        · exact h.disj p q y y' k k' L₁ L₂ e e' a₁ b₁ hb
  · intro p hp
    have hp' : σ.next + 1 ≤ p := hp
    refine ⟨?_, fun k => ?_⟩
    · rw [St.get_add_ne (σ.del o) p x' (by show σ.next ≠ p; omega), St.get_del_ne _ _ _ (by omega)]; exact (h.fresh p (by omega)).1
    · rw [upd_ne (by omega)]; exact (h.fresh p (by omega)).2 k
  · intro p k L' e
    rcases upd_cases e with ⟨_, _, rfl⟩ | e
    · exact hL.1
    · exact Nat.lt_of_lt_of_le (h.bnd _ _ _ e) hsz
  · intro p k L' e
    rcases upd_cases e with ⟨_, _, rfl⟩ | e
    · rcases hL.2 with hL | ⟨k₀, L₀, a, b⟩
      · exact Nat.le_trans h.below.size hL
      · rw [← b]; exact h.own _ _ _ a
    · exact h.own _ _ _ e
  · intro p hp e
    rw [St.get_add_ne (σ.del o) p x' (by show σ.next ≠ p; omega)]
    by_cases hpo : p = o
    · subst hpo; exact St.get_del_same σ p
    · rw [St.get_del_ne _ _ _ (Ne.symm hpo)]; exact e
  · intro b hb ht
    exact hframe b hb fun k L' e hbl => ht ⟨o, x, k, L', ho, e, hbl⟩
  · intro p k L' e
    rcases upd_cases e with ⟨_, _, rfl⟩ | e
    · rcases hL.2 with hL | ⟨k₀, L₀, a, b⟩
      · exact .inr (.inl hL)
      · exact .inr (.inr ⟨o, x, k₀, L₀, ho, a, b⟩)
    · exact .inl e

end
end Go.Ai
