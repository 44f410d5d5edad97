/- The abstract interpreter: regions of open order, the parts. Conditions: none. -/
import Derived.Test.YtfmbpdacdopkgaaGreatDoorAiEval
namespace Go.Ai
open Go.RowKit (Below)

mutual
theorem vbeq_eq : ∀ {x y : Value}, vbeq x y = true → x = y
  | .bool _, y, h => by cases y <;> simp_all [vbeq]
  | .int .., y, h => by cases y <;> simp_all [vbeq]
  | .float .., y, h => by cases y <;> simp_all [vbeq]
  | .complex .., y, h => by cases y <;> simp_all [vbeq]
  | .string ⟨⟨a⟩⟩, y, h => by
    cases y with
    | string b => obtain ⟨⟨b⟩⟩ := b; simp_all [vbeq]
    | _ => simp [vbeq] at h
  | .pointer _, y, h => by cases y <;> simp_all [vbeq]
  | .slice .., y, h => by cases y <;> simp_all [vbeq]
  | .map _, y, h => by cases y <;> simp_all [vbeq]
  | .chan _, y, h => by cases y <;> simp_all [vbeq]
  | .func f ⟨xs⟩ ⟨ys⟩, y, h => by
    cases y with
    | func g us vs =>
      obtain ⟨us⟩ := us
      obtain ⟨vs⟩ := vs
      simp only [vbeq, Bool.and_eq_true, beq_iff_eq] at h
      rw [h.1.1, vsbeq_eq h.1.2, vsbeq_eq h.2]
    | _ => simp [vbeq] at h
  | .nilFunc, y, h => by cases y <;> simp_all [vbeq]
  | .iface t x, y, h => by
    cases y with
    | iface u y =>
      simp only [vbeq, Bool.and_eq_true, beq_iff_eq] at h
      rw [h.1, vbeq_eq h.2]
    | _ => simp [vbeq] at h
  | .nilIface, y, h => by cases y <;> simp_all [vbeq]
  | .agg ⟨xs⟩, y, h => by
    cases y with
    | agg us => obtain ⟨us⟩ := us; simp only [vbeq] at h; rw [vsbeq_eq h]
    | _ => simp [vbeq] at h
  | .tuple ⟨xs⟩, y, h => by
    cases y with
    | tuple us => obtain ⟨us⟩ := us; simp only [vbeq] at h; rw [vsbeq_eq h]
    | _ => simp [vbeq] at h
theorem vsbeq_eq : ∀ {x y : List Value}, vsbeq x y = true → x = y
  | [], [], _ => rfl
  | [], _ :: _, h => by simp [vsbeq] at h
  | _ :: _, [], h => by simp [vsbeq] at h
  | x :: xs, y :: ys, h => by
    simp only [vsbeq, Bool.and_eq_true] at h
    rw [vbeq_eq h.1, vsbeq_eq h.2]
end

mutual
theorem AV.beq_eq : ∀ {x y : AV}, AV.beq x y = true → x = y
  | .v x, y, h => by
    cases y with
    | v y => simp only [AV.beq] at h; rw [vbeq_eq h]
    | _ => simp [AV.beq] at h
  | .top, y, h => by cases y <;> simp_all [AV.beq]
  | .ptr .., y, h => by cases y <;> simp_all [AV.beq]
  | .cptr a, y, h => by
    cases y with
    | cptr b => simp only [AV.beq] at h; rw [AV.beqs_eq h]
    | _ => simp [AV.beq] at h
  | .sl .., y, h => by cases y <;> simp_all [AV.beq]
  | .lst n a, y, h => by
    cases y with
    | lst m b => simp only [AV.beq, Bool.and_eq_true, beq_iff_eq] at h; rw [h.1, AV.beqs_eq h.2]
    | _ => simp [AV.beq] at h
  | .e0, y, h => by cases y <;> simp_all [AV.beq]
  | .mp _, y, h => by cases y <;> simp_all [AV.beq]
  | .lmp a b, y, h => by
    cases y with
    | lmp c d => simp only [AV.beq, Bool.and_eq_true] at h; rw [vsbeq_eq h.1, AV.beqs_eq h.2]
    | _ => simp [AV.beq] at h
  | .fn f a b, y, h => by
    cases y with
    | fn g c d => simp only [AV.beq, Bool.and_eq_true, beq_iff_eq] at h; rw [h.1.1, AV.beqs_eq h.1.2, AV.beqs_eq h.2]
    | _ => simp [AV.beq] at h
  | .yld _, y, h => by cases y <;> simp_all [AV.beq]
  | .ifc t x, y, h => by
    cases y with
    | ifc u y => simp only [AV.beq, Bool.and_eq_true, beq_iff_eq] at h; rw [h.1, AV.beq_eq h.2]
    | _ => simp [AV.beq] at h
  | .agg a, y, h => by
    cases y with
    | agg b => simp only [AV.beq] at h; rw [AV.beqs_eq h]
    | _ => simp [AV.beq] at h
  | .tup a, y, h => by
    cases y with
    | tup b => simp only [AV.beq] at h; rw [AV.beqs_eq h]
    | _ => simp [AV.beq] at h
theorem AV.beqs_eq : ∀ {x y : List AV}, AV.beqs x y = true → x = y
  | [], [], _ => rfl
  | [], _ :: _, h => by simp [AV.beqs] at h
  | _ :: _, [], h => by simp [AV.beqs] at h
  | x :: xs, y :: ys, h => by
    simp only [AV.beqs, Bool.and_eq_true] at h
    rw [AV.beq_eq h.1, AV.beqs_eq h.2]
end

/- The operations of a region. -/

theorem befOf_bits (acc : List Nat) (l : List Edge) : ∀ (b : Nat) (x : Nat), (l.foldl (fun b e => if Region.binds .any e then (b ||| 2 ^ e.on) ||| acc.getD e.on 0 else b) b).testBit x = true ↔
    b.testBit x = true ∨ ∃ e ∈ l, Region.binds .any e = true ∧ (x = e.on ∨ (acc.getD e.on 0).testBit x = true) := by
  induction l with
  | nil => intro b x; simp
  | cons e l ih =>
    intro b x
    rw [List.foldl_cons, ih]
    by_cases hb : Region.binds .any e = true
    · simp only [hb, if_true, Nat.testBit_or, Nat.testBit_two_pow, Bool.or_eq_true, decide_eq_true_eq, List.mem_cons]
      constructor
      · rintro ((h | h) | h)
        · rcases h with h | h
          · exact .inl h
          · exact .inr ⟨e, .inl rfl, hb, .inl h.symm⟩
        · exact .inr ⟨e, .inl rfl, hb, .inr h⟩
        · obtain ⟨e', h1, h2⟩ := h; exact .inr ⟨e', .inr h1, h2⟩
      · rintro (h | ⟨e', rfl | h1, h2, h3⟩)
        · exact .inl (.inl (.inl h))
        · rcases h3 with h3 | h3
          · exact .inl (.inl (.inr h3.symm))
          · exact .inl (.inr h3)
        · exact .inr ⟨e', h1, h2, h3⟩
    · simp only [hb, List.mem_cons, if_false, Bool.false_eq_true]
      constructor
      · rintro (h | ⟨e', h1, h2⟩)
        · exact .inl h
        · exact .inr ⟨e', .inr h1, h2⟩
      · rintro (h | ⟨e', rfl | h1, h2, h3⟩)
        · exact .inl h
        · exact absurd h2 hb
        · exact .inr ⟨e', h1, h2, h3⟩

theorem befOf_spec (acc : List Nat) (o : Oper) (x : Nat) : (befOf acc o).testBit x = true ↔ ∃ e ∈ o.after, Region.binds .any e = true ∧ (x = e.on ∨ (acc.getD e.on 0).testBit x = true) := by
  unfold befOf
  rw [befOf_bits]
  simp [Nat.zero_testBit]

theorem dopsGo_spec : ∀ (l : List Oper) (i : Nat) (acc : List Nat) (all : List DOp), acc.length = i → (∀ k b, acc[k]? = some b → ∃ d ∈ all, d.i = k ∧ d.bef = b) → (∀ d ∈ dopsGo l i acc, d ∈ all) →
    (∀ d ∈ dopsGo l i acc, i ≤ d.i ∧ l[d.i - i]? = some d.o ∧
      (∀ x, d.bef.testBit x = true → ∃ e ∈ d.o.after, Region.binds .any e = true ∧ (x = e.on ∨ ∃ d' ∈ all, d'.i = e.on ∧ d'.bef.testBit x = true)) ∧
      ∀ e ∈ d.o.after, Region.binds .any e = true → d.bef.testBit e.on = true) ∧
    (∀ k o, l[k]? = some o → ∃ d ∈ dopsGo l i acc, d.i = i + k)
  | [], i, acc, all, _, _, _ => ⟨fun d h => by simp [dopsGo] at h, fun k o h => by simp at h⟩
  | o :: rest, i, acc, all, hl, hacc, hall => by
    have hme : (⟨i, o, befOf acc o⟩ : DOp) ∈ all := hall _ (by simp [dopsGo])
    have hacc' : ∀ k b, (acc ++ [befOf acc o])[k]? = some b → ∃ d ∈ all, d.i = k ∧ d.bef = b := by
      intro k b h
      rw [List.getElem?_append] at h
      split at h
      · exact hacc k b h
      · rename_i hk
        have hk0 : k - acc.length = 0 := by
          rcases Nat.eq_zero_or_pos (k - acc.length) with e | e
          · exact e
          · rw [List.getElem?_eq_none (by simp; omega)] at h; cases h
        rw [hk0] at h
        simp at h
        exact ⟨_, hme, by show i = k; omega, h⟩
    obtain ⟨h1, h2⟩ := dopsGo_spec rest (i + 1) (acc ++ [befOf acc o]) all (by simp [hl]) hacc' (fun d h => hall d (by simp [dopsGo, h]))
    refine ⟨fun d hd => ?_, fun k o' hk => ?_⟩
    · simp only [dopsGo, List.mem_cons] at hd
      rcases hd with rfl | hd
      · refine ⟨Nat.le_refl _, by simp, fun x hx => ?_, fun e he hb => ?_⟩
        · obtain ⟨e, he, hb, h⟩ := (befOf_spec acc o x).1 hx
          refine ⟨e, he, hb, h.imp id fun h => ?_⟩
          rw [List.getD_eq_getElem?_getD] at h
          cases hg : acc[e.on]? with
          | none => rw [hg] at h; simp [Nat.zero_testBit] at h
          | some b =>
            rw [hg] at h
            obtain ⟨d, hd, e1, e2⟩ := hacc _ _ hg
            exact ⟨d, hd, e1, by rw [e2]; exact h⟩
        · exact (befOf_spec acc o e.on).2 ⟨e, he, hb, .inl rfl⟩
      · obtain ⟨k1, k2, k3⟩ := h1 d hd
        refine ⟨by omega, ?_, k3⟩
        rw [show d.i - i = (d.i - (i + 1)) + 1 by omega, List.getElem?_cons_succ]
        exact k2
    · cases k with
      | zero => exact ⟨⟨i, o, befOf acc o⟩, by simp [dopsGo], rfl⟩
      | succ k =>
        obtain ⟨d, hd, e⟩ := h2 k o' (by simpa using hk)
        exact ⟨d, by simp [dopsGo, hd], by omega⟩

theorem dopsGo_ge : ∀ (l : List Oper) (i : Nat) (acc : List Nat), ∀ d ∈ dopsGo l i acc, i ≤ d.i
  | [], i, acc, d, h => by simp [dopsGo] at h
  | o :: rest, i, acc, d, h => by
    simp only [dopsGo, List.mem_cons] at h
    rcases h with rfl | h
    · exact Nat.le_refl _
    · have := dopsGo_ge rest (i + 1) _ d h; omega

theorem dopsGo_uniq : ∀ (l : List Oper) (i : Nat) (acc : List Nat), ∀ d ∈ dopsGo l i acc, ∀ d' ∈ dopsGo l i acc, d.i = d'.i → d = d'
  | [], i, acc, d, h, _, _, _ => by simp [dopsGo] at h
  | o :: rest, i, acc, d, h, d', h', e => by
    simp only [dopsGo, List.mem_cons] at h h'
    rcases h with h | h <;> rcases h' with h' | h'
    · rw [h, h']
    · have := dopsGo_ge rest (i + 1) _ d' h'; rw [h] at e; simp only at e; omega
    · have := dopsGo_ge rest (i + 1) _ d h; rw [h'] at e; simp only at e; omega
    · exact dopsGo_uniq rest _ _ d h d' h' e

/-- The operations, by their numbers. -/
structure DopsOk (ops : Array Oper) (all : List DOp) : Prop where
  op : ∀ d ∈ all, ops[d.i]? = some d.o
  bef : ∀ d ∈ all, ∀ x, d.bef.testBit x = true → ∃ e ∈ d.o.after, Region.binds .any e = true ∧ (x = e.on ∨ ∃ d' ∈ all, d'.i = e.on ∧ d'.bef.testBit x = true)
  edge : ∀ d ∈ all, ∀ e ∈ d.o.after, Region.binds .any e = true → d.bef.testBit e.on = true
  has : ∀ k, k < ops.size → ∃ d ∈ all, d.i = k
  uniq : ∀ d ∈ all, ∀ d' ∈ all, d.i = d'.i → d = d'

theorem dops_ok (ops : Array Oper) : DopsOk ops (dops ops) := by
  obtain ⟨h1, h2⟩ := dopsGo_spec ops.toList 0 [] (dops ops) rfl (fun k b h => by simp at h) (fun d h => h)
  refine ⟨fun d hd => by have := (h1 d hd).2.1; simpa using this, fun d hd => (h1 d hd).2.2.1, fun d hd => (h1 d hd).2.2.2, fun k hk => ?_, dopsGo_uniq _ _ _⟩
  obtain ⟨d, hd, e⟩ := h2 k ops[k] (by simp [hk])
  exact ⟨d, hd, by omega⟩

theorem nodupB_spec : ∀ {l : List Nat}, nodupB l = true → l.Nodup
  | [], _ => List.nodup_nil
  | x :: xs, h => by
    simp only [nodupB, Bool.and_eq_true, Bool.not_eq_true', List.contains_eq_mem, decide_eq_false_iff_not] at h
    exact List.nodup_cons.2 ⟨h.1, nodupB_spec h.2⟩

theorem dst_inj : ∀ {all : List DOp}, (all.filterMap (·.o.dst)).Nodup → ∀ c ∈ all, ∀ d ∈ all, ∀ t, c.o.dst = some t → d.o.dst = some t → c = d
  | [], _, c, hc, _, _, _, _, _ => by simp at hc
  | x :: xs, h, c, hc, d, hd, t, e1, e2 => by
    have hin : ∀ y ∈ xs, y.o.dst = some t → t ∈ xs.filterMap (·.o.dst) := fun y hy e => List.mem_filterMap.2 ⟨y, hy, e⟩
    have hx : x.o.dst = some t → t ∉ xs.filterMap (·.o.dst) := fun e hm => by
      rw [List.filterMap_cons, e] at h
      exact (List.nodup_cons.1 h).1 hm
    have hn : (xs.filterMap (·.o.dst)).Nodup := by
      rw [List.filterMap_cons] at h
      split at h
      · exact h
      · exact (List.nodup_cons.1 h).2
    rcases List.mem_cons.1 hc with h1 | h1 <;> rcases List.mem_cons.1 hd with h2 | h2
    · rw [h1, h2]
    · exact absurd (hin d h2 e2) (hx (h1 ▸ e1))
    · exact absurd (hin c h1 e1) (hx (h2 ▸ e2))
    · exact dst_inj hn c h1 d h2 t e1 e2

theorem dim_n (d : DOp) : ∀ (l : List DOp) (a : AFr), (dim d l a).n = a.n ∧ (dim d l a).df = a.df
  | [], a => ⟨rfl, rfl⟩
  | c :: rest, a => by
    simp only [dim]
    split
    · split
      · exact dim_n d rest a
      · exact dim_n d rest a
    · exact dim_n d rest a

theorem dim_get (d : DOp) : ∀ (l : List DOp) (a : AFr) (t : Nat), (dim d l a).get t = .top ∨ ((dim d l a).get t = a.get t ∧ ∀ c ∈ l, c.o.dst = some t → unord d c = false)
  | [], a, t => .inr ⟨rfl, fun c h => by simp at h⟩
  | c :: rest, a, t => by
    simp only [dim]
    split
    · rename_i t' ht
      split
      · rename_i hu
        by_cases htt : t' = t
        · subst htt; left; exact AFr.get_set_same _ _ _
        · rw [AFr.get_set_ne _ _ _ _ htt]
          rcases dim_get d rest a t with h | ⟨h1, h2⟩
          · exact .inl h
          · refine .inr ⟨h1, fun c' hc' e => ?_⟩
            rcases List.mem_cons.1 hc' with rfl | hc'
            · rw [ht] at e; cases e; exact absurd rfl htt
            · exact h2 c' hc' e
      · rename_i hu
        rcases dim_get d rest a t with h | ⟨h1, h2⟩
        · exact .inl h
        · refine .inr ⟨h1, fun c' hc' e => ?_⟩
          rcases List.mem_cons.1 hc' with rfl | hc'
          · simpa using hu
          · exact h2 c' hc' e
    · rename_i ht
      rcases dim_get d rest a t with h | ⟨h1, h2⟩
      · exact .inl h
      · refine .inr ⟨h1, fun c' hc' e => ?_⟩
        rcases List.mem_cons.1 hc' with rfl | hc'
        · rw [ht] at e; cases e
        · exact h2 c' hc' e

theorem topped_get : ∀ (l : List DOp) (a : AFr), (topped l a).n = a.n ∧ (topped l a).df = a.df ∧ ∀ t, (topped l a).get t = .top ∨ ((topped l a).get t = a.get t ∧ ∀ c ∈ l, c.o.dst ≠ some t)
  | [], a => ⟨rfl, rfl, fun t => .inr ⟨rfl, fun c h => by simp at h⟩⟩
  | c :: rest, a => by
    have h := topped_get rest (match c.o.dst with | some t => a.set t .top | none => a)
    have hn : (topped (c :: rest) a) = topped rest (match c.o.dst with | some t => a.set t .top | none => a) := rfl
    rw [hn]
    refine ⟨h.1.trans (by split <;> rfl), h.2.1.trans (by split <;> rfl), fun t => ?_⟩
    rcases h.2.2 t with k | ⟨k1, k2⟩
    · exact .inl k
    · cases hd : c.o.dst with
      | none =>
        rw [hd] at k1
        refine .inr ⟨k1, fun c' hc' => ?_⟩
        rcases List.mem_cons.1 hc' with rfl | hc'
        · rw [hd]; simp
        · exact k2 c' hc'
      | some t' =>
        rw [hd] at k1
        by_cases htt : t' = t
        · subst htt; left; exact k1.trans (AFr.get_set_same _ _ _)
        · right
          refine ⟨k1.trans (AFr.get_set_ne _ _ _ _ htt), fun c' hc' => ?_⟩
          rcases List.mem_cons.1 hc' with rfl | hc'
          · rw [hd]; simpa using htt
          · exact k2 c' hc'

/- Invariants by what is where. -/

/-- Only the first objects. -/
def cut (ρ : Asg) (n : Nat) : Asg := fun o g => if o < n then ρ o g else none
theorem cut_some {ρ : Asg} {n o g : Nat} {L : Loc} : cut ρ n o g = some L ↔ o < n ∧ ρ o g = some L := by
  unfold cut
  by_cases h : o < n
  · simp [h]
  · simp [h]
theorem cut_mono {ρ ρ' : Asg} {n m : Nat} (h : Ext ρ ρ') (hn : n ≤ m) : Ext (cut ρ n) (cut ρ' m) := fun o g L e => by
  obtain ⟨h1, h2⟩ := cut_some.1 e
  exact cut_some.2 ⟨by omega, h _ _ _ h2⟩

structure InvR (w0 : World) (ρ : Asg) (G : Nat → AObj → Prop) (n : Nat) (w : World) : Prop where
  below : Below w0.heap.size w0 w
  objs : ∀ o x, G o x → ORel w0 ρ w o x
  gen : ∀ o cs g m, G o (.cells cs g m) → ∀ k, g < k → ρ o k = none
  disj : ∀ o o' x x' k k' L L', G o x → G o' x' → ρ o k = some L → ρ o' k' = some L' → L.blk = L'.blk → o = o'
  fresh : ∀ o, n ≤ o → (∀ x, ¬ G o x) ∧ ∀ k, ρ o k = none
  bnd : ∀ o k L, ρ o k = some L → L.blk < w.heap.size
  own : ∀ o k L, ρ o k = some L → w0.heap.size ≤ L.blk

section
variable {w0 : World} {ρ : Asg} {w : World}

theorem InvR.inv {G : Nat → AObj → Prop} {n : Nat} (h : InvR w0 ρ G n w) {σ : St} (hn : σ.next = n) (hG : ∀ o x, σ.get o = some x → G o x) : Inv w0 ρ σ w :=
  ⟨h.below, fun o x e => h.objs o x (hG o x e), fun o cs g m e => h.gen o cs g m (hG _ _ e), fun o o' x x' k k' L L' e e' => h.disj o o' x x' k k' L L' (hG _ _ e) (hG _ _ e'),
    fun o ho => ⟨by
      cases hg : σ.get o with
      | none => rfl
      | some x => exact absurd (hG o x hg) ((h.fresh o (by omega)).1 x), (h.fresh o (by omega)).2⟩, h.bnd, h.own⟩

theorem Inv.invR {σ : St} (h : Inv w0 ρ σ w) : InvR w0 ρ (fun o x => σ.get o = some x) σ.next w :=
  ⟨h.below, h.objs, h.gen, h.disj, fun o ho => ⟨(fun x e => by rw [(h.fresh o ho).1] at e; cases e), (h.fresh o ho).2⟩, h.bnd, h.own⟩

theorem InvR.sub {G G' : Nat → AObj → Prop} {n : Nat} (h : InvR w0 ρ G n w) (hG : ∀ o x, G' o x → G o x) : InvR w0 ρ G' n w :=
  ⟨h.below, fun o x e => h.objs o x (hG o x e), fun o cs g m e => h.gen o cs g m (hG _ _ e), fun o o' x x' k k' L L' e e' => h.disj o o' x x' k k' L L' (hG _ _ e) (hG _ _ e'),
    fun o ho => ⟨fun x e => (h.fresh o ho).1 x (hG _ _ e), (h.fresh o ho).2⟩, h.bnd, h.own⟩

theorem InvR.heap {G : Nat → AObj → Prop} {n : Nat} {w' : World} (h : InvR w0 ρ G n w) (hb : Below w0.heap.size w0 w') (hs : w.heap.size ≤ w'.heap.size) (he : ∀ b, b < w.heap.size → w'.heap[b]? = w.heap[b]?) : InvR w0 ρ G n w' :=
  ⟨hb, fun o x e => (h.objs o x e).keep (Ext.refl _) fun _ _ e' => he _ (h.bnd _ _ _ e'), h.gen, h.disj, h.fresh, fun o k L e => Nat.lt_of_lt_of_le (h.bnd o k L e) hs, h.own⟩
end
end Go.Ai
