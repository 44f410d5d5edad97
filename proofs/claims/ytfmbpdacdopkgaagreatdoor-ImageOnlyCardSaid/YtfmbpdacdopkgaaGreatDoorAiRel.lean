/- The abstract interpreter: what abstract values and states have to do with the model's. Conditions: none. -/
import Derived.Test.YtfmbpdacdopkgaaGreatDoorAiDef
namespace Go.Ai
open Go.RowKit (Below)

namespace Tr
variable {α : Type}
theorem get_put_same : ∀ (f : Nat) (t : Tr α) (n : Nat) (y : Option α), n < 2 ^ f → (t.put (f + 1) n y).get n = y
  | 0, t, n, y, h => by
    obtain rfl : n = 0 := by simp at h; exact h
    cases t <;> simp [put, get]
  | f + 1, t, n, y, h => by
    have hp : 2 ^ (f + 1) = 2 * 2 ^ f := by rw [Nat.pow_succ]; omega
    cases t with
    | nil =>
      by_cases h0 : n = 0
      · subst h0; simp [put, get]
      · by_cases h1 : n % 2 = 1
        · simp only [put, h0, h1, if_true, if_false, get]; exact get_put_same f .nil (n / 2) y (by omega)
        · simp only [put, h0, h1, if_false, get]; exact get_put_same f .nil (n / 2 - 1) y (by omega)
    | node l r x =>
      by_cases h0 : n = 0
      · subst h0; simp [put, get]
      · by_cases h1 : n % 2 = 1
        · simp only [put, h0, h1, if_true, if_false, get]; exact get_put_same f l (n / 2) y (by omega)
        · simp only [put, h0, h1, if_false, get]; exact get_put_same f r (n / 2 - 1) y (by omega)
theorem get_nil (n : Nat) : (Tr.nil : Tr α).get n = none := rfl
theorem get_put_ne : ∀ (f : Nat) (t : Tr α) (n k : Nat) (y : Option α), n ≠ k → (t.put f n y).get k = t.get k
  | 0, t, n, k, y, h => rfl
  | f + 1, t, n, k, y, h => by
    cases t with
    | nil =>
      by_cases h0 : n = 0
      · subst h0; simp only [put, if_true, get]; rw [if_neg (by omega)]; split <;> rfl
      · by_cases h1 : n % 2 = 1
        · simp only [put, h0, h1, if_true, if_false, get]
          by_cases hk : k = 0
          · simp [hk]
          · simp only [hk, if_false]
            by_cases hk1 : k % 2 = 1
            · simp only [hk1, if_true]; rw [get_put_ne f .nil (n / 2) (k / 2) y (by omega)]; rfl
            · simp [hk1]
        · simp only [put, h0, h1, if_false, get]
          by_cases hk : k = 0
          · simp [hk]
          · simp only [hk, if_false]
            by_cases hk1 : k % 2 = 1
            · simp [hk1]
            · simp only [hk1, if_false]; rw [get_put_ne f .nil (n / 2 - 1) (k / 2 - 1) y (by omega)]; rfl
    | node l r x =>
      by_cases h0 : n = 0
      · subst h0
        have hk : k ≠ 0 := by omega
        simp only [put, if_true, get, if_neg hk]
      · by_cases h1 : n % 2 = 1
        · simp only [put, h0, h1, if_true, if_false, get]
          by_cases hk : k = 0
          · simp [hk]
          · simp only [hk, if_false]
            by_cases hk1 : k % 2 = 1
            · simp only [hk1, if_true]; exact get_put_ne f l (n / 2) (k / 2) y (by omega)
            · simp [hk1]
        · simp only [put, h0, h1, if_false, get]
          by_cases hk : k = 0
          · simp [hk]
          · simp only [hk, if_false]
            by_cases hk1 : k % 2 = 1
            · simp [hk1]
            · simp only [hk1, if_false]; exact get_put_ne f r (n / 2 - 1) (k / 2 - 1) y (by omega)
end Tr

theorem Tr.get_put {α : Type} (t : Tr α) (n : Nat) (y : Option α) : (t.put (n + 1) n y).get n = y := Tr.get_put_same n t n y Nat.lt_two_pow_self

theorem AFr.get_set_same (a : AFr) (t : Nat) (x : AV) : (a.set t x).get t = x := by
  simp only [AFr.get, AFr.set, Tr.get_put, Option.getD_some]
theorem AFr.get_set_ne (a : AFr) (t k : Nat) (x : AV) (h : t ≠ k) : (a.set t x).get k = a.get k := by
  simp only [AFr.get, AFr.set, Tr.get_put_ne _ a.tm t k (some x) h]
theorem St.get_set_same (σ : St) (o : Nat) (x : AObj) : (σ.set o x).get o = some x := Tr.get_put σ.objs o (some x)
theorem St.get_set_ne (σ : St) (o k : Nat) (x : AObj) (h : o ≠ k) : (σ.set o x).get k = σ.get k := Tr.get_put_ne _ σ.objs o k (some x) h
theorem St.get_del_same (σ : St) (o : Nat) : (σ.del o).get o = none := Tr.get_put σ.objs o none
theorem St.get_del_ne (σ : St) (o k : Nat) (h : o ≠ k) : (σ.del o).get k = σ.get k := Tr.get_put_ne _ σ.objs o k none h
theorem St.get_add_same (σ : St) (x : AObj) : (σ.add x).get σ.next = some x := Tr.get_put σ.objs σ.next (some x)
theorem St.get_add_ne (σ : St) (k : Nat) (x : AObj) (h : σ.next ≠ k) : (σ.add x).get k = σ.get k := Tr.get_put_ne _ σ.objs σ.next k (some x) h

/-- Where an object lies in the model's memory: block, first cell, how many cells are told, how many there are. -/
structure Loc where
  blk : Nat
  base : Nat
  size : Nat
  lim : Nat
  le : size ≤ lim

abbrev Asg := Nat → Nat → Option Loc

section
variable (w0 : World) (ρ : Asg)
mutual
inductive VRel : AV → Value → Prop
  | v (x : Value) : VRel (.v x) x
  | top (x : Value) : VRel .top x
  | ptr {o i g e : Nat} {L : Loc} (h : ρ o g = some L) (hi : i + e ≤ L.size) : VRel (.ptr o i g e) (.pointer (some ⟨L.blk, L.base + i, none⟩))
  | cptr {cs : List AV} {b off : Nat} (h : CRel b off cs) : VRel (.cptr cs) (.pointer (some ⟨b, off, none⟩))
  | sl {o i n g sz cap : Nat} {L : Loc} (h : ρ o g = some L) (hi : i + n * sz ≤ L.size) (hn : n ≤ cap) (hc : i + cap * sz ≤ L.lim) :
      VRel (.sl o i n g sz) (.slice (some ⟨L.blk, L.base + i, none⟩) n cap)
  | sl0 {o i g sz : Nat} {L : Loc} {a : Addr} (h : ρ o g = some L) (hi : i ≤ L.size) : VRel (.sl o i 0 g sz) (.slice (some a) 0 0)
  | lst {sz b off n cap : Nat} {xs : List AV} (h : LRel sz b off xs) (hn : n = xs.length) (hc : n ≤ cap) : VRel (.lst sz xs) (.slice (some ⟨b, off, none⟩) n cap)
  | lst0 {sz cap : Nat} {a : Addr} : VRel (.lst sz []) (.slice (some a) 0 cap)
  | e0 {a : Addr} : VRel .e0 (.slice (some a) 0 0)
  | mp {o : Nat} {L : Loc} (h : ρ o 0 = some L) : VRel (.mp o) (.map (some L.blk))
  | lmp {ks : List Value} {vs : List AV} {r : Nat} {es : Array MapEntry} {c : Nat} (h : w0.heap[r]? = some (.map es c)) (hk : es.toList.map (·.key) = ks)
      (hv : VRels vs (es.toList.map (·.val))) : VRel (.lmp ks vs) (.map (some r))
  | fn {f : FuncId} {xs ys : List AV} {us vs : Array Value} (hx : VRels xs us.toList) (hy : VRels ys vs.toList) : VRel (.fn f xs ys) (.func (.func f) us vs)
  | yld {o : Nat} {L : Loc} (h : ρ o 0 = some L) : VRel (.yld o) (.func (.yield L.blk) #[] #[])
  | ifc {t : TypeId} {x : AV} {y : Value} (h : VRel x y) : VRel (.ifc t x) (.iface t y)
  | agg {cs : List AV} {c : Array Value} (h : VRels cs c.toList) : VRel (.agg cs) (.agg c)
  | tup {cs : List AV} {c : Array Value} (h : VRels cs c.toList) : VRel (.tup cs) (.tuple c)
inductive VRels : List AV → List Value → Prop
  | nil : VRels [] []
  | cons {x : AV} {y : Value} {xs : List AV} {ys : List Value} (h : VRel x y) (hs : VRels xs ys) : VRels (x :: xs) (y :: ys)
/-- Cells that lay there from the beginning. -/
inductive CRel : Nat → Nat → List AV → Prop
  | nil {b off : Nat} : CRel b off []
  | cons {b off : Nat} {x : AV} {y : Value} {xs : List AV} (hc : w0.cell? ⟨b, off, none⟩ = some y) (h : VRel x y) (hs : CRel b (off + 1) xs) : CRel b off (x :: xs)
/-- Elements that lay there from the beginning. -/
inductive LRel : Nat → Nat → Nat → List AV → Prop
  | nil {sz b off : Nat} : LRel sz b off []
  | cons {sz b off : Nat} {x : AV} {cs xs : List AV} (hx : x.cells? = some cs) (hl : cs.length = sz) (h : CRel b off cs) (hs : LRel sz b (off + sz) xs) : LRel sz b off (x :: xs)
end
end

/-- More is told of where objects lie. -/
def Ext (ρ ρ' : Asg) : Prop := ∀ o g L, ρ o g = some L → ρ' o g = some L
theorem Ext.refl (ρ : Asg) : Ext ρ ρ := fun _ _ _ h => h
theorem Ext.trans {a b c : Asg} (h : Ext a b) (k : Ext b c) : Ext a c := fun o g L e => k o g L (h o g L e)

section
variable {w0 : World} {ρ ρ' : Asg}
mutual
theorem VRel.mono (he : Ext ρ ρ') : ∀ {x : AV} {y : Value}, VRel w0 ρ x y → VRel w0 ρ' x y
  | _, _, .v x => .v x
  | _, _, .top x => .top x
  | _, _, .ptr h hi => .ptr (he _ _ _ h) hi
  | _, _, .cptr h => .cptr (CRel.mono he h)
  | _, _, .sl h hi hn hc => .sl (he _ _ _ h) hi hn hc
  | _, _, .sl0 h hi => .sl0 (he _ _ _ h) hi
  | _, _, .lst h hn hc => .lst (LRel.mono he h) hn hc
  | _, _, .lst0 => .lst0
  | _, _, .e0 => .e0
  | _, _, .mp h => .mp (he _ _ _ h)
  | _, _, .lmp h hk hv => .lmp h hk (VRels.mono he hv)
  | _, _, .fn hx hy => .fn (VRels.mono he hx) (VRels.mono he hy)
  | _, _, .yld h => .yld (he _ _ _ h)
  | _, _, .ifc h => .ifc (VRel.mono he h)
  | _, _, .agg h => .agg (VRels.mono he h)
  | _, _, .tup h => .tup (VRels.mono he h)
theorem VRels.mono (he : Ext ρ ρ') : ∀ {x : List AV} {y : List Value}, VRels w0 ρ x y → VRels w0 ρ' x y
  | _, _, .nil => .nil
  | _, _, .cons h hs => .cons (VRel.mono he h) (VRels.mono he hs)
theorem CRel.mono (he : Ext ρ ρ') : ∀ {b off : Nat} {x : List AV}, CRel w0 ρ b off x → CRel w0 ρ' b off x
  | _, _, _, .nil => .nil
  | _, _, _, .cons hc h hs => .cons hc (VRel.mono he h) (CRel.mono he hs)
theorem LRel.mono (he : Ext ρ ρ') : ∀ {sz b off : Nat} {x : List AV}, LRel w0 ρ sz b off x → LRel w0 ρ' sz b off x
  | _, _, _, _, .nil => .nil
  | _, _, _, _, .cons hx hl h hs => .cons hx hl (CRel.mono he h) (LRel.mono he hs)
end

theorem VRels.length : ∀ {xs : List AV} {ys : List Value}, VRels w0 ρ xs ys → xs.length = ys.length
  | _, _, .nil => rfl
  | _, _, .cons _ hs => by simp [VRels.length hs]

theorem VRels.append {xs us : List AV} {ys vs : List Value} : VRels w0 ρ xs ys → VRels w0 ρ us vs → VRels w0 ρ (xs ++ us) (ys ++ vs)
  | .nil, k => k
  | .cons h hs, k => .cons h (VRels.append hs k)

theorem VRels.get {xs : List AV} {ys : List Value} : VRels w0 ρ xs ys → ∀ (i : Nat) (x : AV), xs[i]? = some x → ∃ y, ys[i]? = some y ∧ VRel w0 ρ x y
  | .nil, i, x, h => by simp at h
  | .cons h hs, 0, x, e => by simp at e; subst e; exact ⟨_, rfl, h⟩
  | .cons h hs, i + 1, x, e => by simp at e; simpa using VRels.get hs i x e

theorem VRels.of_get {xs : List AV} {ys : List Value} (hl : xs.length = ys.length) (h : ∀ (i : Nat) (x : AV) (y : Value), xs[i]? = some x → ys[i]? = some y → VRel w0 ρ x y) : VRels w0 ρ xs ys := by
  induction xs generalizing ys with
  | nil => cases ys with
    | nil => exact .nil
    | cons y ys => simp at hl
  | cons x xs ih => cases ys with
    | nil => simp at hl
    | cons y ys => exact .cons (h 0 x y rfl rfl) (ih (by simpa using hl) fun i x y a b => h (i + 1) x y (by simpa using a) (by simpa using b))

theorem VRels.v_map (l : List Value) : VRels w0 ρ (l.map .v) l := by
  induction l with
  | nil => exact .nil
  | cons x xs ih => exact .cons (.v x) ih

theorem VRels.take {xs : List AV} {ys : List Value} (h : VRels w0 ρ xs ys) (n : Nat) : VRels w0 ρ (xs.take n) (ys.take n) :=
  VRels.of_get (by simp [h.length]) fun i x y a b => by
    rw [List.getElem?_take] at a b
    split at a
    · rename_i hi; rw [if_pos hi] at b
      obtain ⟨y', e, r⟩ := h.get i x a
      rw [b] at e; cases e; exact r
    · cases a
theorem VRels.drop {xs : List AV} {ys : List Value} (h : VRels w0 ρ xs ys) (n : Nat) : VRels w0 ρ (xs.drop n) (ys.drop n) :=
  VRels.of_get (by simp [h.length]) fun i x y a b => by
    rw [List.getElem?_drop] at a b
    obtain ⟨y', e, r⟩ := h.get _ x a
    rw [b] at e; cases e; exact r

/-- The cells of related values are related. -/
theorem VRel.cells {x : AV} {y : Value} {cs : List AV} (h : VRel w0 ρ x y) (hc : x.cells? = some cs) : VRels w0 ρ cs y.cells.toList := by
  cases h with
  | v x => simp [AV.cells?] at hc; subst hc; exact VRels.v_map _
  | top x => simp [AV.cells?] at hc
  | agg h => simp [AV.cells?] at hc; subst hc; exact h
  | ptr h hi => simp [AV.cells?] at hc; subst hc; exact .cons (.ptr h hi) .nil
  | cptr h => simp [AV.cells?] at hc; subst hc; exact .cons (.cptr h) .nil
  | sl h hi hn hc' => simp [AV.cells?] at hc; subst hc; exact .cons (.sl h hi hn hc') .nil
  | sl0 h hi => simp [AV.cells?] at hc; subst hc; exact .cons (.sl0 h hi) .nil
  | lst h hn hc' => simp [AV.cells?] at hc; subst hc; exact .cons (.lst h hn hc') .nil
  | lst0 => simp [AV.cells?] at hc; subst hc; exact .cons .lst0 .nil
  | e0 => simp [AV.cells?] at hc; subst hc; exact .cons .e0 .nil
  | mp h => simp [AV.cells?] at hc; subst hc; exact .cons (.mp h) .nil
  | lmp h hk hv => simp [AV.cells?] at hc; subst hc; exact .cons (.lmp h hk hv) .nil
  | fn hx hy => simp [AV.cells?] at hc; subst hc; exact .cons (.fn hx hy) .nil
  | yld h => simp [AV.cells?] at hc; subst hc; exact .cons (.yld h) .nil
  | ifc h => simp [AV.cells?] at hc; subst hc; exact .cons (.ifc h) .nil
  | tup h => simp [AV.cells?] at hc; subst hc; exact .cons (.tup h) .nil

/-- What one cell can bear. -/
theorem VRel.one {x : AV} {y : Value} (h : VRel w0 ρ x y) (ho : x.one = true) : lone1 y = true := by
  cases h <;> first | rfl | (simp [AV.one] at ho; done) | exact ho

mutual
theorem VRel.exact : ∀ {x : AV} {y z : Value}, VRel w0 ρ x y → x.exact? = some z → y = z
  | .v _, _, z, h, e => by cases h; simp [AV.exact?] at e; exact e
  | .agg cs, y, z, h, e => by
    cases h with
    | agg h =>
      simp only [AV.exact?, Option.map_eq_some_iff] at e
      obtain ⟨l, e, rfl⟩ := e
      rw [← VRels.exact h e]
  | .ifc t x, _, z, h, e => by
    cases h with
    | ifc h =>
      simp only [AV.exact?, Option.map_eq_some_iff] at e
      obtain ⟨l, e, rfl⟩ := e
      rw [VRel.exact h e]
  | .top, _, _, _, e | .ptr .., _, _, _, e | .cptr .., _, _, _, e | .sl .., _, _, _, e | .lst .., _, _, _, e | .e0, _, _, _, e | .mp _, _, _, _, e
  | .lmp .., _, _, _, e | .fn .., _, _, _, e | .yld _, _, _, _, e | .tup _, _, _, _, e => by simp [AV.exact?] at e
theorem VRels.exact : ∀ {x : List AV} {y z : List Value}, VRels w0 ρ x y → AV.exacts? x = some z → y = z
  | [], _, z, h, e => by cases h; simp [AV.exacts?] at e; exact e.symm
  | x :: xs, _, z, h, e => by
    cases h with
    | cons h hs =>
      simp only [AV.exacts?] at e
      cases hx : x.exact? with
      | none => simp [hx] at e
      | some y =>
        simp only [hx, Option.map_eq_some_iff] at e
        obtain ⟨l, e, rfl⟩ := e
        rw [VRel.exact h hx, VRels.exact hs e]
end

theorem CRel.cell {b off : Nat} {cs : List AV} : CRel w0 ρ b off cs → ∀ (i : Nat) (x : AV), cs[i]? = some x → ∃ y, w0.cell? ⟨b, off + i, none⟩ = some y ∧ VRel w0 ρ x y
  | .nil, i, x, h => by simp at h
  | .cons hc h hs, 0, x, e => by simp at e; subst e; exact ⟨_, hc, h⟩
  | .cons hc h hs, i + 1, x, e => by
    simp at e
    obtain ⟨y, hy, hr⟩ := CRel.cell hs i x e
    exact ⟨y, by rw [show off + (i + 1) = off + 1 + i by omega]; exact hy, hr⟩
theorem CRel.drop {b off : Nat} {cs : List AV} (h : CRel w0 ρ b off cs) : ∀ (n : Nat), CRel w0 ρ b (off + n) (cs.drop n)
  | 0 => h
  | n + 1 => by
    cases h with
    | nil => simpa using .nil
    | cons hc h hs => have := CRel.drop hs n; rw [show off + (n + 1) = off + 1 + n by omega]; simpa using this
theorem CRel.append {b : Nat} : ∀ {off : Nat} {cs ds : List AV}, CRel w0 ρ b off cs → CRel w0 ρ b (off + cs.length) ds → CRel w0 ρ b off (cs ++ ds)
  | _, [], _, _, k => by simpa using k
  | off, c :: cs, ds, .cons hc h hs, k => .cons hc h (CRel.append hs (by rw [show off + 1 + cs.length = off + (c :: cs).length by simp; omega]; exact k))
theorem LRel.get {sz b off : Nat} {xs : List AV} : LRel w0 ρ sz b off xs → ∀ (i : Nat) (x : AV) (cs : List AV), xs[i]? = some x → x.cells? = some cs → CRel w0 ρ b (off + i * sz) cs ∧ cs.length = sz
  | .nil, i, x, cs, h, _ => by simp at h
  | .cons hx hl h hs, 0, x, cs, e, ec => by simp at e; subst e; rw [hx] at ec; cases ec; simpa using ⟨h, hl⟩
  | .cons hx hl h hs, i + 1, x, cs, e, ec => by
    simp at e
    have := LRel.get hs i x cs e ec
    rw [Nat.add_mul, Nat.one_mul, show off + (i * sz + sz) = off + sz + i * sz by omega]
    exact this
theorem LRel.drop {sz b off : Nat} {xs : List AV} (h : LRel w0 ρ sz b off xs) : ∀ (n : Nat), LRel w0 ρ sz b (off + n * sz) (xs.drop n)
  | 0 => by simpa using h
  | n + 1 => by
    cases h with
    | nil => simpa using .nil
    | cons hx hl h hs =>
      have := LRel.drop hs n
      rw [Nat.add_mul, Nat.one_mul, show off + (n * sz + sz) = off + sz + n * sz by omega]; simpa using this
theorem LRel.take {sz b off : Nat} {xs : List AV} : LRel w0 ρ sz b off xs → ∀ (n : Nat), LRel w0 ρ sz b off (xs.take n)
  | .nil, n => by simpa using .nil
  | .cons hx hl h hs, 0 => by simpa using .nil
  | .cons hx hl h hs, n + 1 => by simpa using .cons hx hl h (LRel.take hs n)
theorem LRel.cells {sz b : Nat} : ∀ {off : Nat} {xs l : List AV}, LRel w0 ρ sz b off xs → flatA xs = some l → CRel w0 ρ b off l ∧ l.length = xs.length * sz
  | _, _, l, .nil, h => by simp [flatA] at h; subst h; exact ⟨.nil, by simp⟩
  | off, _, l, .cons (x := x) (cs := cs) (xs := xs) hx hl hc hs, h => by
    simp only [flatA, hx, Option.map_eq_some_iff] at h
    obtain ⟨l', h', rfl⟩ := h
    obtain ⟨r, e⟩ := LRel.cells hs h'
    refine ⟨?_, by simp [hl, e, Nat.add_mul]; omega⟩
    subst hl
    exact CRel.append hc r
end

end Go.Ai
