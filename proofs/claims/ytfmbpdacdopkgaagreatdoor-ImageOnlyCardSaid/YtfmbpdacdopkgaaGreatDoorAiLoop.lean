/- The abstract interpreter: loops by an invariant; what a state keeps; slices read. Conditions: none. -/
import Derived.Test.YtfmbpdacdopkgaaGreatDoorAiSym
namespace Go.Ai

theorem iter_inv {f : AFr → St → Option (AExit × AFr × St)} (I : Nat → AFr → St → Prop) (Q : AExit → AFr → St → Prop) (m : Nat)
    (hs : ∀ k a σ, k < m → I k a σ → (∃ a' σ', f a σ = some (.normal, a', σ') ∧ I (k + 1) a' σ') ∨ (∃ e a' σ', f a σ = some (e, a', σ') ∧ (∀ u v, (e, u, v) ≠ (AExit.normal, a', σ')) ∧ Q e a' σ'))
    (he : ∀ a σ, I m a σ → ∃ e a' σ', f a σ = some (e, a', σ') ∧ (∀ u v, (e, u, v) ≠ (AExit.normal, a', σ')) ∧ Q e a' σ')
    {N : Nat} (hN : m < N) {a : AFr} {σ : St} (h0 : I 0 a σ) : ∃ e a' σ', iterA f N a σ = some (e, a', σ') ∧ Q e a' σ' := by
  have stop : ∀ (n : Nat) e a (σ : St) a' σ', f a σ = some (e, a', σ') → (∀ u v, (e, u, v) ≠ (AExit.normal, a', σ')) → iterA f (n + 1) a σ = some (e, a', σ') := by
    intro n e a σ a' σ' h1 h2
    cases e with
    | normal => exact absurd rfl (h2 a' σ')
    | exit _ => simp only [iterA, h1]
    | goto _ => simp only [iterA, h1]
    | ret => simp only [iterA, h1]
    | panic _ => simp only [iterA, h1]
  have key : ∀ (d N : Nat) (k : Nat) (a : AFr) (σ : St), k + d = m → d < N → I k a σ → ∃ e a' σ', iterA f N a σ = some (e, a', σ') ∧ Q e a' σ' := by
    intro d
    induction d with
    | zero =>
      intro N k a σ hk hN hI
      obtain ⟨N, rfl⟩ : ∃ n, N = n + 1 := ⟨N - 1, by omega⟩
      obtain rfl : k = m := by omega
      obtain ⟨e, a', σ', h1, h2, h3⟩ := he a σ hI
      exact ⟨e, a', σ', stop N e a σ a' σ' h1 h2, h3⟩
    | succ d ih =>
      intro N k a σ hk hN hI
      obtain ⟨N, rfl⟩ : ∃ n, N = n + 1 := ⟨N - 1, by omega⟩
      rcases hs k a σ (by omega) hI with ⟨a', σ', h1, h2⟩ | ⟨e, a', σ', h1, h2, h3⟩
      · obtain ⟨e, a'', σ'', h3, h4⟩ := ih N (k + 1) a' σ' (by omega) (by omega) h2
        exact ⟨e, a'', σ'', by simp only [iterA, h1, h3], h4⟩
      · exact ⟨e, a', σ', stop N e a σ a' σ' h1 h2, h3⟩
  exact key m N 0 a σ (by omega) hN h0

theorem get_sset (σ : St) (o k : Nat) (x : AObj) : (σ.set o x).get k = if o = k then some x else σ.get k := by
  by_cases h : o = k
  · subst h; rw [St.get_set_same, if_pos rfl]
  · rw [St.get_set_ne _ _ _ _ h, if_neg h]
theorem get_sadd (σ : St) (k : Nat) (x : AObj) : (σ.add x).get k = if σ.next = k then some x else σ.get k := by
  by_cases h : σ.next = k
  · subst h; rw [St.get_add_same, if_pos rfl]
  · rw [St.get_add_ne _ _ _ h, if_neg h]
theorem get_sdel (σ : St) (o k : Nat) : (σ.del o).get k = if o = k then none else σ.get k := by
  by_cases h : o = k
  · subst h; rw [St.get_del_same, if_pos rfl]
  · rw [St.get_del_ne _ _ _ h, if_neg h]
theorem next_set (σ : St) (o : Nat) (x : AObj) : (σ.set o x).next = σ.next := rfl
theorem next_add (σ : St) (x : AObj) : (σ.add x).next = σ.next + 1 := rfl
theorem next_del (σ : St) (o : Nat) : (σ.del o).next = σ.next := rfl

/-- Objects below a number are as they were. -/
structure Keep (b : Nat) (σ σ' : St) : Prop where
  le : σ.next ≤ σ'.next
  same : ∀ o, o < b → σ'.get o = σ.get o

theorem Keep.refl (b : Nat) (σ : St) : Keep b σ σ := ⟨Nat.le_refl _, fun _ _ => rfl⟩
theorem Keep.trans {b c : Nat} {σ τ υ : St} (h : Keep b σ τ) (k : Keep c τ υ) (hbc : b ≤ c) : Keep b σ υ :=
  ⟨Nat.le_trans h.le k.le, fun o ho => (k.same o (by omega)).trans (h.same o ho)⟩
theorem Keep.mono {b c : Nat} {σ τ : St} (h : Keep b σ τ) (hc : c ≤ b) : Keep c σ τ := ⟨h.le, fun o ho => h.same o (by omega)⟩
theorem Keep.add {b : Nat} {σ : St} (x : AObj) (hb : b ≤ σ.next) : Keep b σ (σ.add x) :=
  ⟨by rw [next_add]; omega, fun o ho => by rw [get_sadd, if_neg (by omega)]⟩
theorem Keep.set {b o : Nat} {σ : St} (x : AObj) (hb : b ≤ o) : Keep b σ (σ.set o x) :=
  ⟨by rw [next_set]; omega, fun k hk => by rw [get_sset, if_neg (by omega)]⟩
theorem Keep.del {b o : Nat} {σ : St} (hb : b ≤ o) : Keep b σ (σ.del o) :=
  ⟨by rw [next_del]; omega, fun k hk => by rw [get_sdel, if_neg (by omega)]⟩

theorem getD_lt {α : Type} {l : List α} {i : Nat} (h : i < l.length) (d : α) : l.getD i d = l[i] := by simp [List.getD, h]

/-- Cells in an object, from a place on. -/
def Row (σ : St) (o i g : Nat) (cs : List AV) : Prop :=
  ∃ all g' m, σ.get o = some (.cells all g' m) ∧ m ≤ g ∧ g ≤ g' ∧ i + cs.length ≤ all.length ∧ (all.drop i).take cs.length = cs

theorem Row.keep {σ σ' : St} {o i g : Nat} {cs : List AV} (h : Row σ o i g cs) (hs : σ'.get o = σ.get o) : Row σ' o i g cs := by
  obtain ⟨all, g', m, h1, h2⟩ := h
  exact ⟨all, g', m, hs.trans h1, h2⟩
theorem Row.rd {σ : St} {o i g : Nat} {cs : List AV} (h : Row σ o i g cs) {j n e : Nat} (he : n ≤ e) (hj : j + n ≤ cs.length) : rdCells σ (.ptr o (i + j) g e) n = some ((cs.drop j).take n) := by
  obtain ⟨all, g', m, h1, h2, h3, h4, h5⟩ := h
  have : (all.drop (i + j)).take n = (cs.drop j).take n := by
    rw [← h5, List.drop_take, List.take_take, List.drop_drop, Nat.min_eq_left (by omega)]
  simp only [rdCells, he, if_true, h1]
  rw [if_pos (by simp; omega), this]

/-- A slice value, and the cells of its elements. -/
def SlAt (σ : St) (sz : Nat) (x : AV) (xs : List (List AV)) : Prop :=
  (∀ y ∈ xs, y.length = sz) ∧
  match x with
  | .v (.slice none 0 0) => xs = []
  | .e0 => xs = []
  | .lst sz' ys => sz' = sz ∧ ys.map (·.cells?) = xs.map some
  | .sl o b n g sz' => sz' = sz ∧ n = xs.length ∧ Row σ o b g xs.flatten
  | _ => False

/-- What a slice value has in the heap. -/
def SlIn (x : AV) (o : Nat) : Prop := ∃ b n g sz, x = .sl o b n g sz

theorem SlAt.keep {σ σ' : St} {sz : Nat} {x : AV} {xs : List (List AV)} (h : SlAt σ sz x xs) (hs : ∀ o b n g s, x = .sl o b n g s → σ'.get o = σ.get o) : SlAt σ' sz x xs := by
  refine ⟨h.1, ?_⟩
  have h2 := h.2
  split at h2
  · exact h2
  · exact h2
  · exact h2
  · rename_i o b n g s; exact ⟨h2.1, h2.2.1, h2.2.2.keep (hs o b n g s rfl)⟩
  · exact h2.elim

theorem flat_len {sz : Nat} : ∀ {xs : List (List AV)}, (∀ y ∈ xs, y.length = sz) → xs.flatten.length = xs.length * sz
  | [], _ => by simp
  | x :: xs, h => by
    rw [List.flatten_cons, List.length_append, flat_len (fun y hy => h y (List.mem_cons_of_mem _ hy)), h x (List.mem_cons_self ..), List.length_cons, Nat.succ_mul]; omega
theorem flat_at {sz : Nat} : ∀ {xs : List (List AV)} (_ : ∀ y ∈ xs, y.length = sz) {i : Nat} {y : List AV}, xs[i]? = some y → (xs.flatten.drop (i * sz)).take sz = y
  | [], _, i, y, h => by simp at h
  | x :: xs, hx, 0, y, h => by
    simp at h; subst h
    rw [List.flatten_cons, Nat.zero_mul, List.drop_zero, ← hx x (List.mem_cons_self ..), List.take_left]
  | x :: xs, hx, i + 1, y, h => by
    have hl := hx x (List.mem_cons_self ..)
    rw [List.flatten_cons, Nat.succ_mul, show i * sz + sz = x.length + i * sz by omega, ← List.drop_drop, List.drop_left]
    exact flat_at (fun y hy => hx y (List.mem_cons_of_mem _ hy)) (by simpa using h)

theorem SlAt.len {E : Env} {σ : St} {t el : TypeId} {sz : Nat} {x : AV} {xs : List (List AV)} (h : SlAt σ sz x xs) (ht : E.und t = some (.slice el)) : lenA E σ t x = some (.i xs.length) := by
  have h2 := h.2
  simp only [lenA, ht]
  split at h2 <;> simp_all
  have : xs.length = (xs.map some).length := by simp
  rw [this, ← h2.2]; simp

theorem SlAt.at {E : Env} {σ : St} {t el : TypeId} {sz : Nat} {x : AV} {xs : List (List AV)} (h : SlAt σ sz x xs) (ht : E.und t = some (.slice el)) (hz : E.size el = some sz) {i : Nat} {y : List AV} (hi : xs[i]? = some y) {k : IntKind} :
    ∃ p, indexAddrA E t x (.v (.int k (i : Int))) = some p ∧ rdCells σ p sz = some y := by
  obtain ⟨hl, h2⟩ := h
  have hil : i < xs.length := by
    rcases Nat.lt_or_ge i xs.length with h | h
    · exact h
    · rw [List.getElem?_eq_none h] at hi; cases hi
  have hy : y.length = sz := hl y (List.mem_of_getElem? hi)
  have hn : ¬ ((i : Int) < 0) := by omega
  split at h2
  · subst h2; simp at hi
  · subst h2; simp at hi
  · rename_i sz' ys
    obtain ⟨rfl, h2⟩ := h2
    have h3 : (ys.map (·.cells?))[i]? = some (some y) := by rw [h2]; simp [hi]
    rw [List.getElem?_map] at h3
    obtain ⟨z, hz1, hz2⟩ := Option.map_eq_some_iff.1 h3
    refine ⟨.cptr y, ?_, ?_⟩
    · simp [indexAddrA, ht, hz, hz1, hz2, hn]
    · simp [rdCells, hy, List.take_of_length_le]
  · rename_i o b n g sz'
    obtain ⟨rfl, rfl, h2⟩ := h2
    refine ⟨.ptr o (b + i * sz') g sz', ?_, ?_⟩
    · simp [indexAddrA, ht, hz, hil, hn]
    · have hle : i * sz' + sz' ≤ xs.flatten.length := by
        rw [flat_len hl, ← Nat.succ_mul]; exact Nat.mul_le_mul_right _ hil
      rw [h2.rd (Nat.le_refl _) hle, flat_at hl hi]
  · cases h2

theorem load_agg {E : Env} {σ : St} {t : TypeId} {p : AV} {n : Nat} {cs : List AV} (ha : E.agg t = some true) (hn : E.size t = some n) (h : rdCells σ p n = some cs) : loadA E σ t p = some (.agg cs) := by
  simp only [loadA, ha, hn, h, Option.map_some]
theorem load_one {E : Env} {σ : St} {t : TypeId} {p c : AV} (ha : E.agg t = some false) (h : rdCells σ p 1 = some [c]) : loadA E σ t p = some c := by
  simp only [loadA, ha, h]
end Go.Ai

namespace Go.Ai

section
variable {K : Kont} {E : Env} {N : Nat} {ro : Option Nat} {x y c : Code} {a a' : AFr} {σ σ' : St} {r : Option (AExit × AFr × St)} {id : Nat}
theorem seq_n (h : codeA K E N ro x a σ = some (.normal, a', σ')) (k : codeA K E N ro y a' σ' = r) : codeA K E N ro (.seq x y) a σ = r := by rw [code_seq, h]; exact k
theorem seq_ret (h : codeA K E N ro x a σ = some (.ret, a', σ')) : codeA K E N ro (.seq x y) a σ = some (.ret, a', σ') := by rw [code_seq, h]
theorem seq_exit (h : codeA K E N ro x a σ = some (.exit id, a', σ')) : codeA K E N ro (.seq x y) a σ = some (.exit id, a', σ') := by rw [code_seq, h]
theorem block_n (h : codeA K E N ro c a σ = some (.normal, a', σ')) : codeA K E N ro (.block id c) a σ = some (.normal, a', σ') := by rw [code_block, h]
theorem block_ret (h : codeA K E N ro c a σ = some (.ret, a', σ')) : codeA K E N ro (.block id c) a σ = some (.ret, a', σ') := by rw [code_block, h]
theorem block_x (h : codeA K E N ro c a σ = some (.exit id, a', σ')) : codeA K E N ro (.block id c) a σ = some (.normal, a', σ') := by rw [code_block, h]; simp
theorem loop_of {e : AExit} (h : iterA (codeA K E N ro c) N a σ = some (e, a', σ')) : codeA K E N ro (.loop c) a σ = some (e, a', σ') := by rw [code_loop, h]
theorem code_region_ro (l : Nat) (id : Nat) (ops : Array Oper) (h : hasDefer ops = false) : codeA K E N (some l) (.region id ops false) a σ = opsA K E ops ops.toList a σ := by
  unfold codeA
  simp [h]
end

/-- The assignment of a range over a function. -/
def rgAsg : Code → Code
  | .rangeFunc _ _ x _ => x
  | _ => .skip

theorem getLoop_eq {σ : St} {l : Nat} {r : ALoop} (h : σ.get l = some (.loop r)) : getLoop? σ l = some r := by simp [getLoop?, h]

theorem round_n {K : Kont} {E : Env} {N l : Nat} {args : List AV} {σ σ₁ σ₂ : St} {r : ALoop} {a a₁ a₂ : AFr} (hl : σ.get l = some (.loop r)) (hs : r.state = .ready) (hp : setParams r.params args { r.tm with df := [] } = some a)
    (ha : codeA K E N (some l) r.assign a σ = some (.normal, a₁, σ₁)) (hl1 : σ₁.get l = some (.loop r))
    (hb : codeA K E N (some l) r.body a₁ (σ₁.set l (.loop { r with state := .busy })) = some (.normal, a₂, σ₂)) (hd : a₂.df = []) (hl2 : σ₂.get l = some (.loop { r with state := .busy })) :
    roundBody K E N l args σ = some (.ret (.b true), σ₂.set l (.loop { r with state := .ready, pending := none })) := by
  unfold roundBody
  simp only [getLoop_eq hl, hp, ha, getLoop_eq hl1, hs, hb, hd, getLoop_eq hl2, List.isEmpty_nil, Bool.not_true, Bool.false_eq_true, if_false]
  rfl
theorem round_ret {K : Kont} {E : Env} {N l : Nat} {args : List AV} {σ σ₁ σ₂ : St} {r : ALoop} {a a₁ a₂ : AFr} (hl : σ.get l = some (.loop r)) (hs : r.state = .ready) (hp : setParams r.params args { r.tm with df := [] } = some a)
    (ha : codeA K E N (some l) r.assign a σ = some (.normal, a₁, σ₁)) (hl1 : σ₁.get l = some (.loop r))
    (hb : codeA K E N (some l) r.body a₁ (σ₁.set l (.loop { r with state := .busy })) = some (.ret, a₂, σ₂)) (hd : a₂.df = []) (hl2 : σ₂.get l = some (.loop { r with state := .busy })) :
    roundBody K E N l args σ = some (.ret (.b false), σ₂.set l (.loop { r with state := .done, pending := some .ret })) := by
  unfold roundBody
  simp only [getLoop_eq hl, hp, ha, getLoop_eq hl1, hs, hb, hd, getLoop_eq hl2, List.isEmpty_nil, Bool.not_true, Bool.false_eq_true, if_false]
  rfl

/-- The state in which a range over a function begins. -/
def rangeSt (σ : St) (a : AFr) (ps : Array Tmp) (assign body : Code) : St :=
  (σ.add (.dfr false)).add (.loop { state := .ready, pending := none, tm := a, params := ps.toList, assign, body, dfr := σ.next })

theorem range_n {K : Kont} {E : Env} {N g : Nat} {f : Operand} {ps : Array Tmp} {assign body : Code} {a : AFr} {σ σ₂ : St} {cap : List AV} {fn : Func} {x : AV} {r : ALoop} (hf : opd E a f = .fn g [] cap) (hs : E.sum g = none) (hfn : E.fn g = some fn)
    (hc : K.call g (.yld (σ.next + 1) :: cap) (rangeSt σ a ps assign body) = some (.ret x, σ₂)) (hl : σ₂.get (σ.next + 1) = some (.loop r)) (hb : r.state = .ready) (hp : r.pending = none) :
    codeA K E N none (.rangeFunc f ps assign body) a σ = some (.normal, { a with df := .mark σ.next :: a.df }, σ₂.set (σ.next + 1) (.loop { r with state := .exhausted })) := by
  show rangeA K E none f ps assign body a σ = _
  unfold rangeA
  simp only [hf, callee?, List.nil_append, List.singleton_append, hs, hfn]
  unfold rangeSt at hc
  simp only [hc, getLoop_eq hl, hb, hp]
  rfl
theorem range_ret {K : Kont} {E : Env} {N g : Nat} {f : Operand} {ps : Array Tmp} {assign body : Code} {a : AFr} {σ σ₂ : St} {cap : List AV} {fn : Func} {x : AV} {r : ALoop} (hf : opd E a f = .fn g [] cap) (hs : E.sum g = none) (hfn : E.fn g = some fn)
    (hc : K.call g (.yld (σ.next + 1) :: cap) (rangeSt σ a ps assign body) = some (.ret x, σ₂)) (hl : σ₂.get (σ.next + 1) = some (.loop r)) (hb : r.state = .done) (hp : r.pending = some .ret) :
    codeA K E N none (.rangeFunc f ps assign body) a σ = some (.ret, { a with df := .mark σ.next :: a.df }, σ₂.set (σ.next + 1) (.loop { r with state := .exhausted })) := by
  show rangeA K E none f ps assign body a σ = _
  unfold rangeA
  simp only [hf, callee?, List.nil_append, List.singleton_append, hs, hfn]
  unfold rangeSt at hc
  simp only [hc, getLoop_eq hl, hb, hp, jumpA]
  rfl

/-- A call behind a range over a function. -/
theorem call_mark {K : Kont} {E : Env} {N : Nat} {f : FuncId} {fn : Func} {c : Code} {args : List AV} {σ σ' : St} {a' : AFr} {x : AV} {d : Nat} (hf : E.fn f = some fn) (hb : fn.body = some c)
    (hc : codeA K E N none c (frame0 fn args) σ = some (.ret, a', σ')) (hd : a'.df = [.mark d]) (hm : σ'.get d = some (.dfr false)) (hr : resultA E (σ'.set d (.dfr true)) a' fn = some x) :
    callBody K E N f args σ = some (.ret x, σ'.set d (.dfr true)) := by
  unfold callBody
  simp only [hf, hb, hc, hd, leaveA, hm, hr, Option.map_some]
theorem call_norm {K : Kont} {E : Env} {N : Nat} {f : FuncId} {fn : Func} {c : Code} {args : List AV} {σ σ' : St} {a' : AFr} {x : AV} (hf : E.fn f = some fn) (hb : fn.body = some c)
    (hc : codeA K E N none c (frame0 fn args) σ = some (.normal, a', σ')) (hd : a'.df = []) (hr : resultA E σ' a' fn = some x) : callBody K E N f args σ = some (.ret x, σ') := by
  unfold callBody
  simp only [hf, hb, hc, hd, leaveA, hr, Option.map_some]
/-- A loop by an invariant: it ends by its own exit, or it returns. -/
theorem loop_inv {K : Kont} {E : Env} {N : Nat} {c : Code} (id : Nat) (I : Nat → AFr → St → Prop) (X R : AFr → St → Prop) (m : Nat)
    (hs : ∀ k a σ, k < m → I k a σ → (∃ a' σ', codeA K E N none c a σ = some (.normal, a', σ') ∧ I (k + 1) a' σ') ∨ (∃ a' σ', codeA K E N none c a σ = some (.ret, a', σ') ∧ R a' σ'))
    (he : ∀ a σ, I m a σ → ∃ a' σ', codeA K E N none c a σ = some (.exit id, a', σ') ∧ X a' σ')
    (hN : m < N) {a : AFr} {σ : St} (h0 : I 0 a σ) : (∃ a' σ', codeA K E N none (.block id (.loop c)) a σ = some (.normal, a', σ') ∧ X a' σ') ∨ (∃ a' σ', codeA K E N none (.block id (.loop c)) a σ = some (.ret, a', σ') ∧ R a' σ') := by
  obtain ⟨e, a', σ', h, hq⟩ := iter_inv (f := codeA K E N none c) I (fun e a' σ' => (e = .exit id ∧ X a' σ') ∨ (e = .ret ∧ R a' σ')) m
    (fun k a σ hk hI => (hs k a σ hk hI).imp_right fun ⟨a', σ', h, hr⟩ => ⟨.ret, a', σ', h, (fun u v e => by cases e), .inr ⟨rfl, hr⟩⟩)
    (fun a σ hI => by
      obtain ⟨a', σ', h, hx⟩ := he a σ hI
      exact ⟨.exit id, a', σ', h, (fun u v e => by cases e), .inl ⟨rfl, hx⟩⟩) hN h0
  have h := loop_of h
  rcases hq with ⟨rfl, hx⟩ | ⟨rfl, hr⟩
  · exact .inl ⟨a', σ', block_x h, hx⟩
  · exact .inr ⟨a', σ', block_ret h, hr⟩
/-- A loop that does not return. -/
theorem loop_all {K : Kont} {E : Env} {N : Nat} {c : Code} (id : Nat) (I : Nat → AFr → St → Prop) (X : AFr → St → Prop) (m : Nat)
    (hs : ∀ k a σ, k < m → I k a σ → ∃ a' σ', codeA K E N none c a σ = some (.normal, a', σ') ∧ I (k + 1) a' σ')
    (he : ∀ a σ, I m a σ → ∃ a' σ', codeA K E N none c a σ = some (.exit id, a', σ') ∧ X a' σ')
    (hN : m < N) {a : AFr} {σ : St} (h0 : I 0 a σ) : ∃ a' σ', codeA K E N none (.block id (.loop c)) a σ = some (.normal, a', σ') ∧ X a' σ' := by
  rcases loop_inv id I X (fun _ _ => False) m (fun k a σ hk hI => .inl (hs k a σ hk hI)) he hN h0 with h | ⟨_, _, _, h⟩
  · exact h
  · exact h.elim
theorem body_n {K : Kont} {E : Env} {N : Nat} {ro : Option Nat} {x y z w : Code} {a a1 a2 : AFr} {σ σ1 σ2 : St} {r : Option (AExit × AFr × St)} (h1 : codeA K E N ro (.seq x y) a σ = some (.normal, a1, σ1)) (h2 : codeA K E N ro z a1 σ1 = some (.normal, a2, σ2)) (h3 : codeA K E N ro w a2 σ2 = r) :
    codeA K E N ro (.seq x (.seq (.seq y z) w)) a σ = r := by
  rw [code_seq] at h1
  split at h1
  · rename_i b τ hb
    exact seq_n hb (seq_n (seq_n h1 h2) h3)
  · rename_i hne
    exact absurd h1 (hne a1 σ1)
theorem body_ret {K : Kont} {E : Env} {N : Nat} {ro : Option Nat} {x y z w : Code} {a a1 a2 : AFr} {σ σ1 σ2 : St} (h1 : codeA K E N ro (.seq x y) a σ = some (.normal, a1, σ1)) (h2 : codeA K E N ro z a1 σ1 = some (.ret, a2, σ2)) :
    codeA K E N ro (.seq x (.seq (.seq y z) w)) a σ = some (.ret, a2, σ2) := by
  rw [code_seq] at h1
  split at h1
  · rename_i b τ hb
    exact seq_n hb (seq_ret (seq_n h1 h2))
  · rename_i hne
    exact absurd h1 (hne a1 σ1)
theorem ex2 {α β : Type} {x : α} {y : β} {p : α → β → Prop} : (∃ a b, (x = a ∧ y = b) ∧ p a b) ↔ p x y :=
  ⟨fun ⟨_, _, ⟨h1, h2⟩, h⟩ => h1 ▸ h2 ▸ h, fun h => ⟨_, _, ⟨rfl, rfl⟩, h⟩⟩
end Go.Ai

namespace Go.Ai

/-- A slice that grows; its cells lie in an object from number `c` on. -/
def Grow (c : Nat) (σ : St) (sz : Nat) (x : AV) (xs : List (List AV)) : Prop :=
  (∀ y ∈ xs, y.length = sz) ∧ ((x = .v (.slice none 0 0) ∧ xs = []) ∨ ∃ q g m, x = .sl q 0 xs.length g sz ∧ c ≤ q ∧ q < σ.next ∧ σ.get q = some (.cells xs.flatten g m) ∧ m ≤ g)

theorem Grow.nil (c : Nat) (σ : St) (sz : Nat) : Grow c σ sz (.v (.slice none 0 0)) [] := ⟨fun _ h => (by cases h), .inl ⟨rfl, rfl⟩⟩
theorem Grow.slAt {c : Nat} {σ : St} {sz : Nat} {x : AV} {xs : List (List AV)} (h : Grow c σ sz x xs) : SlAt σ sz x xs := by
  obtain ⟨hl, ⟨rfl, rfl⟩ | ⟨q, g, m, rfl, h1, h2, h3, h4⟩⟩ := h
  · exact ⟨hl, rfl⟩
  · exact ⟨hl, rfl, rfl, _, g, m, h3, h4, Nat.le_refl _, by simp, by rw [List.drop_zero, List.take_length]⟩
theorem Grow.keep {c : Nat} {σ σ' : St} {sz : Nat} {x : AV} {xs : List (List AV)} (h : Grow c σ sz x xs) (hn : σ.next ≤ σ'.next) (hk : ∀ o, c ≤ o → o < σ.next → σ'.get o = σ.get o) : Grow c σ' sz x xs := by
  obtain ⟨hl, ⟨rfl, rfl⟩ | ⟨q, g, m, rfl, h1, h2, h3, h4⟩⟩ := h
  · exact ⟨hl, .inl ⟨rfl, rfl⟩⟩
  · exact ⟨hl, .inr ⟨q, g, m, rfl, h1, by omega, (hk q h1 h2).trans h3, h4⟩⟩
theorem Grow.cell {c : Nat} {σ : St} {sz : Nat} {x : AV} {xs : List (List AV)} (h : Grow c σ sz x xs) : x.cells? = some [x] ∧ x.one = true := by
  obtain ⟨hl, ⟨rfl, rfl⟩ | ⟨q, g, m, rfl, h1, h2, h3, h4⟩⟩ := h
  · exact ⟨rfl, rfl⟩
  · exact ⟨rfl, rfl⟩

theorem append_grow {E : Env} {c : Nat} {σ : St} {sz : Nat} {x : AV} {xs : List (List AV)} {t u el el' : TypeId} {inf : TypeInfo} {z : Value} (ht : E.und t = some (.slice el)) (hu : E.und u = some (.slice el')) (hi : E.inf el = some inf) (hz : inf.zero = some z)
    (hsz : inf.size = sz) (hzs : z.cells.size = sz) (hb : inf.bytes ≤ 65536) (hpos : sz ≠ 0) (h : Grow c σ sz x xs) (hc : c ≤ σ.next) {p : Nat} {y : List AV} (hp : σ.get p = some (.cells y 0 0)) (hy : y.length = sz) (ho : y.all (·.one) = true)
    (hlim : xs.length < 1048576) : ∃ x' σ', appendA E σ [t, u] x (.sl p 0 1 0 sz) = some (x', σ') ∧ Grow c σ' sz x' (xs ++ [y]) ∧ Keep c σ σ' := by
  have hlb : (xs.length + 1) * inf.bytes ≤ maxElems := by
    unfold maxElems
    calc (xs.length + 1) * inf.bytes ≤ 1048576 * 65536 := Nat.mul_le_mul (by omega) hb
      _ ≤ 140737488355328 := by decide
  have hlm : xs.length + 1 ≤ maxElems := by unfold maxElems; omega
  have hrd : rdCells σ (.ptr p 0 0 (1 * sz)) (1 * sz) = some y := by
    simp [rdCells, hp, hy, List.take_of_length_le]
  have hel : elemsA σ sz (.sl p 0 1 0 sz) = some (1, y) := by
    simp only [elemsA, if_true, hrd, Option.map_some]
  have hza : zerosA E [u] = some false := by simp [zerosA, hu]
  have hnew : ∀ w, w ∈ xs ++ [y] → w.length = sz := by
    intro w hw
    rcases List.mem_append.1 hw with hw | hw
    · exact h.1 w hw
    · simp at hw; subst hw; exact hy
  obtain ⟨hl, ⟨rfl, rfl⟩ | ⟨q, g, m, rfl, h1, h2, h3, h4⟩⟩ := h
  · refine ⟨.sl σ.next 0 1 0 sz, newA σ y, ?_, ⟨hnew, .inr ⟨σ.next, 0, 0, rfl, hc, by show σ.next < σ.next + 1; omega, ?_, Nat.le_refl _⟩⟩, Keep.add _ hc⟩
    · simp only [List.length_nil, Nat.zero_add] at hlb hlm
      unfold appendA
      simp only [ht, hi, hza, hsz, hel, hz]
      simp [hy, ho, hpos, hb, hzs, hlm]
      simpa using hlb
    · show (σ.add _).get σ.next = _
      rw [St.get_add_same]; simp
  · have hfl : xs.length * sz = xs.flatten.length := (flat_len hl).symm
    refine ⟨.sl q 0 (xs.length + 1) (g + 1) sz, σ.set q (.cells (xs.flatten ++ y) (g + 1) m), ?_, ⟨hnew, .inr ⟨q, g + 1, m, by simp, h1, h2, by rw [St.get_set_same]; simp, by omega⟩⟩, Keep.set _ h1⟩
    unfold appendA
    simp only [ht, hi, hza, hsz, hel, hz]
    simp [hy, ho, hpos, hb, hzs, hlb, hlm, h3, h4, hfl]
    try simp_all

/-- The elements of a slice value, one after the other. -/
theorem flat_of : ∀ {ys : List AV} {xs : List (List AV)}, ys.map (·.cells?) = xs.map some → flatA ys = some xs.flatten
  | [], [], _ => by simp [flatA]
  | [], _ :: _, h => by simp at h
  | _ :: _, [], h => by simp at h
  | y :: ys, x :: xs, h => by
    simp only [List.map_cons, List.cons.injEq] at h
    simp only [flatA, h.1, flat_of h.2, Option.map_some, List.flatten_cons]
theorem SlAt.elems {σ : St} {sz : Nat} {x : AV} {xs : List (List AV)} (h : SlAt σ sz x xs) : elemsA σ sz x = some (xs.length, xs.flatten) := by
  obtain ⟨hl, h2⟩ := h
  split at h2
  · subst h2; simp [elemsA]
  · subst h2; simp [elemsA]
  · rename_i sz' ys
    obtain ⟨rfl, h2⟩ := h2
    have hlen : ys.length = xs.length := by have := congrArg List.length h2; simpa using this
    simp only [elemsA, if_true, flat_of h2, Option.map_some, hlen]
  · rename_i o b n g sz'
    obtain ⟨rfl, rfl, h2⟩ := h2
    have := h2.rd (j := 0) (n := xs.length * sz') (e := xs.length * sz') (Nat.le_refl _) (by rw [flat_len hl]; omega)
    rw [Nat.add_zero] at this
    simp only [elemsA, if_true, this, Option.map_some, List.drop_zero]
    rw [List.take_of_length_le (by rw [flat_len hl]; omega)]
  · cases h2

/-- `append([]T{}, l...)`. -/
theorem append_all {E : Env} {σ : St} {sz : Nat} {x : AV} {xs : List (List AV)} {t u el el' : TypeId} {inf : TypeInfo} {z : Value} (ht : E.und t = some (.slice el)) (hu : E.und u = some (.slice el')) (hi : E.inf el = some inf) (hz : inf.zero = some z)
    (hsz : inf.size = sz) (hzs : z.cells.size = sz) (hb : inf.bytes ≤ 65536) (hpos : sz ≠ 0) (h : SlAt σ sz x xs) (ho : ∀ y ∈ xs, y.all (·.one) = true) {p : Nat} (hp : σ.get p = some (.cells [] 0 0))
    (hlim : xs.length * inf.bytes ≤ maxElems) (hlim2 : xs.length ≤ maxElems) : ∃ x' σ', appendA E σ [t, u] (.sl p 0 0 0 sz) x = some (x', σ') ∧ SlAt σ' sz x' xs ∧ σ'.next = σ.next ∧ (∀ o, o ≠ p → σ'.get o = σ.get o) ∧ ∃ g, x' = .sl p 0 xs.length g sz := by
  have hza : zerosA E [u] = some false := by simp [zerosA, hu]
  have hall : xs.flatten.all (·.one) = true := by
    simp only [List.all_eq_true, List.mem_flatten]
    rintro v ⟨y, hy, hv⟩
    exact List.all_eq_true.1 (ho y hy) v hv
  by_cases hn : xs.length = 0
  · have : xs = [] := List.eq_nil_of_length_eq_zero hn
    subst this
    refine ⟨.sl p 0 0 0 sz, σ, ?_, ⟨fun _ h => (by cases h), rfl, rfl, [], 0, 0, hp, Nat.le_refl _, Nat.le_refl _, by simp, by simp⟩, rfl, fun _ _ => rfl, 0, rfl⟩
    unfold appendA
    simp only [ht, hi, hza, hsz, h.elems, hz]
    simp [hpos, hb, hzs]
  · refine ⟨.sl p 0 xs.length 1 sz, σ.set p (.cells xs.flatten 1 0), ?_, ⟨h.1, rfl, rfl, xs.flatten, 1, 0, St.get_set_same _ _ _, Nat.zero_le _, Nat.le_refl _, by simp, by rw [List.drop_zero, List.take_length]⟩, rfl, fun o hne => St.get_set_ne _ _ _ _ (Ne.symm hne), 1, rfl⟩
    unfold appendA
    simp only [ht, hi, hza, hsz, h.elems, hz]
    rw [if_pos (by simp [flat_len h.1, hall, hpos, hb, hzs]), if_neg hn]
    simp [hlim, hlim2, hp]
end Go.Ai
