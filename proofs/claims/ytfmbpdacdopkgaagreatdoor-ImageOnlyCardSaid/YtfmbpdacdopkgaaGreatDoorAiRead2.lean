/- The abstract interpreter: more operations that change nothing. Conditions: the environment tells the truth of the program. -/
import Derived.Test.YtfmbpdacdopkgaaGreatDoorAiRead
namespace Go.Ai
open Go.RowKit (Below)

section
variable {E : Env} {w0 : World} {ρ : Asg} {σ : St} {w : World}

theorem bytes_rel : ∀ {cs : List AV} {ns : List Int} {ys : List Value}, bytes? cs = some ns → VRels w0 ρ cs ys → ys = ns.map (Value.int .u8)
  | [], _, _, h, .nil => by simp [bytes?] at h; subst h; rfl
  | x :: xs, ns, _, h, .cons (y := y) hx hs => by
    unfold bytes? at h
    split at h
    · rename_i e; cases e
    · rename_i k xs' e
      cases e
      simp only [Option.map_eq_some_iff] at h
      obtain ⟨l, hl, rfl⟩ := h
      cases hx
      rw [bytes_rel hl hs]; rfl
    · cases h

/-- A slice's cells. -/
theorem sl_cells (hI : Inv w0 ρ σ w) {o i n g sz : Nat} {cs : List AV} {y : Value} (h : rdCells σ (.ptr o i g (n * sz)) (n * sz) = some cs) (hr : VRel w0 ρ (.sl o i n g sz) y) :
    ∃ a cap, y = .slice (some a) n cap ∧ n ≤ cap ∧ ∃ ys : Array Value, (∀ P, (loadCells a (n * sz)).run P w = .ok ys w) ∧ VRels w0 ρ cs ys.toList ∧ cs.length = n * sz ∧
      ∀ j u, ys[j]? = some u → w.cell? (a.add j) = some u := by
  cases hr with
  | sl hL h1 h2 h3 =>
    rename_i cap L
    obtain ⟨b, o', e, ys, r1, r2, r3, r4⟩ := run_load_cells hI h (.ptr hL h1)
    cases e
    exact ⟨_, cap, rfl, h2, ys, r1, r2, r3, fun j u hu => by rw [add_none]; exact r4 j u hu⟩
  | sl0 hL h1 =>
    rename_i L a
    have hl : cs.length = 0 * sz := by
      obtain ⟨b, o', e, ys, r1, r2, r3, r4⟩ := run_load_cells hI h (.ptr hL (by omega))
      exact r3
    have : cs = [] := by simpa using hl
    subst this
    exact ⟨a, 0, rfl, Nat.le_refl _, #[], fun P => by simp [loadCells, loadCellsFrom], .nil, hl, fun j u hu => by simp at hu⟩

theorem convert_sim (hE : EnvOk E w0) (hI : Inv w0 ρ σ w) {src dst : TypeId} {x r : AV} {a : Value} (h : convertA E σ src dst x = some r) (ra : VRel w0 ρ x a) :
    ∃ z, (convert src dst a).run E.P w = .ok z w ∧ VRel w0 ρ r z := by
  simp only [convertA] at h
  split at h
  · rename_i ds k k' n hs hd
    cases ra
    split at h
    · cases h
    · simp only [Option.map_eq_some_iff] at h
      obtain ⟨z, hz, rfl⟩ := h
      exact ⟨z, run_runA w hz, .v z⟩
  · rename_i ds s hs hd
    cases ra
    cases h
    exact ⟨_, by simp [convert, run_und hE hs, run_und hE hd], .v _⟩
  · rename_i e o i n g sz hs hd
    split at h
    · rename_i he
      split at h
      · rename_i hsz
        subst hsz
        split at h
        · rename_i cs hcs
          simp only [Option.map_eq_some_iff] at h
          obtain ⟨ns, hns, rfl⟩ := h
          obtain ⟨p, cap, rfl, _, ys, h1, h2, _, _⟩ := sl_cells (sz := 1) hI (by simpa using hcs) ra
          have hy := bytes_rel hns h2
          refine ⟨_, ?_, .v _⟩
          rw [run_convert_bytes_string w src dst e _ _ _ (hE.und _ _ hs) (hE.und _ _ he) (hE.und _ _ hd)]
          refine run_bytesToString w p n cap ns ?_
          have := h1 E.P
          rw [Nat.mul_one] at this
          rw [this]; congr 1
          apply Array.ext'; rw [hy]
        · cases h
      · cases h
    · cases h
  · rename_i e hs hd
    split at h
    · rename_i he
      cases h
      cases ra
      exact ⟨_, by simp [convert, run_und hE hs, run_und hE hd, run_und hE he, Conv.bytesToString], .v _⟩
    · cases h
  · cases h

theorem typeAssert_sim (hE : EnvOk E w0) {x r : AV} {t u : TypeId} {ok : Bool} {a : Value} (h : typeAssertA E x t u ok = some r) (ra : VRel w0 ρ x a) (w : World) :
    ∃ z, (Instr.typeAssert a t u ok).run E.P w = .ok z w ∧ VRel w0 ρ r z := by
  simp only [typeAssertA] at h
  split at h
  · rename_i want hu
    split at h
    · cases ra
      split at h
      · rename_i hok
        simp only [Option.map_eq_some_iff] at h
        obtain ⟨z, hz, rfl⟩ := h
        exact ⟨_, by simp [Instr.typeAssert, run_und hE hu, hok, run_zero hE hz], .tup (c := #[z, .bool false]) (.cons (.v z) (.cons (.v _) .nil))⟩
      · cases h
    · rename_i t' y
      cases ra with
      | ifc ry =>
      rename_i b
      split at h
      · rename_i i hi
        split at h
        · rename_i hm
          cases h
          refine ⟨_, by simp [Instr.typeAssert, run_und hE hu, run_inf hE hi, hm]; rfl, ?_⟩
          split
          · exact .tup (c := #[.iface t' b, .bool true]) (.cons (.ifc ry) (.cons (.v _) .nil))
          · exact .ifc ry
        · rename_i m hm
          split at h
          · rename_i hok
            simp only [Option.map_eq_some_iff] at h
            obtain ⟨z, hz, rfl⟩ := h
            exact ⟨_, by simp [Instr.typeAssert, run_und hE hu, run_inf hE hi, hm, hok, run_zero hE hz], .tup (c := #[z, .bool false]) (.cons (.v z) (.cons (.v _) .nil))⟩
          · cases h
      · cases h
    · cases h
  · rename_i d hni hu
    have hd : ∀ want, d ≠ .interface want := fun want e => hni want e
    split at h
    · cases ra
      split at h
      · rename_i hok
        simp only [Option.map_eq_some_iff] at h
        obtain ⟨z, hz, rfl⟩ := h
        refine ⟨_, ?_, .tup (c := #[z, .bool false]) (.cons (.v z) (.cons (.v _) .nil))⟩
        simp only [Instr.typeAssert, Sem.run_bind, run_und hE hu, Result.andThen_ok]
        cases d <;> first | (exact (hd _ rfl).elim) | simp [hok, run_zero hE hz]
      · cases h
    · rename_i t' y
      cases ra with
      | ifc ry =>
      rename_i b
      split at h
      · rename_i htt
        cases h
        subst htt
        refine ⟨if ok then .tuple #[b, .bool true] else b, ?_, ?_⟩
        · simp only [Instr.typeAssert, Sem.run_bind, run_und hE hu, Result.andThen_ok]
          cases d <;> first | (exact (hd _ rfl).elim) | simp
        · split
          · exact .tup (c := #[b, .bool true]) (.cons ry (.cons (.v _) .nil))
          · exact ry
      · rename_i htt
        split at h
        · rename_i hok
          simp only [Option.map_eq_some_iff] at h
          obtain ⟨z, hz, rfl⟩ := h
          refine ⟨_, ?_, .tup (c := #[z, .bool false]) (.cons (.v z) (.cons (.v _) .nil))⟩
          simp only [Instr.typeAssert, Sem.run_bind, run_und hE hu, Result.andThen_ok]
          cases d <;> first | (exact (hd _ rfl).elim) | simp [hok, run_zero hE hz, htt]
        · cases h
    · cases h
  · cases h

theorem findNow_some {d : TypeDesc} {k : Value} : ∀ {es : List MapEntry} {i : Nat} {r : Option Nat}, findNowK d k (es.map (·.key)) i = some r →
    match r with
    | none => Instr.findNow d k es i = some none
    | some j => i ≤ j ∧ ∃ e, es[j - i]? = some e ∧ Instr.findNow d k es i = some (some (j, e.val))
  | [], i, r, h => by simp [findNowK] at h; subst h; rfl
  | e :: es, i, r, h => by
    simp only [List.map_cons, findNowK] at h
    split at h
    · rename_i hs
      cases h
      exact ⟨Nat.le_refl _, e, by simp, by simp [Instr.findNow, hs]⟩
    · rename_i hs
      have ih := findNow_some h
      cases r with
      | none => simpa [Instr.findNow, hs] using ih
      | some j =>
        obtain ⟨h1, e', h2, h3⟩ := ih
        refine ⟨by omega, e', ?_, by simpa [Instr.findNow, hs] using h3⟩
        rw [show j - i = (j - (i + 1)) + 1 by omega]; simpa using h2
    · cases h
theorem findNow_none {d : TypeDesc} {k : Value} : ∀ {es : List MapEntry} {i : Nat}, findNowK d k (es.map (·.key)) i = none → Instr.findNow d k es i = none
  | [], i, h => by simp [findNowK] at h
  | e :: es, i, h => by
    simp only [List.map_cons, findNowK] at h
    split at h
    · cases h
    · rename_i hs; simpa [Instr.findNow, hs] using findNow_none h
    · rename_i hs; simp [Instr.findNow, hs]
theorem findAsk_some {P : Program} {kt : TypeId} {k : Value} (w : World) : ∀ {es : List MapEntry} {i : Nat} {r : Option Nat}, findAskK P kt k (es.map (·.key)) i = some r →
    match r with
    | none => (Instr.findAsking kt k es i).run P w = .ok none w
    | some j => i ≤ j ∧ ∃ e, es[j - i]? = some e ∧ (Instr.findAsking kt k es i).run P w = .ok (some (j, e.val)) w
  | [], i, r, h => by simp [findAskK] at h; subst h; rfl
  | e :: es, i, r, h => by
    simp only [List.map_cons, findAskK] at h
    split at h
    · rename_i hs
      cases h
      exact ⟨Nat.le_refl _, e, by simp, by simp [Instr.findAsking, run_runA w hs]⟩
    · rename_i hs
      have ih := findAsk_some w h
      cases r with
      | none => simpa [Instr.findAsking, run_runA w hs] using ih
      | some j =>
        obtain ⟨h1, e', h2, h3⟩ := ih
        refine ⟨by omega, e', ?_, by simpa [Instr.findAsking, run_runA w hs] using h3⟩
        rw [show j - i = (j - (i + 1)) + 1 by omega]; simpa using h2
    · cases h
theorem findKey_sim (hE : EnvOk E w0) {kt : TypeId} {k : Value} {es : List MapEntry} {r : Option Nat} (h : findKeyA E kt k (es.map (·.key)) = some r) (w : World) :
    match r with
    | none => (Instr.findKey kt k es).run E.P w = .ok none w
    | some j => ∃ e, es[j]? = some e ∧ (Instr.findKey kt k es).run E.P w = .ok (some (j, e.val)) w := by
  simp only [findKeyA] at h
  split at h
  · rename_i d hd
    split at h
    · rename_i r' hn
      cases h
      have := findNow_some hn
      cases r with
      | none => simp [Instr.findKey, run_und hE hd, this]
      | some j =>
        obtain ⟨_, e, h2, h3⟩ := this
        exact ⟨e, by simpa using h2, by simp [Instr.findKey, run_und hE hd, h3]⟩
    · rename_i hn
      have h1 := findNow_none hn
      have := findAsk_some w h
      cases r with
      | none => simpa [Instr.findKey, run_und hE hd, h1] using this
      | some j =>
        obtain ⟨_, e, h2, h3⟩ := this
        exact ⟨e, by simpa using h2, by simpa [Instr.findKey, run_und hE hd, h1] using h3⟩
  · cases h

theorem EntRel.keys : ∀ {es : List AEntry} {ents : List MapEntry}, EntRel w0 ρ es ents → ents.map (·.key) = es.map (·.key)
  | _, _, .nil => rfl
  | _, _, .cons hk _ _ hs => by simp [hk, hs.keys]
theorem EntRel.vals : ∀ {es : List AEntry} {ents : List MapEntry}, EntRel w0 ρ es ents → VRels w0 ρ (es.map (·.val)) (ents.map (·.val))
  | _, _, .nil => .nil
  | _, _, .cons _ _ h hs => .cons h hs.vals
theorem EntRel.length {es : List AEntry} {ents : List MapEntry} (h : EntRel w0 ρ es ents) : es.length = ents.length := by
  have := congrArg List.length h.keys; simpa using this.symm

/-- A map's entries as the model has them. -/
theorem keys_sim (hI : Inv w0 ρ σ w) {x : AV} {ks : List Value} {vs : List AV} {a : Value} (h : keysOf σ x = some (ks, vs)) (ra : VRel w0 ρ x a) :
    ∃ es : Array MapEntry, es.toList.map (·.key) = ks ∧ VRels w0 ρ vs (es.toList.map (·.val)) ∧
      ((a = .map none ∧ es = #[]) ∨ ∃ r c, a = .map (some r) ∧ w.heap[r]? = some (.map es c)) := by
  unfold keysOf at h
  split at h
  · cases h; cases ra; exact ⟨#[], rfl, .nil, .inl ⟨rfl, rfl⟩⟩
  · split at h
    · cases h
      cases ra with
      | lmp h0 hk hv =>
        rename_i r es c
        refine ⟨es, hk, hv, .inr ⟨r, c, rfl, ?_⟩⟩
        rw [hI.below.block r (Array.getElem?_eq_some_iff.1 h0).1]; exact h0
    · cases h
  · split at h
    · rename_i es c hg
      cases h
      obtain ⟨L, ents, e1, e2, e3⟩ := hI.objs _ _ hg
      cases ra with
      | mp hL =>
        rw [e1] at hL; cases hL
        exact ⟨ents, e3.keys, e3.vals, .inr ⟨L.blk, c, rfl, e2⟩⟩
    · cases h
  · cases h

theorem lookup_sim (hE : EnvOk E w0) (hI : Inv w0 ρ σ w) {t : TypeId} {x ix r : AV} {ok : Bool} {a b : Value} (h : lookupA E σ t x ix ok = some r) (ra : VRel w0 ρ x a) (rb : VRel w0 ρ ix b) :
    ∃ z, (Instr.lookup t a b ok).run E.P w = .ok z w ∧ VRel w0 ρ r z := by
  simp only [lookupA] at h
  split at h
  · rename_i kt et k ht hk
    obtain rfl := rb.exact hk
    split at h
    · rename_i ks vs hks
      obtain ⟨es, e1, e2, e3⟩ := keys_sim hI hks ra
      subst e1
      have hempty : ((es.toList.map (·.key)).isEmpty) = es.isEmpty := by
        obtain ⟨l⟩ := es; cases l <;> simp
      split at h
      · rename_i i hc hf
        rw [hempty] at hc
        obtain ⟨e, he, hrun⟩ := findKey_sim hE hf w
        split at h
        · rename_i y hy
          cases h
          obtain ⟨z, hz, hr⟩ := e2.get i y hy
          rw [List.getElem?_map, he] at hz
          simp at hz; subst hz
          refine ⟨if ok then .tuple #[e.val, .bool true] else e.val, ?_, ?_⟩
          · rcases e3 with ⟨rfl, rfl⟩ | ⟨r, c, rfl, hg⟩
            · simp at he
            · simp [Instr.lookup, run_und hE ht, getObj, Sem.run, hg, run_runA w hc, hrun]
          · split
            · exact .tup (c := #[e.val, .bool true]) (.cons hr (.cons (.v _) .nil))
            · exact hr
        · cases h
      · rename_i hc hf
        rw [hempty] at hc
        have hrun := findKey_sim hE hf w
        split at h
        · rename_i z hz
          cases h
          refine ⟨if ok then .tuple #[z, .bool false] else z, ?_, ?_⟩
          · rcases e3 with ⟨rfl, rfl⟩ | ⟨r, c, rfl, hg⟩
            · have hc' : runA E.P (Instr.checkKey true 10000 kt b) = some () := by simpa using hc
              have hrun' : (Instr.findKey kt b []).run E.P w = .ok none w := by simpa using hrun
              simp [Instr.lookup, run_und hE ht, run_runA w hc', hrun', run_zero hE hz]
            · simp [Instr.lookup, run_und hE ht, getObj, Sem.run, hg, run_runA w hc, hrun, run_zero hE hz]
          · split
            · exact .tup (c := #[z, .bool false]) (.cons (.v z) (.cons (.v _) .nil))
            · exact .v z
        · cases h
      · cases h
    · cases h
  · cases h


theorem fold_set (off : Nat) : ∀ (l : List Value) (k : Nat) (cells : Array Value), off + k + l.length ≤ cells.size → ∀ i : Nat,
    ((l.zipIdx k).foldl (fun (cs : Array Value) (p : Value × Nat) => cs.setIfInBounds (off + p.2) p.1) cells)[i]? = if off + k ≤ i ∧ i < off + k + l.length then l[i - (off + k)]? else cells[i]?
  | [], k, cells, _, i => by
    have : ¬ (off + k ≤ i ∧ i < off + k + ([] : List Value).length) := by simp
    rw [if_neg this]; rfl
  | c :: l, k, cells, h, i => by
    simp only [List.zipIdx_cons, List.foldl_cons]
    simp only [List.length_cons] at h
    rw [fold_set off l (k + 1) _ (by simp; omega) i, Array.getElem?_setIfInBounds]
    simp only [List.length_cons]
    by_cases h1 : off + (k + 1) ≤ i ∧ i < off + (k + 1) + l.length
    · rw [if_pos h1, if_pos (by omega), show i - (off + k) = (i - (off + (k + 1))) + 1 by omega]; simp
    · rw [if_neg h1]
      by_cases h2 : off + k = i
      · subst h2; rw [if_pos rfl, if_pos (by omega), if_pos (by omega)]; simp
      · rw [if_neg h2, if_neg (by omega)]

theorem fold_set_size (off : Nat) : ∀ (l : List (Value × Nat)) (cells : Array Value), (l.foldl (fun (cs : Array Value) (p : Value × Nat) => cs.setIfInBounds (off + p.2) p.1) cells).size = cells.size
  | [], _ => rfl
  | p :: l, cells => by simp only [List.foldl_cons]; rw [fold_set_size off l]; simp

theorem splice_get (cs vs : List AV) (off : Nat) (h : off + vs.length ≤ cs.length) (i : Nat) : (splice cs off vs)[i]? = if off ≤ i ∧ i < off + vs.length then vs[i - off]? else cs[i]? := by
  unfold splice
  by_cases h1 : i < off
  · rw [List.append_assoc, List.getElem?_append_left (by simp; omega), List.getElem?_take, if_pos h1, if_neg (by omega)]
  · by_cases h2 : i < off + vs.length
    · rw [if_pos (by omega), List.getElem?_append_left (by simp; omega), List.getElem?_append_right (by simp; omega)]
      simp only [List.length_take]; rw [show min off cs.length = off by omega]
    · rw [if_neg (by omega), List.getElem?_append_right (by simp; omega), List.getElem?_drop]
      simp only [List.length_append, List.length_take]; congr 1; omega
theorem splice_length (cs vs : List AV) (off : Nat) (h : off + vs.length ≤ cs.length) : (splice cs off vs).length = cs.length := by
  simp [splice]; omega

theorem array_foldl_zipIdx (off : Nat) (v cells : Array Value) : v.zipIdx.foldl (fun (cs : Array Value) (p : Value × Nat) => cs.setIfInBounds (off + p.2) p.1) cells =
    (v.toList.zipIdx 0).foldl (fun (cs : Array Value) (p : Value × Nat) => cs.setIfInBounds (off + p.2) p.1) cells := by
  rw [← Array.foldl_toList]; simp [Array.toList_zipIdx]

theorem fill_sim {place : Nat → Option (Nat × Nat)} {place' : Nat → Option (Nat × Nat)} (hp : ∀ i p, place i = some p → place' i = some p) :
    ∀ {parts : List (Nat × AV)} {parts' : List (Nat × Value)} {cells : List AV} {cells' : Array Value} {r : List AV}, fillA place cells parts = some r →
      parts.map (·.1) = parts'.map (·.1) → VRels w0 ρ (parts.map (·.2)) (parts'.map (·.2)) → VRels w0 ρ cells cells'.toList →
      ∃ r', Instr.fill place' cells' parts' = some r' ∧ VRels w0 ρ r r'.toList
  | [], [], cells, cells', r, h, _, _, hc => by simp [fillA] at h; subst h; exact ⟨cells', rfl, hc⟩
  | [], _ :: _, _, _, _, _, h, _, _ => by simp at h
  | _ :: _, [], _, _, _, _, h, _, _ => by simp at h
  | (i, x) :: rest, (i', y) :: rest', cells, cells', r, h, hi, hr, hc => by
    simp only [List.map_cons, List.cons.injEq] at hi
    obtain ⟨rfl, hi⟩ := hi
    cases hr with
    | cons hx hr =>
    simp only [fillA] at h
    split at h
    · rename_i off size cs hpl hcs
      split at h
      · rename_i hle
        simp only [Bool.and_eq_true, decide_eq_true_eq] at hle
        obtain ⟨h1, h2⟩ := hle
        have hcells := hx.cells hcs
        have hl1 : y.cells.size = size := by have := hcells.length; simp at this; omega
        have hl2 : cells.length = cells'.size := by have := hc.length; simpa using this
        have hrel : VRels w0 ρ (splice cells off cs) (y.cells.zipIdx.foldl (fun (cs : Array Value) (p : Value × Nat) => cs.setIfInBounds (off + p.2) p.1) cells').toList := by
          rw [array_foldl_zipIdx]
          have hf := fold_set off y.cells.toList 0 cells' (by simp; omega)
          have hsz := fold_set_size off (y.cells.toList.zipIdx 0) cells'
          refine VRels.of_get (by rw [splice_length _ _ _ (by omega)]; simp [hsz, hl2]) fun j a b ha hb => ?_
          rw [splice_get _ _ _ (by omega)] at ha
          rw [Array.getElem?_toList, hf j] at hb
          simp only [Nat.add_zero, Array.length_toList] at hb
          by_cases hj : off ≤ j ∧ j < off + cs.length
          · rw [if_pos hj] at ha; rw [if_pos (by omega)] at hb
            obtain ⟨z, hz, hr'⟩ := hcells.get _ _ ha
            rw [hz] at hb; cases hb; exact hr'
          · rw [if_neg hj] at ha; rw [if_neg (by omega)] at hb
            obtain ⟨z, hz, hr'⟩ := hc.get _ _ ha
            rw [Array.getElem?_toList, hb] at hz; cases hz; exact hr'
        obtain ⟨r', e, hr'⟩ := fill_sim hp h hi hr hrel
        refine ⟨r', ?_, hr'⟩
        simp only [Instr.fill, hp _ _ hpl]
        rw [if_neg (by simp; omega)]
        exact e
      · cases h
    · cases h

theorem run_places (hE : EnvOk E w0) (w : World) : ∀ (l : List Field), (l.all fun f => (E.size f.type).isSome) = true →
    (l.mapM fun f => (do pure (f.offset, ← sizeOf f.type) : Sem (Nat × Nat))).run E.P w = .ok (l.map fun f => (f.offset, (E.size f.type).getD 0)) w
  | [], _ => by simp
  | f :: fs, h => by
    simp only [List.all_cons, Bool.and_eq_true] at h
    obtain ⟨n, hn⟩ := Option.isSome_iff_exists.1 h.1
    have ih := run_places hE w fs h.2
    simp only [List.mapM_cons, Sem.run_bind, run_size hE hn, Result.andThen_ok, Sem.run_pure, ih, List.map_cons, hn, Option.getD_some]

theorem parts_rel (hE : EnvOk E w0) {a : AFr} {c : Act} (h : FRel w0 ρ a c.tmps) (l : List (Nat × Operand)) :
    (l.map fun p => (p.1, opd E a p.2)).map (·.1) = (l.map fun p => (p.1, c.eval p.2)).map (·.1) ∧
    VRels w0 ρ ((l.map fun p => (p.1, opd E a p.2)).map (·.2)) ((l.map fun p => (p.1, c.eval p.2)).map (·.2)) := by
  refine ⟨by simp, ?_⟩
  induction l with
  | nil => exact .nil
  | cons p l ih => exact .cons (opd_rel hE h p.2) ih

theorem build_sim (hE : EnvOk E w0) {t : TypeId} {parts : List (Nat × AV)} {parts' : Array (Nat × Value)} {r : AV} (h : buildA E t parts = some r)
    (hi : parts.map (·.1) = parts'.toList.map (·.1)) (hr : VRels w0 ρ (parts.map (·.2)) (parts'.toList.map (·.2))) (w : World) :
    ∃ z, (Instr.build t parts').run E.P w = .ok z w ∧ VRel w0 ρ r z := by
  simp only [buildA] at h
  split at h
  · cases h
  · rename_i z hz
    split at h
    · rename_i fields ht
      split at h
      · rename_i hall
        simp only [Option.map_eq_some_iff] at h
        obtain ⟨cs, hcs, rfl⟩ := h
        have hpl := run_places hE w fields.toList hall
        obtain ⟨r', e, hr'⟩ := fill_sim (place' := fun i => (fields.toList.map fun f => (f.offset, (E.size f.type).getD 0))[i]?) (fun i p hp => by
          split at hp
          · rename_i f hf
            simp only [Option.map_eq_some_iff] at hp
            obtain ⟨n, hn, rfl⟩ := hp
            have : fields.toList[i]? = some f := by simpa using hf
            simp [this, hn]
          · cases hp) hcs hi hr (VRels.v_map _)
        refine ⟨.agg r', ?_, .agg hr'⟩
        have hpl' : (fields.mapM fun f => (do pure (f.offset, ← sizeOf f.type) : Sem (Nat × Nat))).run E.P w = .ok ((fields.toList.map fun f => (f.offset, (E.size f.type).getD 0)).toArray) w := by
          rw [Array.mapM_eq_mapM_toList, Sem.run_map, hpl]; rfl
        have e' : Instr.fill (fun i => ((fields.toList.map fun f => (f.offset, (E.size f.type).getD 0)).toArray)[i]?) z.cells parts'.toList = some r' := by
          simpa using e
        simp only [Instr.build, Sem.run_bind, run_zero hE hz, run_und hE ht, Result.andThen_ok, hpl', e', Sem.run_pure]
      · cases h
    · rename_i n elem ht
      split at h
      · rename_i k hk
        simp only [Option.map_eq_some_iff] at h
        obtain ⟨cs, hcs, rfl⟩ := h
        obtain ⟨r', e, hr'⟩ := fill_sim (place' := fun i => some (i * k, k)) (fun i p hp => hp) hcs hi hr (VRels.v_map _)
        refine ⟨.agg r', ?_, .agg hr'⟩
        simp [Instr.build, run_zero hE hz, run_und hE ht, run_size hE hk, e]
      · cases h
    · cases h

theorem len_sim (hE : EnvOk E w0) (hI : Inv w0 ρ σ w) {t ty : TypeId} {ts : Array TypeId} {x r : AV} {a : Value} (h : lenA E σ t x = some r) (ht0 : ts[0]? = some t) (ra : VRel w0 ρ x a) :
    ∃ z, (Builtin.len_ ts ty #[a]).run E.P w = .ok z w ∧ VRel w0 ρ r z := by
  unfold lenA at h
  split at h
  · rename_i ht
    split at h
    · cases h; cases ra; exact ⟨_, by simp [Builtin.len_, ht0, run_und hE ht]; rfl, .v _⟩
    · cases h
  · rename_i e ht
    split at h
    · cases h; cases ra; exact ⟨_, by simp [Builtin.len_, ht0, run_und hE ht]; rfl, .v _⟩
    · cases h; cases ra; exact ⟨_, by simp [Builtin.len_, ht0, run_und hE ht]; rfl, .v _⟩
    · cases h; cases ra <;> exact ⟨_, by simp [Builtin.len_, ht0, run_und hE ht]; rfl, .v _⟩
    · cases h
      cases ra with
      | lst hL hn hc => subst hn; exact ⟨_, by simp [Builtin.len_, ht0, run_und hE ht]; rfl, .v _⟩
      | lst0 => exact ⟨_, by simp [Builtin.len_, ht0, run_und hE ht]; rfl, .v _⟩
    · cases h
  · rename_i n e ht
    cases h; exact ⟨_, by simp [Builtin.len_, ht0, run_und hE ht]; rfl, .v _⟩
  · rename_i arr ht
    split at h
    · rename_i n e harr
      cases h; exact ⟨_, by simp [Builtin.len_, ht0, run_und hE ht, run_und hE harr]; rfl, .v _⟩
    · cases h
  · rename_i k e ht
    split at h
    · cases h; cases ra; exact ⟨_, by simp [Builtin.len_, ht0, run_und hE ht]; rfl, .v _⟩
    · split at h
      · rename_i es c hg
        cases h
        obtain ⟨L, ents, e1, e2, e3⟩ := hI.objs _ _ hg
        cases ra with
        | mp hL =>
          rw [e1] at hL; cases hL
          refine ⟨_, by simp [Builtin.len_, ht0, run_und hE ht, getObj, Sem.run, e2]; rfl, ?_⟩
          have := e3.length
          rw [this]; exact .v _
      · cases h
    · cases h
      cases ra with
      | lmp h0 hk hv =>
        rename_i es c r'
        have hb := hI.below.block _ (Array.getElem?_eq_some_iff.1 h0).1
        rw [h0] at hb
        refine ⟨_, by simp [Builtin.len_, ht0, run_und hE ht, getObj, Sem.run, hb]; rfl, ?_⟩
        subst hk; simp; exact .v _
    · cases h
  · cases h

end
end Go.Ai
