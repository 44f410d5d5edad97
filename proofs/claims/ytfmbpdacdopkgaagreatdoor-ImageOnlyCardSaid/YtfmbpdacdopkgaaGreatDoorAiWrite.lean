/- The abstract interpreter: operations that write. Conditions: the environment tells the truth of the program. -/
import Derived.Test.YtfmbpdacdopkgaaGreatDoorAiAlloc
namespace Go.Ai
open Go.RowKit (Below)

section
variable {E : Env} {w0 : World} {ρ : Asg} {σ : St} {w : World}

theorem putObj_get_same {b : Nat} {x : Obj} (h : b < w.heap.size) : (w.putObj b x).heap[b]? = some x := World.putObj_heap_same h
theorem putObj_get_ne {b k : Nat} {x : Obj} (h : k ≠ b) : (w.putObj b x).heap[k]? = w.heap[k]? := World.putObj_heap_other h
theorem putObj_putObj {b : Nat} {x y : Obj} : (w.putObj b x).putObj b y = w.putObj b y := by
  simp [World.putObj]
theorem putObj_self {b : Nat} {x : Obj} (h : w.heap[b]? = some x) : w.putObj b x = w := by
  obtain ⟨hb, hx⟩ := Array.getElem?_eq_some_iff.1 h
  unfold World.putObj
  have : w.heap.setIfInBounds b x = w.heap := by
    apply Array.ext
    · simp
    · intro i h1 h2
      by_cases hi : b = i
      · subst hi; simp [hx]
      · rw [Array.getElem_setIfInBounds_ne _ hi]
  rw [this]
theorem setCell_putObj {b j : Nat} {c : Array Value} {t : TypeId} {fz : Nat × Nat} {v : Value} (h : w.heap[b]? = some (.cells c t fz)) :
    w.setCell ⟨b, j, none⟩ v = w.putObj b (.cells (c.setIfInBounds j v) t fz) := by
  obtain ⟨hb, hx⟩ := Array.getElem?_eq_some_iff.1 h
  unfold World.setCell World.putObj
  congr 1
  apply Array.ext
  · simp
  · intro i h1 h2
    by_cases hi : b = i
    · subst hi; simp [Array.getElem_modify, hx]
    · rw [Array.getElem_modify, if_neg (fun e => hi e), Array.getElem_setIfInBounds_ne _ hi]

/-- Cells stored one after the other. -/
def laid (c : Array Value) (off k : Nat) (ys : List Value) : Array Value :=
  (ys.zipIdx k).foldl (fun (cs : Array Value) (p : Value × Nat) => cs.setIfInBounds (off + p.2) p.1) c
theorem laid_size (c : Array Value) (off k : Nat) (ys : List Value) : (laid c off k ys).size = c.size := fold_set_size off _ c
theorem laid_get (c : Array Value) (off k : Nat) (ys : List Value) (h : off + k + ys.length ≤ c.size) (i : Nat) :
    (laid c off k ys)[i]? = if off + k ≤ i ∧ i < off + k + ys.length then ys[i - (off + k)]? else c[i]? := fold_set off ys k c h i

theorem run_storeCells_laid {b off : Nat} {t : TypeId} {fz : Nat × Nat} (P : Program) : ∀ (ys : List Value) (k : Nat) (c : Array Value) (w : World), w.heap[b]? = some (.cells c t fz) →
    off + k + ys.length ≤ c.size → (∀ j, j < c.size → ¬ (fz.1 ≤ j ∧ j < fz.2)) → (∀ y ∈ ys, lone1 y = true) →
    (storeCells ⟨b, off, none⟩ ys k).run P w = .ok () (w.putObj b (.cells (laid c off k ys) t fz))
  | [], k, c, w, h, _, _, _ => by
    show Result.ok () w = _
    rw [show laid c off k [] = c from rfl, putObj_self h]
  | y :: ys, k, c, w, h, hl, hf, h1 => by
    simp only [List.length_cons] at hl
    have hb := (Array.getElem?_eq_some_iff.1 h).1
    have hcell : w.cell? ⟨b, off + k, none⟩ = some (c[off + k]'(by omega)) := by
      simp only [World.cell?, h]; simp
    have hfr : w.frozen? ⟨b, off + k, none⟩ = false := by
      simp only [World.frozen?, h]
      have := hf (off + k) (by omega)
      simp only [Bool.and_eq_false_imp, decide_eq_true_eq, decide_eq_false_iff_not]
      exact fun a b => this ⟨a, b⟩
    have hy : lone1 y = true := h1 y (by simp)
    have hst : (store (⟨b, off + k, none⟩ : Addr) y).run P w = .ok () (w.setCell ⟨b, off + k, none⟩ y) := by
      rw [run_store P w _ y _ (by cases y <;> first | rfl | exact hy)]
      simp [hcell, hfr]
    have ih := run_storeCells_laid (off := off) P ys (k + 1) (c.setIfInBounds (off + k) y) (w.putObj b (.cells (c.setIfInBounds (off + k) y) t fz)) (putObj_get_same hb)
      (by simp; omega) (fun j hj => hf j (by simpa using hj)) (fun z hz => h1 z (by simp [hz]))
    simp only [storeCells, Sem.run_bind, add_none, hst, Result.andThen_ok, setCell_putObj h, ih, putObj_putObj]
    rfl

theorem Below.putB {b : Nat} {x : Obj} (h : Below w0.heap.size w0 w) (hb : w0.heap.size ≤ b) : Below w0.heap.size w0 (w.putObj b x) :=
  h.trans ⟨rfl, rfl, rfl, by simp, fun k hk => putObj_get_ne (by omega)⟩

/-- An object changes in its own block. -/
theorem Step.put (h : Inv w0 ρ σ w) {o k : Nat} {L : Loc} {x : AObj} (x' : AObj) (obj : Obj) (ho : σ.get o = some x) (hL : ρ o k = some L)
    (hgen : ∀ cs g m, x' = .cells cs g m → ∀ k, g < k → ρ o k = none)
    (hx : ORel w0 ρ (w.putObj L.blk obj) o x') : Step w0 ρ σ w ρ (σ.set o x') (w.putObj L.blk obj) := by
  refine Step.chg h x' ho (Ext.refl _) (Below.putB h.below (h.own _ _ _ hL)) (by simp) (fun _ _ _ => rfl) (fun k' L' e => ⟨by simpa using h.bnd _ _ _ e, .inl e⟩) ?_ hgen hx
  intro b hb hne
  exact putObj_get_ne (fun e => hne k L hL e.symm)

theorem all_one : ∀ {vs : List AV} {ys : List Value}, VRels w0 ρ vs ys → vs.all (·.one) = true → ∀ y ∈ ys, lone1 y = true
  | _, _, .nil, _, y, hy => by simp at hy
  | _, _, .cons h hs, h1, y, hy => by
    simp only [List.all_cons, Bool.and_eq_true] at h1
    simp only [List.mem_cons] at hy
    rcases hy with rfl | hy
    · exact h.one h1.1
    · exact all_one hs h1.2 y hy

theorem wr_cells (hI : Inv w0 ρ σ w) {x : AV} {vs : List AV} {σ' : St} {y : Value} {ys : List Value} (h : wrCells σ x vs = some σ') (hr : VRel w0 ρ x y) (hv : VRels w0 ρ vs ys) :
    ∃ b off w', y = .pointer (some ⟨b, off, none⟩) ∧ (∀ P, (storeCells ⟨b, off, none⟩ ys).run P w = .ok () w') ∧ Step w0 ρ σ w ρ σ' w' := by
  unfold wrCells at h
  split at h
  · rename_i o i g e
    split at h
    · rename_i hc
      simp only [Bool.and_eq_true, decide_eq_true_eq] at hc
      obtain ⟨hc1, hc2⟩ := hc
      split at h
      · rename_i cs g' m hg
        split at h
        · rename_i hc
          simp only [Bool.and_eq_true, decide_eq_true_eq, beq_iff_eq] at hc
          obtain ⟨⟨rfl, hc3⟩, hc4⟩ := hc
          cases h
          cases hr with
          | ptr hL hi =>
            rename_i L
            have hO := hI.objs _ _ hg
            obtain ⟨L', e1, e2, e3, c, t, fz, c1, c2, c3, c4, c5⟩ := hO.2.1 g hc3 (Nat.le_refl _)
            rw [hL] at e1; cases e1
            have e3 := e3 rfl
            have hlen := hv.length
            have hsz : L.base + i + ys.length ≤ c.size := by omega
            refine ⟨L.blk, L.base + i, _, rfl, fun P => run_storeCells_laid P ys 0 c w c1 (by simpa using hsz) c4 (all_one hv hc2), ?_⟩
            refine Step.put hI _ _ hg hL ?_ ?_
            · intro cs' g' m' e k hk
              cases e
              exact hI.gen _ _ _ _ hg k hk
            · refine ⟨Nat.le_refl _, fun k h1 h2 => ?_, fun k L₁ L₂ h1 h2 e e' _ => ?_⟩
              rotate_left
              · obtain rfl : k = g := by omega
                rw [e] at e'; cases e'; rfl
              obtain rfl : k = g := by omega
              have hsp := splice_length cs vs i hc4
              refine ⟨L, hL, by omega, fun _ => by omega, laid c (L.base + i) 0 ys, t, fz, putObj_get_same (hI.bnd _ _ _ hL), by rw [laid_size]; exact c2, c3, by rw [laid_size]; exact c4, fun j hj => ?_⟩
              rw [laid_get _ _ _ _ (by simpa using hsz)]
              simp only [Nat.add_zero]
              rw [List.getD_eq_getElem?_getD, splice_get cs vs i hc4 j]
              by_cases hin : i ≤ j ∧ j < i + vs.length
              · rw [if_pos (by omega), if_pos hin]
                have hx : vs[j - i]? = some (vs[j - i]'(by omega)) := List.getElem?_eq_getElem (by omega)
                obtain ⟨z, hz, r⟩ := hv.get _ _ hx
                refine ⟨z, by rw [show L.base + j - (L.base + i) = j - i by omega]; exact hz, ?_⟩
                rw [hx]; exact r
              · rw [if_neg (by omega), if_neg hin]
                obtain ⟨z, hz, r⟩ := c5 j hj
                exact ⟨z, hz, by rw [← List.getD_eq_getElem?_getD]; exact r⟩
        · cases h
      · cases h
    · cases h
  · cases h

theorem store_sim (hE : EnvOk E w0) (hI : Inv w0 ρ σ w) {t : TypeId} {p x : AV} {σ' : St} {y z : Value} (h : storeA E σ t p x = some σ') (hr : VRel w0 ρ p y) (hx : VRel w0 ρ x z) :
    ∃ w', (Instr.storeAt t y z).run E.P w = .ok () w' ∧ Step w0 ρ σ w ρ σ' w' := by
  simp only [storeA] at h
  split at h
  · rename_i n cs hn hcs
    split at h
    · rename_i hl
      have hc := hx.cells hcs
      have hlen := hc.length
      simp only [Array.length_toList] at hlen
      obtain ⟨b, off, w', rfl, hrun, hs⟩ := wr_cells hI h hr hc
      refine ⟨w', ?_, hs⟩
      simp only [Instr.storeAt, Instr.sureAddr, Sem.run_bind, Sem.run_pure, Result.andThen_ok, storeVar, run_size hE hn]
      rw [if_neg (by omega)]
      exact hrun E.P
    · cases h
  · cases h

theorem EntRel.append : ∀ {xs us : List AEntry} {ys vs : List MapEntry}, EntRel w0 ρ xs ys → EntRel w0 ρ us vs → EntRel w0 ρ (xs ++ us) (ys ++ vs)
  | _, _, _, _, .nil, k => k
  | _, _, _, _, .cons hk hb h hs, k => .cons hk hb h (hs.append k)
theorem EntRel.modify {k : Value} {x : AV} {y : Value} (hx : VRel w0 ρ x y) : ∀ {xs : List AEntry} {ys : List MapEntry} (i : Nat), EntRel w0 ρ xs ys →
    EntRel w0 ρ (setVal xs i k x) (ys.modify i fun e => { e with key := k, val := y })
  | _, _, i, .nil => by simpa [setVal] using .nil
  | _, _, 0, .cons hk hb h hs => by simpa [setVal] using .cons rfl hb hx hs
  | _, _, i + 1, .cons hk hb h hs => by simpa [setVal] using .cons hk hb h (by simpa [setVal] using EntRel.modify hx i hs)
theorem EntRel.erase : ∀ {xs : List AEntry} {ys : List MapEntry} (i : Nat), EntRel w0 ρ xs ys → EntRel w0 ρ (xs.eraseIdx i) (ys.eraseIdx i)
  | _, _, i, .nil => by simpa using .nil
  | _, _, 0, .cons hk hb h hs => by simpa using hs
  | _, _, i + 1, .cons hk hb h hs => by simpa using .cons hk hb h (EntRel.erase i hs)
theorem EntRel.getE : ∀ {xs : List AEntry} {ys : List MapEntry} (i : Nat) (e : AEntry), EntRel w0 ρ xs ys → xs[i]? = some e → ∃ e', ys[i]? = some e' ∧ e'.key = e.key
  | _, _, i, e, .nil, h => by simp at h
  | _, _, 0, e, .cons hk hb h hs, h' => by simp at h'; subst h'; exact ⟨_, rfl, hk⟩
  | _, _, i + 1, e, .cons hk hb h hs, h' => by simp at h'; simpa using EntRel.getE i e hs h'

theorem run_setObj_map {r c : Nat} {es : Array MapEntry} (x : Obj) (h : w.heap[r]? = some (.map es c)) (P : Program) : (setObj r x).run P w = .ok () (w.putObj r x) := by
  simp [setObj, Sem.run, h, World.putObj]

theorem mapUpdate_sim (hE : EnvOk E w0) (hI : Inv w0 ρ σ w) {t : TypeId} {m k x : AV} {σ' : St} {a b z : Value} (h : mapUpdateA E σ t m k x = some σ') (ra : VRel w0 ρ m a) (rb : VRel w0 ρ k b) (rx : VRel w0 ρ x z) :
    ∃ w', (Instr.mapUpdate t a b z).run E.P w = .ok () w' ∧ Step w0 ρ σ w ρ σ' w' := by
  simp only [mapUpdateA] at h
  split at h
  · rename_i kt et o k' ht hk
    obtain rfl := rb.exact hk
    split at h
    · rename_i es clock hg
      obtain ⟨L, ents, e1, e2, e3⟩ := hI.objs _ _ hg
      cases ra with
      | mp hL =>
      rw [e1] at hL; cases hL
      have hbn := hI.bnd _ _ _ e1
      rw [← e3.keys] at h
      split at h
      · rename_i hc hf
        cases h
        have hrun := findKey_sim hE hf w
        refine ⟨w.putObj L.blk (.map (ents.push ⟨b, z, clock⟩) (clock + 1)), ?_, Step.put hI _ _ hg e1 (fun _ _ _ e => by cases e) ?_⟩
        · simp [Instr.mapUpdate, run_und hE ht, getObj, Sem.run, e2, run_runA w hc, hrun, run_setObj_map _ e2]
        · refine ⟨L, _, e1, putObj_get_same hbn, ?_⟩
          rw [Array.toList_push]
          exact e3.append (.cons rfl rfl rx .nil)
      · rename_i i hc hf
        obtain ⟨e, he, hrun⟩ := findKey_sim hE hf w
        split at h
        · rename_i e' he'
          split at h
          · rename_i hsame
            cases h
            obtain ⟨e'', he'', hkey⟩ := e3.getE i e' he'
            rw [he] at he''; cases he''
            have hei : ents[i]? = some e := by simpa using he
            refine ⟨w.putObj L.blk (.map (ents.modify i fun e => { e with key := b, val := z }) clock), ?_, Step.put hI _ _ hg e1 (fun _ _ _ e => by cases e) ?_⟩
            · have hst : Instr.sameBits 10000 (((ents[i]?).map (·.key)).getD b) b = true := by
                rw [hei]; simp only [Option.map_some, Option.getD_some]; rw [hkey]; exact hsame
              simp only [Instr.mapUpdate, Sem.run_bind, run_und hE ht, Result.andThen_ok, getObj, Sem.run, e2, run_runA w hc, hrun, Instr.keyThatStays, hst, if_true, Sem.run_pure]
              exact run_setObj_map _ e2 _
            · refine ⟨L, _, e1, putObj_get_same hbn, ?_⟩
              rw [Array.toList_modify]
              exact e3.modify rx i
          · cases h
        · cases h
      · cases h
    · cases h
  · cases h

theorem delete_sim (hE : EnvOk E w0) (hI : Inv w0 ρ σ w) {ts : Array TypeId} {ty : TypeId} {m k : AV} {σ' : St} {a b : Value} (h : deleteA E σ ts.toList m k = some σ') (ra : VRel w0 ρ m a) (rb : VRel w0 ρ k b) :
    ∃ w', (Builtin.delete_ ts ty #[a, b]).run E.P w = .ok (.tuple #[]) w' ∧ Step w0 ρ σ w ρ σ' w' := by
  unfold deleteA at h
  split at h
  · rename_i t rest hts
    have ht0 : ts[0]? = some t := by rw [← Array.getElem?_toList, hts]; rfl
    split at h
    · rename_i kt et o k' ht hk
      obtain rfl := rb.exact hk
      split at h
      · rename_i es clock hg
        obtain ⟨L, ents, e1, e2, e3⟩ := hI.objs _ _ hg
        cases ra with
        | mp hL =>
        rw [e1] at hL; cases hL
        have hbn := hI.bnd _ _ _ e1
        have hempty : ((ents.toList.map (·.key)).isEmpty) = ents.isEmpty := by
          obtain ⟨l⟩ := ents; cases l <;> simp
        rw [← e3.keys] at h
        split at h
        · rename_i hc hf
          cases h
          rw [hempty] at hc
          have hrun := findKey_sim hE hf w
          refine ⟨w.putObj L.blk (.map ents clock), ?_, ?_⟩
          · simp [Builtin.delete_, ht0, run_und hE ht, getObj, Sem.run, e2, run_runA w hc, hrun, run_setObj_map _ e2]
          · rw [putObj_self e2]; exact Step.refl hI
        · rename_i i hc hf
          cases h
          rw [hempty] at hc
          obtain ⟨e, he, hrun⟩ := findKey_sim hE hf w
          refine ⟨w.putObj L.blk (.map (ents.eraseIdxIfInBounds i) clock), ?_, Step.put hI _ _ hg e1 (fun _ _ _ e => by cases e) ?_⟩
          · simp [Builtin.delete_, ht0, run_und hE ht, getObj, Sem.run, e2, run_runA w hc, hrun, run_setObj_map _ e2]
          · refine ⟨L, _, e1, putObj_get_same hbn, ?_⟩
            have hi : i < ents.size := by have := (List.getElem?_eq_some_iff.1 he).1; simpa using this
            have : (ents.eraseIdxIfInBounds i).toList = ents.toList.eraseIdx i := by simp
            rw [this]
            exact e3.erase i
        · cases h
      · cases h
    · cases h
  · cases h

end
end Go.Ai
