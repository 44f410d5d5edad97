/- The abstract interpreter: operations that change nothing, against the model's. Conditions: the environment tells the truth of the program. -/
import Derived.Test.YtfmbpdacdopkgaaGreatDoorAiSt
namespace Go.Ai
open Go.RowKit (Below)

/-- The environment tells the truth of the program and of the world in which the call began. -/
structure EnvOk (E : Env) (w0 : World) : Prop where
  und : ∀ t d, E.und t = some d → E.P.underlying t = some d
  inf : ∀ t i, E.inf t = some i → E.P.info? t = some i
  fn : ∀ f fn, E.fn f = some fn → E.P.funcs[f]? = some fn ∧ fn.body.isSome = true ∧ (fn.name == "runtime.NumGoroutine") = false
  glob : ∀ g cs, E.glob g = some cs → CRel w0 (fun _ _ => none) g 0 cs
  order : E.P.follows .mixedOrders = true
  ext : ∀ f X args x, E.ext f = some X → X args = some x → ∀ (ρ : Asg) (w : World) (cargs : Array Value), VRels w0 ρ args cargs.toList →
    ∃ y, (callFunc f cargs).run E.P w = .ok (.value y) w ∧ VRel w0 ρ x y
  sum : ∀ f S args x, E.sum f = some S → S args = some x → ∀ ρ σ w (cargs : Array Value), Inv w0 ρ σ w → VRels w0 ρ args cargs.toList →
    Calls E.P f cargs w fun e w' => ∃ y, e = .returned y ∧ VRel w0 ρ x y ∧ Below w.heap.size w w'

theorem run_runA {α : Type} {P : Program} : ∀ {s : Sem α} {a : α} (w : World), runA P s = some a → s.run P w = .ok a w
  | .pure a, b, w, h => by simp [runA] at h; subst h; rfl
  | .program k, b, w, h => by simp only [runA] at h; simp only [Sem.run]; exact run_runA w h
  | .mark _ k, b, w, h => by simp only [runA] at h; simp only [Sem.run]; exact run_runA w h
  | .load .., b, w, h | .store .., b, w, h | .new .., b, w, h | .shape .., b, w, h | .freeze .., b, w, h | .frozen .., b, w, h | .getObj .., b, w, h | .setObj .., b, w, h
  | .choose .., b, w, h | .sys .., b, w, h | .halt _, b, w, h => by simp [runA] at h

section
variable {E : Env} {w0 : World} {ρ : Asg} {σ : St} {w : World}

theorem run_und (hE : EnvOk E w0) {t : TypeId} {d : TypeDesc} (h : E.und t = some d) (w : World) : (underlying t).run E.P w = .ok d w := by
  simp [underlying, hE.und t d h]
theorem run_inf (hE : EnvOk E w0) {t : TypeId} {i : TypeInfo} (h : E.inf t = some i) (w : World) : (typeInfo t).run E.P w = .ok i w := by
  simp [typeInfo, hE.inf t i h]
theorem run_size (hE : EnvOk E w0) {t : TypeId} {n : Nat} (h : E.size t = some n) (w : World) : (sizeOf t).run E.P w = .ok n w := by
  unfold Env.size at h
  cases hi : E.inf t with
  | none => simp [hi] at h
  | some i => simp [hi] at h; subst h; simp [sizeOf, run_inf hE hi]
theorem run_zero (hE : EnvOk E w0) {t : TypeId} {z : Value} (h : E.zero t = some z) (w : World) : (zeroValue t).run E.P w = .ok z w := by
  unfold Env.zero at h
  cases hi : E.inf t with
  | none => simp [hi] at h
  | some i => simp [hi] at h; simp [zeroValue, run_inf hE hi, h]
theorem run_agg (hE : EnvOk E w0) {t : TypeId} {b : Bool} (h : E.agg t = some b) (w : World) : (isAgg t).run E.P w = .ok b w := by
  unfold Env.agg at h
  cases hd : E.und t with
  | none => simp [hd] at h
  | some d => cases d <;> simp [hd] at h <;> subst h <;> simp [isAgg, run_und hE hd]

theorem opd_rel (hE : EnvOk E w0) {a : AFr} {c : Act} (h : FRel w0 ρ a c.tmps) (x : Operand) : VRel w0 ρ (opd E a x) (c.eval x) := by
  cases x with
  | tmp t => exact h.2 t
  | const v => exact .v v
  | global g =>
    simp only [opd, Act.eval]
    cases hg : E.glob g with
    | none => exact .v _
    | some cs => exact .cptr ((hE.glob g cs hg).mono (fun _ _ _ e => by cases e))
  | func f => exact .fn .nil .nil

theorem opds_rel (hE : EnvOk E w0) {a : AFr} {c : Act} (h : FRel w0 ρ a c.tmps) (l : List Operand) : VRels w0 ρ (l.map (opd E a)) (l.map c.eval) := by
  induction l with
  | nil => exact .nil
  | cons x xs ih => exact .cons (opd_rel hE h x) ih

theorem add_none (b o i : Nat) : (⟨b, o, none⟩ : Addr).add i = ⟨b, o + i, none⟩ := by unfold Addr.add; split <;> simp_all

/-- The base's cells are still there. -/
theorem Inv.cell0 (h : Inv w0 ρ σ w) {b o : Nat} {y : Value} (e : w0.cell? ⟨b, o, none⟩ = some y) : w.cell? ⟨b, o, none⟩ = some y := by
  rw [h.below.cell (p := ⟨b, o, none⟩) (World.block_lt_of_cell? _ _ e)]; exact e

/-- What is read at an address lies there. -/
theorem rd_cells (hI : Inv w0 ρ σ w) {x : AV} {n : Nat} {cs : List AV} {y : Value} (h : rdCells σ x n = some cs) (hr : VRel w0 ρ x y) :
    ∃ b o, y = .pointer (some ⟨b, o, none⟩) ∧ cs.length = n ∧ ∀ j z, cs[j]? = some z → ∃ u, w.cell? ⟨b, o + j, none⟩ = some u ∧ VRel w0 ρ z u := by
  cases hr with
  | ptr hL hi =>
    rename_i o i g e L
    simp only [rdCells] at h
    split at h
    · rename_i hne
      split at h
      · rename_i cs' g' m hg
        split at h
        · rename_i hc
          simp only [Bool.and_eq_true, decide_eq_true_eq] at hc
          obtain ⟨⟨h1, h2⟩, h3⟩ := hc
          cases h
          have hO := hI.objs _ _ hg
          obtain ⟨L', e1, e2, e3, c, t, fz, c1, c2, c3, c4, c5⟩ := hO.2.1 g h1 h2
          rw [hL] at e1; cases e1
          refine ⟨L.blk, L.base + i, rfl, by simp; omega, fun j z hz => ?_⟩
          rw [List.getElem?_take] at hz
          split at hz
          · rename_i hj
            rw [List.getElem?_drop] at hz
            obtain ⟨u, u1, u2⟩ := c5 (i + j) (by omega)
            refine ⟨u, ?_, ?_⟩
            · simp only [World.cell?, c1]; rw [show L.base + i + j = L.base + (i + j) by omega]; simpa using u1
            · rw [show cs'.getD (i + j) .top = z by rw [List.getD_eq_getElem?_getD, hz]; rfl] at u2; exact u2
          · cases hz
        · cases h
      · cases h
    · cases h
  | cptr hc =>
    rename_i cs' b off
    simp only [rdCells] at h
    split at h
    · rename_i hn
      cases h
      refine ⟨b, off, rfl, by simp; omega, fun j z hz => ?_⟩
      rw [List.getElem?_take] at hz
      split at hz
      · obtain ⟨u, u1, u2⟩ := hc.cell j z hz
        exact ⟨u, hI.cell0 u1, u2⟩
      · cases hz
    · cases h
  | _ => simp [rdCells] at h

theorem run_load_cells (hI : Inv w0 ρ σ w) {x : AV} {n : Nat} {cs : List AV} {y : Value} (h : rdCells σ x n = some cs) (hr : VRel w0 ρ x y) :
    ∃ b o, y = .pointer (some ⟨b, o, none⟩) ∧ ∃ ys : Array Value, (∀ P, (loadCells ⟨b, o, none⟩ n).run P w = .ok ys w) ∧ VRels w0 ρ cs ys.toList ∧ cs.length = n ∧
      ∀ j u, ys[j]? = some u → w.cell? ⟨b, o + j, none⟩ = some u := by
  obtain ⟨b, o, rfl, hl, hc⟩ := rd_cells hI h hr
  have hcell : ∀ j, j < n → ∃ u, w.cell? ⟨b, o + j, none⟩ = some u := fun j hj => by
    have hz : cs[j]? = some cs[j] := List.getElem?_eq_getElem (by omega)
    obtain ⟨u, hu, _⟩ := hc j _ hz
    exact ⟨u, hu⟩
  refine ⟨b, o, rfl, ((List.range n).map fun j => (w.cell? ⟨b, o + j, none⟩).getD undef).toArray, fun P => ?_, ?_, hl, ?_⟩
  · refine run_loadCells w _ n _ fun j hj => ?_
    obtain ⟨u, hu⟩ := hcell j hj
    rw [add_none, hu]; rfl
  · refine VRels.of_get (by simp [hl]) fun j z u hz hu => ?_
    obtain ⟨u', hu', hr'⟩ := hc j z hz
    have hj : j < n := by rw [← hl]; exact (List.getElem?_eq_some_iff.1 hz).1
    simp [hj, hu'] at hu
    subst hu; exact hr'
  · intro j u hu
    have hj : j < n := by
      have := (Array.getElem?_eq_some_iff.1 hu).1; simpa using this
    obtain ⟨u', hu'⟩ := hcell j hj
    simp [hj, hu'] at hu
    subst hu; exact hu'

theorem load_sim (hE : EnvOk E w0) (hI : Inv w0 ρ σ w) {t : TypeId} {p x : AV} {y : Value} (h : loadA E σ t p = some x) (hr : VRel w0 ρ p y) :
    ∃ b o z, y = .pointer (some ⟨b, o, none⟩) ∧ (loadVar t ⟨b, o, none⟩).run E.P w = .ok z w ∧ VRel w0 ρ x z := by
  simp only [loadA] at h
  split at h
  · rename_i ha
    split at h
    · rename_i n hn
      simp only [Option.map_eq_some_iff] at h
      obtain ⟨cs, hcs, rfl⟩ := h
      obtain ⟨b, o, rfl, ys, h1, h2, h3, _⟩ := run_load_cells hI hcs hr
      exact ⟨b, o, .agg ys, rfl, by simp [loadVar, run_agg hE ha, run_size hE hn, h1], .agg h2⟩
    · cases h
  · rename_i ha
    split at h
    · rename_i c hcs
      cases h
      obtain ⟨b, o, rfl, hl, hc⟩ := rd_cells hI hcs hr
      obtain ⟨u, hu, hr'⟩ := hc 0 x rfl
      simp only [Nat.add_zero] at hu
      exact ⟨b, o, u, rfl, by simp [loadVar, run_agg hE ha, hu], hr'⟩
    · cases h
  · cases h

theorem fieldAddr_sim (hE : EnvOk E w0) {s : TypeId} {p x : AV} {f : Nat} {y : Value} (h : fieldAddrA E s p f = some x) (hr : VRel w0 ρ p y) (w : World) :
    ∃ z, (Instr.fieldAt s y f).run E.P w = .ok z w ∧ VRel w0 ρ x z := by
  simp only [fieldAddrA] at h
  split at h
  · rename_i fields hf
    split at h
    · rename_i fd hfd
      split at h
      · rename_i k hk
        split at h
        · cases h
        · rename_i hk0
          split at h
          · rename_i o i g e
            split at h
            · rename_i he
              cases h
              cases hr with
              | ptr hL hi =>
                rename_i L
                refine ⟨.pointer (some ⟨L.blk, L.base + (i + fd.offset), none⟩), ?_, .ptr hL (by omega)⟩
                simp [Instr.fieldAt, run_und hE hf, hfd, Instr.sureAddr, fieldPlace, run_size hE hk, hk0, add_none, Nat.add_assoc]
            · cases h
          · rename_i cs
            cases h
            cases hr with
            | cptr hc =>
              rename_i b off
              refine ⟨.pointer (some ⟨b, off + fd.offset, none⟩), ?_, .cptr (hc.drop _)⟩
              simp [Instr.fieldAt, run_und hE hf, hfd, Instr.sureAddr, fieldPlace, run_size hE hk, hk0, add_none]
          · cases h
      · cases h
    · cases h
  · cases h

theorem part_sim (hE : EnvOk E w0) {t : TypeId} {cs : List AV} {c : Array Value} {off : Nat} {x : AV} (h : partA E t cs off = some x) (hr : VRels w0 ρ cs c.toList) (w : World) :
    ∃ z, (part t c off).run E.P w = .ok z w ∧ VRel w0 ρ x z := by
  simp only [partA] at h
  split at h
  · rename_i ha
    split at h
    · rename_i n hn
      split at h
      · rename_i hle
        cases h
        refine ⟨.agg (c.extract off (off + n)), by simp [part, run_agg hE ha, run_size hE hn], .agg ?_⟩
        have := (hr.drop off).take n
        simpa [Array.toList_extract, List.extract_eq_take_drop] using this
      · cases h
    · cases h
  · rename_i ha
    obtain ⟨z, hz, hr'⟩ := hr.get off x h
    have hz' : c[off]? = some z := by simpa using hz
    exact ⟨z, by simp [part, run_agg hE ha, hz'], hr'⟩
  · cases h

theorem field_sim (hE : EnvOk E w0) {t : TypeId} {p x : AV} {f : Nat} {y : Value} (h : fieldA E t p f = some x) (hr : VRel w0 ρ p y) (w : World) :
    ∃ z, (Instr.field t y f).run E.P w = .ok z w ∧ VRel w0 ρ x z := by
  simp only [fieldA] at h
  split at h
  · rename_i fields cs hf hcs
    split at h
    · rename_i fd l hfd
      simp [AV.cells?] at hcs; subst hcs
      cases hr with
      | agg hr =>
        obtain ⟨z, hz, hr'⟩ := part_sim hE h hr w
        exact ⟨z, by simp [Instr.field, run_und hE hf, hfd, asAgg, hz], hr'⟩
    · rename_i fd c hfd
      simp [AV.cells?, Value.cells] at hcs; subst hcs
      cases hr with
      | v =>
        obtain ⟨z, hz, hr'⟩ := part_sim hE h (VRels.v_map c.toList) w
        exact ⟨z, by simp [Instr.field, run_und hE hf, hfd, asAgg, hz], hr'⟩
    · cases h
  · cases h


theorem run_indexAt_slice' (hE : EnvOk E w0) {t elem : TypeId} {k : Nat} (ht : E.und t = some (.slice elem)) (hk : E.size elem = some k) {b o n cap : Nat} {j : Int} {ik : IntKind}
    (h0 : 0 ≤ j) (h1 : j.toNat < n) (w : World) :
    (Instr.indexAt t (.slice (some ⟨b, o, none⟩) n cap) (.int ik j)).run E.P w = .ok (.pointer (some ⟨b, o + j.toNat * k, none⟩)) w := by
  have : j < n := by omega
  simp [Instr.indexAt, asIntOf, run_und hE ht, h0, this, run_size hE hk, add_none]

theorem run_indexAt_array' (hE : EnvOk E w0) {t elem : TypeId} {k len : Nat} (ht : E.und t = some (.array len elem)) (hk : E.size elem = some k) {b o : Nat} {j : Int} {ik : IntKind}
    (h0 : 0 ≤ j) (h1 : j.toNat < len) (w : World) :
    (Instr.indexAt t (.pointer (some ⟨b, o, none⟩)) (.int ik j)).run E.P w = .ok (.pointer (some ⟨b, o + j.toNat * k, none⟩)) w := by
  have : j < len := by omega
  simp [Instr.indexAt, asIntOf, run_und hE ht, h0, this, run_size hE hk, add_none, Instr.sureAddr]

theorem indexAddr_sim (hE : EnvOk E w0) {t : TypeId} {p ix x : AV} {y iy : Value} (h : indexAddrA E t p ix = some x) (hr : VRel w0 ρ p y) (hi : VRel w0 ρ ix iy) (w : World) :
    ∃ z, (Instr.indexAt t y iy).run E.P w = .ok z w ∧ VRel w0 ρ x z := by
  simp only [indexAddrA] at h
  split at h
  · rename_i ik j
    cases hi
    split at h
    · cases h
    · rename_i hj
      split at h
      · rename_i elem ht
        split at h
        · rename_i k o b n g sz hk
          split at h
          · rename_i hc
            simp only [Bool.and_eq_true, decide_eq_true_eq, beq_iff_eq] at hc
            obtain ⟨hlt, rfl⟩ := hc
            cases h
            have hmul : j.toNat * k + k ≤ n * k := by
              have := Nat.mul_le_mul_right k hlt; rw [Nat.succ_mul] at this; exact this
            cases hr with
            | sl hL h1 h2 h3 =>
              rename_i L cap
              exact ⟨_, run_indexAt_slice' hE ht hk (by omega) hlt w, by rw [Nat.add_assoc]; exact .ptr hL (by omega)⟩
            | sl0 hL h1 => omega
          · cases h
        · rename_i k sz xs hk
          split at h
          · rename_i hsz
            obtain rfl : k = sz := by simpa using hsz
            split at h
            · rename_i z hz
              simp only [Option.map_eq_some_iff] at h
              obtain ⟨cs, hcs, rfl⟩ := h
              have hlt : j.toNat < xs.length := (List.getElem?_eq_some_iff.1 hz).1
              cases hr with
              | lst hL hn hc =>
                rename_i b off n cap
                exact ⟨_, run_indexAt_slice' hE ht hk (by omega) (by omega) w, .cptr (hL.get _ _ _ hz hcs).1⟩
              | lst0 => simp at hlt
            · cases h
          · cases h
        · cases h
      · rename_i len elem ht
        split at h
        · rename_i k o b g e hk
          split at h
          · rename_i hc
            simp only [Bool.and_eq_true, decide_eq_true_eq] at hc
            cases h
            cases hr with
            | ptr hL h1 =>
              exact ⟨_, run_indexAt_array' hE ht hk (by omega) hc.1 w, by rw [Nat.add_assoc]; exact .ptr hL (by omega)⟩
          · cases h
        · rename_i k cs hk
          split at h
          · rename_i hc
            cases h
            cases hr with
            | cptr hL => exact ⟨_, run_indexAt_array' hE ht hk (by omega) hc w, .cptr (hL.drop _)⟩
          · cases h
        · cases h
      · cases h
  · cases h

theorem index_sim (hE : EnvOk E w0) {t : TypeId} {p ix x : AV} {y iy : Value} (h : indexA E t p ix = some x) (hr : VRel w0 ρ p y) (hi : VRel w0 ρ ix iy) (w : World) :
    ∃ z, (Instr.index t y iy).run E.P w = .ok z w ∧ VRel w0 ρ x z := by
  simp only [indexA] at h
  split at h
  · rename_i ik j
    cases hi
    split at h
    · cases h
    · rename_i hj
      have h0 : 0 ≤ j := by omega
      split at h
      · rename_i len elem cs ht
        split at h
        · rename_i k hk
          split at h
          · rename_i hlt
            cases hr with
            | agg hr =>
              obtain ⟨z, hz, hr'⟩ := part_sim hE h hr w
              have : j < len := by omega
              exact ⟨z, by simp [Instr.index, asIntOf, run_und hE ht, h0, this, run_size hE hk, hz], hr'⟩
          · cases h
        · cases h
      · rename_i len elem cs ht
        split at h
        · rename_i k hk
          split at h
          · rename_i hlt
            cases hr with
            | v =>
              obtain ⟨z, hz, hr'⟩ := part_sim hE h (VRels.v_map cs.toList) w
              have : j < len := by omega
              exact ⟨z, by simp [Instr.index, asIntOf, run_und hE ht, h0, this, run_size hE hk, hz], hr'⟩
          · cases h
        · cases h
      · rename_i s ht
        cases hr
        split at h
        · rename_i b hb
          cases h
          exact ⟨_, by simp [Instr.index, asIntOf, run_und hE ht, h0, hb], .v _⟩
        · cases h
      · cases h
  · cases h

/-- A bound that is told is the model's. -/
theorem run_bound {x : Option AV} {d n : Nat} {y : Option Value} {m : Nat} {code : BoundsCode} (h : bound? x d = some n)
    (hr : ∀ z, x = some z → ∃ u, y = some u ∧ VRel w0 ρ z u) (hn : x = none → y = none) (hle : n ≤ m) (P : Program) (w : World) :
    (y = none ∧ n = d) ∨ ∃ u, y = some u ∧ (Instr.sliceBound u m code).run P w = .ok n w := by
  cases x with
  | none => simp [bound?] at h; exact .inl ⟨hn rfl, h.symm⟩
  | some z =>
    obtain ⟨u, hu, hr⟩ := hr z rfl
    right
    unfold bound? at h
    split at h
    · rename_i e; cases e
    · rename_i ik j e
      cases e
      cases hr
      split at h
      · cases h
      · cases h
        have h0 : 0 ≤ j := by omega
        have h1 : j ≤ m := by omega
        exact ⟨_, hu, by simp [Instr.sliceBound, asIntOf, h0, h1]⟩
    · cases h

theorem run_bounds {lo hi mx : Option AV} {len cap cap' l h m : Nat} {isSlice : Bool} {lo' hi' mx' : Option Value} (hb : bounds? lo hi mx len cap = some (l, h, m)) (hc : cap ≤ cap')
    (rlo : (∀ z, lo = some z → ∃ u, lo' = some u ∧ VRel w0 ρ z u) ∧ (lo = none → lo' = none))
    (rhi : (∀ z, hi = some z → ∃ u, hi' = some u ∧ VRel w0 ρ z u) ∧ (hi = none → hi' = none))
    (rmx : (∀ z, mx = some z → ∃ u, mx' = some u ∧ VRel w0 ρ z u) ∧ (mx = none → mx' = none)) (P : Program) (w : World) :
    ∃ m', (Instr.sliceBounds isSlice len cap' lo' hi' mx').run P w = .ok (l, h, m') w ∧ l ≤ h ∧ h ≤ m ∧ m ≤ cap ∧ (mx.isSome = true → m' = m) ∧ (mx = none → m' = cap' ∧ m = cap) := by
  have key : ∀ (x : Option AV) (d n m : Nat) (y : Option Value), bound? x d = some n → (∀ z, x = some z → ∃ u, y = some u ∧ VRel w0 ρ z u) → (x = none → y = none) → n ≤ m →
      (x = none ∧ y = none ∧ n = d) ∨ (∃ z u, x = some z ∧ y = some u ∧ ∀ code, (Instr.sliceBound u m code).run P w = .ok n w) := fun x d n m y hx hr hn hle => by
    cases x with
    | none => exact .inl ⟨rfl, hn rfl, by simpa [bound?] using hx.symm⟩
    | some z =>
      obtain ⟨u, hu, _⟩ := hr z rfl
      refine .inr ⟨z, u, rfl, hu, fun code => ?_⟩
      rcases run_bound (code := code) hx hr hn hle P w with ⟨n1, _⟩ | ⟨u', n1, n2⟩
      · rw [hu] at n1; cases n1
      · rw [hu] at n1; cases n1; exact n2
  unfold bounds? at hb
  split at hb
  · cases hb
  · rename_i hmx
    split at hb
    · rename_i m₀ h₀ l₀ e1 e2 e3
      split at hb
      · rename_i hle
        simp only [Bool.and_eq_true, decide_eq_true_eq] at hle
        obtain ⟨⟨i1, i2⟩, i3⟩ := hle
        cases hb
        rcases key mx cap m cap' mx' e1 rmx.1 rmx.2 (by omega) with ⟨a1, a2, a3⟩ | ⟨zm, um, a1, a2, a3⟩
        · subst a1 a2 a3
          refine ⟨cap', ?_, i1, i2, i3, fun c => (by cases c), fun _ => ⟨rfl, rfl⟩⟩
          rcases key hi len h cap' hi' e2 rhi.1 rhi.2 (by omega) with ⟨b1, b2, b3⟩ | ⟨zh, uh, b1, b2, b3⟩ <;>
          rcases key lo 0 l h lo' e3 rlo.1 rlo.2 i1 with ⟨c1, c2, c3⟩ | ⟨zl, ul, c1, c2, c3⟩ <;>
          subst b2 c2 <;> simp_all [Instr.sliceBounds]
        · subst a1 a2
          refine ⟨m, ?_, i1, i2, i3, fun _ => rfl, fun c => (by cases c)⟩
          rcases key hi len h m hi' e2 rhi.1 rhi.2 i2 with ⟨b1, b2, b3⟩ | ⟨zh, uh, b1, b2, b3⟩
          · subst b1; exact (hmx _ rfl rfl).elim
          · rcases key lo 0 l h lo' e3 rlo.1 rlo.2 i1 with ⟨c1, c2, c3⟩ | ⟨zl, ul, c1, c2, c3⟩ <;>
            subst b2 c2 <;> simp_all [Instr.sliceBounds]
      · cases hb
    · cases hb

theorem slice_sim (hE : EnvOk E w0) {t : TypeId} {p x : AV} {lo hi mx : Option AV} {y : Value} {lo' hi' mx' : Option Value} (h : sliceA E t p lo hi mx = some x) (hr : VRel w0 ρ p y)
    (rlo : (∀ z, lo = some z → ∃ u, lo' = some u ∧ VRel w0 ρ z u) ∧ (lo = none → lo' = none))
    (rhi : (∀ z, hi = some z → ∃ u, hi' = some u ∧ VRel w0 ρ z u) ∧ (hi = none → hi' = none))
    (rmx : (∀ z, mx = some z → ∃ u, mx' = some u ∧ VRel w0 ρ z u) ∧ (mx = none → mx' = none)) (w : World) :
    ∃ z, (Instr.sliceAt t y lo' hi' mx').run E.P w = .ok z w ∧ VRel w0 ρ x z := by
  have nomx : mx = none → mx' = none := rmx.2
  simp only [sliceA] at h
  split at h
  · rename_i ht
    split at h
    · rename_i s
      split at h
      · rename_i l h₀ m hb
        cases h
        cases hr
        obtain ⟨m', hrun, _⟩ := run_bounds (isSlice := false) hb (Nat.le_refl _) rlo rhi rmx E.P w
        have := nomx rfl; subst this
        exact ⟨_, by simp [Instr.sliceAt, Instr.slice, run_und hE ht, hrun], .v _⟩
      · cases h
    · cases h
  · rename_i elem ht
    split at h
    · cases h
    · rename_i k hk
      have hrun0 : ∀ (y : Value) (a : Option Addr) (n cap l h m : Nat), y = .slice a n cap → (Instr.sliceBounds true n cap lo' hi' mx').run E.P w = .ok (l, h, m) w →
          (Instr.sliceAt t y lo' hi' mx').run E.P w = .ok (.slice (if m = l then a else a.map (·.add (l * k))) (h - l) (m - l)) w := fun y a n cap l h m e hb => by
        subst e; simp [Instr.sliceAt, Instr.slice, run_und hE ht, hb, run_size hE hk]
      split at h
      · simp only [Option.map_eq_some_iff] at h
        obtain ⟨⟨l, h₀, m⟩, hb, rfl⟩ := h
        cases hr
        obtain ⟨m', hrun, i1, i2, i3, i4, i5⟩ := run_bounds (isSlice := true) hb (Nat.le_refl _) rlo rhi rmx E.P w
        have hm : m' = 0 := by
          cases mx with
          | none => exact (i5 rfl).1
          | some z => rw [i4 rfl]; omega
        have e := hrun0 _ none 0 0 _ _ _ rfl hrun
        obtain rfl : m = 0 := by omega
        obtain rfl : h₀ = 0 := by omega
        obtain rfl : l = 0 := by omega
        subst hm
        exact ⟨_, e, .v _⟩
      · simp only [Option.map_eq_some_iff] at h
        obtain ⟨⟨l, h₀, m⟩, hb, rfl⟩ := h
        cases hr with
        | e0 =>
        rename_i a
        obtain ⟨m', hrun, i1, i2, i3, i4, i5⟩ := run_bounds (isSlice := true) hb (Nat.le_refl _) rlo rhi rmx E.P w
        have hm : m' = 0 := by
          cases mx with
          | none => exact (i5 rfl).1
          | some z => rw [i4 rfl]; omega
        have e := hrun0 _ (some a) 0 0 _ _ _ rfl hrun
        obtain rfl : m = 0 := by omega
        obtain rfl : h₀ = 0 := by omega
        obtain rfl : l = 0 := by omega
        subst hm
        exact ⟨_, e, .e0⟩
      · rename_i o b n g sz
        split at h
        · rename_i hsz
          obtain rfl : k = sz := by simpa using hsz
          split at h
          · rename_i l h₀ m hb
            cases hr with
            | sl hL h1 h2 h3 =>
              rename_i cap L
              obtain ⟨m', hrun, i1, i2, i3, i4, i5⟩ := run_bounds (isSlice := true) hb h2 rlo rhi rmx E.P w
              have e := hrun0 _ (some ⟨L.blk, L.base + b, none⟩) n cap _ _ _ rfl hrun
              have hm'c : m' ≤ cap ∧ h₀ ≤ m' := by
                cases mx with
                | none => have := i5 rfl; omega
                | some z => have := i4 rfl; omega
              have hmul : l * k + (h₀ - l) * k = h₀ * k := by rw [← Nat.add_mul]; congr 1; omega
              have hmul2 : h₀ * k ≤ n * k := Nat.mul_le_mul_right _ (by omega)
              have hmul3 : l * k + (m' - l) * k = m' * k := by rw [← Nat.add_mul]; congr 1; omega
              have hmul4 : m' * k ≤ cap * k := Nat.mul_le_mul_right _ hm'c.1
              split at h
              · rename_i hc
                simp only [Bool.and_eq_true, beq_iff_eq] at hc
                cases h
                obtain rfl := i4 hc.1
                obtain rfl := hc.2
                obtain rfl : h₀ = m' := by omega
                exact ⟨_, e, by simpa using .e0⟩
              · cases h
                refine ⟨_, e, ?_⟩
                by_cases hml : m' = l
                · subst hml
                  obtain rfl : h₀ = m' := by omega
                  simp only [if_true, Nat.sub_self]
                  exact .sl0 hL (by omega)
                · rw [if_neg hml]
                  simp only [Option.map_some, add_none, Nat.add_assoc]
                  exact .sl hL (by omega) (by omega) (by omega)
            | sl0 hL h1 =>
              rename_i L a
              obtain ⟨m', hrun, i1, i2, i3, i4, i5⟩ := run_bounds (isSlice := true) hb (Nat.le_refl _) rlo rhi rmx E.P w
              have hm : m' = 0 := by
                cases mx with
                | none => exact (i5 rfl).1
                | some z => rw [i4 rfl]; omega
              have e := hrun0 _ (some a) 0 0 _ _ _ rfl hrun
              obtain rfl : m = 0 := by omega
              obtain rfl : h₀ = 0 := by omega
              obtain rfl : l = 0 := by omega
              subst hm
              split at h
              · cases h; exact ⟨_, e, .e0⟩
              · cases h; exact ⟨_, e, by simpa using .sl0 hL h1⟩
          · cases h
        · cases h
      · rename_i sz xs
        split at h
        · rename_i hsz
          obtain rfl : k = sz := by simpa using hsz
          split at h
          · rename_i l h₀ m hb
            have fin : ∀ (a : Addr) (n cap : Nat), n = xs.length → n ≤ cap → y = .slice (some a) n cap → (xs = [] ∨ (a.spot = none ∧ LRel w0 ρ k a.block a.off xs)) →
                ∃ z, (Instr.sliceAt t y lo' hi' mx').run E.P w = .ok z w ∧ VRel w0 ρ x z := fun a n cap hn hle hy hx => by
              subst hn
              obtain ⟨m', hrun, i1, i2, i3, i4, i5⟩ := run_bounds (isSlice := true) hb hle rlo rhi rmx E.P w
              have e := hrun0 _ _ _ cap _ _ _ hy hrun
              refine ⟨_, e, ?_⟩
              split at h
              · rename_i hmx
                split at h
                · rename_i hml
                  cases h
                  obtain rfl := i4 hmx
                  obtain rfl : m' = l := by simpa using hml
                  obtain rfl : h₀ = m' := by omega
                  simpa using .e0
                · cases h
              · rename_i hmx
                cases h
                have hm' := (i5 (by simpa using hmx)).1
                subst hm'
                have hlen : ((xs.drop l).take (h₀ - l)).length = h₀ - l := by simp; omega
                by_cases hml : m' = l
                · subst hml
                  obtain rfl : h₀ = m' := by omega
                  simp only [if_true, Nat.sub_self, List.take_zero]
                  exact .lst0
                · rw [if_neg hml]
                  rcases hx with hx | ⟨ha, hx⟩
                  · subst hx
                    obtain rfl : h₀ = 0 := by simp at i3 i2; omega
                    obtain rfl : l = 0 := by omega
                    simp only [List.drop_nil, List.take_nil, Option.map_some, Nat.sub_self]
                    exact .lst0
                  · obtain ⟨ab, ao, as⟩ := a
                    simp only at ha hx
                    subst ha
                    simp only [Option.map_some, add_none]
                    exact .lst ((hx.drop l).take _) hlen.symm (by omega)
            cases hr with
            | lst hL hn hc => exact fin _ _ _ hn hc rfl (.inr ⟨rfl, hL⟩)
            | lst0 => exact fin _ _ _ rfl (Nat.zero_le _) rfl (.inl rfl)
          · cases h
        · cases h
      · cases h
  · rename_i n elem ht
    split at h
    · rename_i k o b g e hk
      split at h
      · rename_i l h₀ m hb
        split at h
        · rename_i hle
          cases h
          cases hr with
          | ptr hL h1 =>
            rename_i L
            obtain ⟨m', hrun, i1, i2, i3, i4, i5⟩ := run_bounds (isSlice := false) hb (Nat.le_refl _) rlo rhi rmx E.P w
            obtain ⟨rfl, rfl⟩ := i5 rfl
            have := nomx rfl; subst this
            refine ⟨.slice (some (if m = l then ⟨L.blk, L.base + b, none⟩ else (⟨L.blk, L.base + b, none⟩ : Addr).add (l * k))) (h₀ - l) (m - l),
              by simp [Instr.sliceAt, run_und hE ht, Instr.sureAddr, hrun, run_size hE hk], ?_⟩
            have hmul : l * k + (h₀ - l) * k = h₀ * k := by rw [← Nat.add_mul]; congr 1; omega
            have hmul2 : h₀ * k ≤ m * k := Nat.mul_le_mul_right _ (by omega)
            have hmul3 : l * k + (m - l) * k = m * k := by rw [← Nat.add_mul]; congr 1; omega
            have := L.le
            by_cases hml : m = l
            · subst hml
              obtain rfl : h₀ = m := by omega
              simp only [if_true, Nat.sub_self]
              exact .sl0 hL (by omega)
            · rw [if_neg hml]
              simp only [add_none, Nat.add_assoc]
              exact .sl hL (by omega) (by omega) (by omega)
        · cases h
      · cases h
    · cases h
  · cases h

/-- Optional operands. -/
theorem opt_rel (hE : EnvOk E w0) {a : AFr} {c : Act} (h : FRel w0 ρ a c.tmps) (x : Option Operand) :
    (∀ z, x.map (opd E a) = some z → ∃ u, x.map c.eval = some u ∧ VRel w0 ρ z u) ∧ (x.map (opd E a) = none → x.map c.eval = none) := by
  cases x with
  | none => exact ⟨fun _ e => by simp at e, fun _ => rfl⟩
  | some o => exact ⟨fun z e => by simp at e; subst e; exact ⟨_, rfl, opd_rel hE h o⟩, fun e => by simp at e⟩


/-- What is no nil of its type. -/
def NoNil (d : TypeDesc) (b : Value) : Prop :=
  match d with
  | .pointer _ => ∃ a, b = .pointer (some a)
  | .slice _ => ∃ a n c, b = .slice (some a) n c
  | .map _ _ => ∃ r, b = .map (some r)
  | .func _ _ _ => ∃ f x y, b = .func f x y
  | .interface _ => ∃ t v, b = .iface t v
  | _ => False
theorem noNil_rel {d : TypeDesc} {y : AV} {b : Value} (hy : noNil d y = true) (rb : VRel w0 ρ y b) : NoNil d b := by
  unfold noNil at hy
  split at hy
  all_goals first
    | (cases hy; done)
    | (cases rb <;> simp [NoNil]; done)

/-- What the model makes of a nil and of what is none. -/
structure EqNil (E : Env) (t : TypeId) (a b : Value) (w : World) : Prop where
  e1 : ∀ n, (Op.equalIn (n + 1) t a b).run E.P w = .ok false w
  e2 : ∀ n, (Op.equalIn (n + 1) t b a).run E.P w = .ok false w
  g1 : ∀ op xo yo, (eqGuard op t xo yo a b).run E.P w = .ok () w
  g2 : ∀ op xo yo, (eqGuard op t xo yo b a).run E.P w = .ok () w
  b1 : binOp .eql t a b = (do pure (.bool (← Op.equal t a b)))
  b2 : binOp .eql t b a = (do pure (.bool (← Op.equal t b a)))
  b3 : binOp .neq t a b = (do pure (.bool (!(← Op.equal t a b))))
  b4 : binOp .neq t b a = (do pure (.bool (!(← Op.equal t b a))))

theorem eqNil_pointer (hE : EnvOk E w0) {t e : TypeId} (hd : E.und t = some (.pointer e)) (a : Addr) (w : World) : EqNil E t (.pointer none) (.pointer (some a)) w :=
  ⟨fun n => by simp [Op.equalIn, run_und hE hd], fun n => by simp [Op.equalIn, run_und hE hd], fun op xo yo => by unfold eqGuard; split <;> simp, fun op xo yo => by unfold eqGuard; split <;> simp, rfl, rfl, rfl, rfl⟩
theorem eqNil_slice (hE : EnvOk E w0) {t e : TypeId} (hd : E.und t = some (.slice e)) (a : Addr) (n c : Nat) (w : World) : EqNil E t (.slice none 0 0) (.slice (some a) n c) w :=
  ⟨fun n => by simp [Op.equalIn, run_und hE hd], fun n => by simp [Op.equalIn, run_und hE hd], fun op xo yo => by unfold eqGuard; split <;> simp, fun op xo yo => by unfold eqGuard; split <;> simp, rfl, rfl, rfl, rfl⟩
theorem eqNil_map (hE : EnvOk E w0) {t k e : TypeId} (hd : E.und t = some (.map k e)) (r : Nat) (w : World) : EqNil E t (.map none) (.map (some r)) w :=
  ⟨fun n => by simp [Op.equalIn, run_und hE hd], fun n => by simp [Op.equalIn, run_und hE hd], fun op xo yo => by unfold eqGuard; split <;> simp, fun op xo yo => by unfold eqGuard; split <;> simp, rfl, rfl, rfl, rfl⟩
theorem eqNil_func (hE : EnvOk E w0) {t : TypeId} {p q : Array TypeId} {v : Bool} (hd : E.und t = some (.func p q v)) (f : Fn) (x y : Array Value) (w : World) : EqNil E t .nilFunc (.func f x y) w :=
  ⟨fun n => by simp [Op.equalIn, run_und hE hd], fun n => by simp [Op.equalIn, run_und hE hd], fun op xo yo => by unfold eqGuard; split <;> simp, fun op xo yo => by unfold eqGuard; split <;> simp, rfl, rfl, rfl, rfl⟩
theorem eqNil_iface (hE : EnvOk E w0) {t : TypeId} {m : Array (String × TypeId)} (hd : E.und t = some (.interface m)) (u : TypeId) (y : Value) (w : World) : EqNil E t .nilIface (.iface u y) w :=
  ⟨fun n => by simp [Op.equalIn, run_und hE hd], fun n => by simp [Op.equalIn, run_und hE hd], fun op xo yo => by unfold eqGuard; split <;> simp, fun op xo yo => by unfold eqGuard; split <;> simp, rfl, rfl, rfl, rfl⟩

theorem eq_nil (hE : EnvOk E w0) {t : TypeId} {d : TypeDesc} (hd : E.und t = some d) {x y : AV} {a b : Value} (hx : isNil d x = true) (hy : noNil d y = true) (ra : VRel w0 ρ x a) (rb : VRel w0 ρ y b) (w : World) :
    EqNil E t a b w := by
  have hn := noNil_rel hy rb
  unfold isNil at hx
  split at hx
  · cases ra; obtain ⟨p, rfl⟩ := hn; exact eqNil_pointer hE hd p w
  · cases ra; obtain ⟨p, n, c, rfl⟩ := hn; exact eqNil_slice hE hd p n c w
  · cases ra; obtain ⟨p, rfl⟩ := hn; exact eqNil_map hE hd p w
  · cases ra; obtain ⟨f, p, q, rfl⟩ := hn; exact eqNil_func hE hd f p q w
  · cases ra; obtain ⟨u, p, rfl⟩ := hn; exact eqNil_iface hE hd u p w
  · cases hx

theorem eq_sim (hE : EnvOk E w0) {op : BinOp} {t : TypeId} {xo yo : Operand} {x y r : AV} {a b : Value} (h : eqA E op t xo yo x y = some r) (ra : VRel w0 ρ x a) (rb : VRel w0 ρ y b) (w : World) :
    ∃ z, (do eqGuard op t xo yo a b; binOp op t a b : Sem Value).run E.P w = .ok z w ∧ VRel w0 ρ r z := by
  simp only [eqA] at h
  split at h
  · rename_i a' b' ea eb
    obtain rfl := ra.exact ea
    obtain rfl := rb.exact eb
    simp only [Option.map_eq_some_iff] at h
    obtain ⟨z, hz, rfl⟩ := h
    exact ⟨z, run_runA w hz, .v z⟩
  · split at h
    · rename_i d hd
      split at h
      · rename_i hc
        simp only [Bool.or_eq_true, Bool.and_eq_true] at hc
        rcases hc with ⟨h1, h2⟩ | ⟨h1, h2⟩
        · obtain ⟨e1, e2, g1, g2, b1, b2, b3, b4⟩ := eq_nil hE hd h1 h2 ra rb w
          split at h
          · cases h
            exact ⟨_, by simp [g1, b1, Op.equal, Op.maxDepth, e1], .v _⟩
          · cases h
            exact ⟨_, by simp [g1, b3, Op.equal, Op.maxDepth, e1], .v _⟩
          · cases h
        · obtain ⟨e1, e2, g1, g2, b1, b2, b3, b4⟩ := eq_nil hE hd h1 h2 rb ra w
          split at h
          · cases h
            exact ⟨_, by simp [g2, b2, Op.equal, Op.maxDepth, e2], .v _⟩
          · cases h
            exact ⟨_, by simp [g2, b4, Op.equal, Op.maxDepth, e2], .v _⟩
          · cases h
      · cases h
    · cases h

end
end Go.Ai
