/- The abstract interpreter: append, copy, clear. Conditions: the environment tells the truth of the program. -/
import Derived.Test.YtfmbpdacdopkgaaGreatDoorAiWrite
namespace Go.Ai
open Go.RowKit (Below)

section
variable {E : Env} {w0 : World} {ρ : Asg} {σ : St} {w : World}

/-- What is appended or copied. -/
theorem elems_sim (hI : Inv w0 ρ σ w) {sz n : Nat} {x : AV} {cs : List AV} {a : Value} (h : elemsA σ sz x = some (n, cs)) (ra : VRel w0 ρ x a) (hl : cs.length = n * sz) (P : Program) :
    (Builtin.lenOf a).run P w = .ok n w ∧ ∀ k, k ≤ n → ∃ ys : Array Value, (∀ (wd : World), (wd = w ∨ wd = w.drew) → (Builtin.firstCells sz k a).run P wd = .ok ys wd) ∧ VRels w0 ρ (cs.take (k * sz)) ys.toList := by
  have loads : ∀ (p : Addr) (b off : Nat) (k : Nat) (ys : List Value), p = ⟨b, off, none⟩ → VRels w0 ρ (cs.take (k * sz)) ys → (∀ j y, ys[j]? = some y → w.cell? ⟨b, off + j, none⟩ = some y) → ys.length = k * sz →
      ∀ wd : World, (wd = w ∨ wd = w.drew) → (loadCells p (k * sz)).run P wd = .ok ys.toArray wd := fun p b off k ys hp _ hc hlen wd hwd => by
    subst hp
    have hcell : ∀ j v, ys[j]? = some v → wd.cell? ((⟨b, off, none⟩ : Addr).add j) = some v := fun j v hj => by
      rw [add_none]
      rcases hwd with rfl | rfl
      · exact hc j v hj
      · simpa using hc j v hj
    have := run_loadCells_list (P := P) wd _ ys hcell
    rw [hlen] at this; exact this
  unfold elemsA at h
  split at h
  · cases h; cases ra
    refine ⟨rfl, fun k hk => ⟨#[], fun wd _ => rfl, ?_⟩⟩
    simpa using VRels.nil
  · cases h; cases ra with
    | e0 =>
    refine ⟨rfl, fun k hk => ⟨#[], fun wd _ => ?_, by simpa using VRels.nil⟩⟩
    obtain rfl : k = 0 := by omega
    simp [Builtin.firstCells, loadCells, loadCellsFrom]
  · rename_i s
    split at h
    · rename_i hsz
      subst hsz
      cases h; cases ra
      refine ⟨rfl, fun k hk => ⟨(s.extract 0 k).data.map fun b => .int .u8 b.toNat, fun wd _ => rfl, ?_⟩⟩
      refine VRels.of_get (by simp) fun i x y hx hy => ?_
      rw [Nat.mul_one] at hx
      have hd : (s.extract 0 k).data = s.data.extract 0 k := by simp
      rw [hd] at hy
      simp only [List.getElem?_take, List.getElem?_map, Array.getElem?_toList, Array.getElem?_map, Array.getElem?_extract] at hx hy
      split at hx
      · rename_i hik
        split at hy
        · cases hs : s.data[i]? with
          | none => simp [hs] at hx
          | some b => simp [hs] at hx hy; subst hx hy; exact .v _
        · simp at hy
      · cases hx
    · cases h
  · rename_i o i m g sz'
    split at h
    · rename_i hsz
      subst hsz
      simp only [Option.map_eq_some_iff, Prod.mk.injEq] at h
      obtain ⟨cs', hcs, rfl, rfl⟩ := h
      obtain ⟨p, cap, rfl, hcap, ys, h1, h2, h3, h4⟩ := sl_cells hI hcs ra
      refine ⟨rfl, fun k hk => ?_⟩
      have hkm : k * sz ≤ m * sz := Nat.mul_le_mul_right _ hk
      have hys : ys.toList.length = m * sz := by rw [← h2.length]; exact h3
      refine ⟨(ys.toList.take (k * sz)).toArray, fun wd hwd => ?_, by simpa using h2.take _⟩
      have hlen : (ys.toList.take (k * sz)).length = k * sz := by simp at hys ⊢; omega
      have hcell : ∀ j v, (ys.toList.take (k * sz))[j]? = some v → wd.cell? (p.add j) = some v := fun j v hj => by
        rw [List.getElem?_take] at hj
        split at hj
        · have := h4 j v (by simpa using hj)
          rcases hwd with rfl | rfl
          · exact this
          · simpa using this
        · cases hj
      have := run_loadCells_list (P := P) wd p _ hcell
      rw [hlen] at this
      simpa [Builtin.firstCells] using this
    · cases h
  · rename_i sz' xs
    split at h
    · rename_i hsz
      subst hsz
      simp only [Option.map_eq_some_iff, Prod.mk.injEq] at h
      obtain ⟨l, hl', rfl, rfl⟩ := h
      have key : ∀ (p : Addr), (l = [] ∨ ∃ b off, p = ⟨b, off, none⟩ ∧ CRel w0 ρ b off l) → ∀ k, k ≤ xs.length →
          ∃ ys : Array Value, (∀ (wd : World), (wd = w ∨ wd = w.drew) → (loadCells p (k * sz)).run P wd = .ok ys wd) ∧ VRels w0 ρ (l.take (k * sz)) ys.toList := fun p hp k hk => by
        have hkm : k * sz ≤ xs.length * sz := Nat.mul_le_mul_right _ hk
        rcases hp with rfl | ⟨b, off, rfl, hc⟩
        · have : k * sz = 0 := by simp at hl; omega
          rw [this]
          exact ⟨#[], fun wd _ => by simp [loadCells, loadCellsFrom], by simpa using VRels.nil⟩
        · have hlen : l.length = xs.length * sz := hl
          have hex : ∀ j, j < k * sz → ∃ y, w0.cell? ⟨b, off + j, none⟩ = some y ∧ VRel w0 ρ (l[j]?.getD .top) y := fun j hj => by
            have hz : l[j]? = some l[j] := List.getElem?_eq_getElem (by omega)
            obtain ⟨y, h1, h2⟩ := hc.cell j _ hz
            exact ⟨y, h1, by rw [hz]; exact h2⟩
          refine ⟨((List.range (k * sz)).map fun j => (w.cell? ⟨b, off + j, none⟩).getD undef).toArray, fun wd hwd => ?_, ?_⟩
          · refine run_loadCells wd _ _ _ fun j hj => ?_
            obtain ⟨y, h1, _⟩ := hex j hj
            have := hI.cell0 h1
            rw [add_none, this]
            rcases hwd with rfl | rfl
            · rw [this]; rfl
            · simpa using this
          · refine VRels.of_get (by simp; omega) fun j x y hx hy => ?_
            rw [List.getElem?_take] at hx
            split at hx
            · rename_i hj
              obtain ⟨y', h1, h2⟩ := hex j hj
              simp [hj, hI.cell0 h1] at hy
              subst hy
              rw [hx] at h2; exact h2
            · cases hx
      cases ra with
      | lst hL hn hc =>
        subst hn
        exact ⟨rfl, fun k hk => by simpa [Builtin.firstCells] using key _ (.inr ⟨_, _, rfl, (hL.cells hl').1⟩) k hk⟩
      | lst0 =>
        simp [flatA] at hl'
        exact ⟨rfl, fun k hk => by simpa [Builtin.firstCells] using key _ (.inl hl') k hk⟩
    · cases h
  · cases h


/-- Which of append's two forms: elements of a slice or a string, or a number of zeros. -/
inductive AppForm (P : Program) (ts : Array TypeId) (sz : Nat) (elem : TypeId) (x : Value) (n : Nat) (new : Array Value) (w wd : World) : Prop
  | plain (h1 : ts[1]? = none) (hl : (Builtin.lenOf x).run P w = .ok n w) (hf : (Builtin.firstCells sz n x).run P wd = .ok new wd)
  | typed (u : TypeId) (d : TypeDesc) (h1 : ts[1]? = some u) (hu : ∀ w, (underlying u).run P w = .ok d w) (hd : ∀ k, d ≠ .int k)
      (hl : (Builtin.lenOf x).run P w = .ok n w) (hf : (Builtin.firstCells sz n x).run P wd = .ok new wd)
  | zeros (u : TypeId) (k : IntKind) (h1 : ts[1]? = some u) (hu : ∀ w, (underlying u).run P w = .ok (.int k) w) (k' : IntKind) (l : Int) (hx : x = .int k' l) (h0 : 0 ≤ l) (hw : IntKind.i64.wrap l = l)
      (hn : n = l.toNat) (i : TypeInfo) (hi : ∀ w, (typeInfo elem).run P w = .ok i w) (hb : ¬ l * (i.bytes : Int) > 2 ^ 48) (z : Value) (hz : ∀ w, (zeroValue elem).run P w = .ok z w)
      (hnew : new = if n * sz = 0 then #[] else Builtin.zeroCells z.cells n)

/-- What append does behind its operands: there is room. -/
theorem run_append_room' {P : Program} {w w' : World} {ts : Array TypeId} {ty t elem : TypeId} {base : Option Addr} {m cap n : Nat} {x : Value} {sz : Nat} {new : Array Value}
    (ht0 : ts[0]? = some t) (ht : ∀ w, (underlying t).run P w = .ok (.slice elem) w) (hs : ∀ w, (sizeOf elem).run P w = .ok sz w)
    (hf : AppForm P ts sz elem x n new w w)
    (hle : m + n ≤ cap) (hst : match base with | none => w' = w | some a => (storeCells (a.add (m * sz)) new.toList).run P w = .ok () w') :
    (Builtin.append_ ts ty #[.slice base m cap, x]).run P w = .ok (.slice base (m + n) cap) w' := by
  unfold Builtin.append_
  simp only [ht0, List.getElem?_toArray, List.getElem?_cons_zero, List.getElem?_cons_succ, Sem.run_bind, ht, hs, Result.andThen_ok]
  cases hf with
  | plain h1 hl hf =>
    simp only [h1]
    cases base with
    | none => simp only at hst; subst hst; simp [hl, hf, hle]
    | some a => simp [hl, hf, hle, hst]
  | typed u d h1 hu hd hl hf =>
    simp only [h1, Sem.run_bind, hu, Result.andThen_ok, Sem.run_pure]
    cases base with
    | none => simp only at hst; subst hst; cases d <;> first | (exact (hd _ rfl).elim) | (simp only []; simp [hl, hf, hle])
    | some a => cases d <;> first | (exact (hd _ rfl).elim) | (simp only []; simp [hl, hf, hle, hst])
  | zeros u k h1 hu k' l hx h0 hw hn i hi hb z hz hnew =>
    subst hx
    have h0' : ¬ l < 0 := by omega
    simp only [h1, Sem.run_bind, hu, Result.andThen_ok, Sem.run_pure, if_true, asInt, asIntOf, hw, h0', if_false, hi, hb, ← hn]
    subst hnew
    by_cases hns : n * sz = 0
    · simp only [hns, if_true] at hst ⊢
      cases base with
      | none => simp only at hst; subst hst; simp [hle]
      | some a => simp [hle, hst]
    · simp only [hns, if_false] at hst ⊢
      cases base with
      | none => simp only at hst; subst hst; simp [hle, hz]
      | some a => simp [hle, hz, hst]

/-- What append does behind its operands: a new array is made. -/
theorem run_append_grow' {P : Program} {w : World} {ts : Array TypeId} {ty t elem : TypeId} {base : Option Addr} {m cap n : Nat} {x : Value} {new old : Array Value} {inf : TypeInfo} {z : Value}
    (ht0 : ts[0]? = some t) (ht : ∀ w, (underlying t).run P w = .ok (.slice elem) w) (hi : ∀ w, (typeInfo elem).run P w = .ok inf w) (hz : inf.zero = some z)
    (hf : AppForm P ts inf.size elem x n new w w.drew) (hold : (Builtin.firstCells inf.size m (.slice base m cap)).run P w.drew = .ok old w.drew)
    (hgt : cap < m + n) (h63 : m + n ≤ 140737488355328) (h48 : (m + n) * inf.bytes ≤ 140737488355328) :
    ∃ newCap, m + n ≤ newCap ∧ (Builtin.append_ ts ty #[.slice base m cap, x]).run P w =
      .ok (.slice (some ⟨w.heap.size, 0, none⟩) (m + n) newCap) (w.drew.alloc (.cells (old ++ new ++ Builtin.zeroCells z.cells (newCap - (m + n))) elem)) := by
  let q : Question := .appendCap (m + n) cap elem
  refine ⟨q.cut (w.tape w.drawn q), by simp [q, Question.cut], ?_⟩
  have hs : ∀ w, (sizeOf elem).run P w = .ok inf.size w := fun w => by simp [sizeOf, hi]
  have hzv : ∀ w, (zeroValue elem).run P w = .ok z w := fun w => by simp [zeroValue, hi, hz]
  have hn : ¬ (m + n ≤ cap) := by omega
  have hmax : ¬ (9223372036854775807 < ((m : Int) + (n : Int))) := by omega
  have hcap := nextslicecap_le hgt
  have hbig : ¬ (281474976710656 < Builtin.nextslicecap (m + n) cap * inf.bytes) := by
    have : Builtin.nextslicecap (m + n) cap * inf.bytes ≤ 2 * (m + n) * inf.bytes := Nat.mul_le_mul_right _ hcap
    rw [Nat.mul_assoc] at this; omega
  unfold Builtin.append_
  simp only [ht0, List.getElem?_toArray, List.getElem?_cons_zero, List.getElem?_cons_succ, Sem.run_bind, ht, hs, Result.andThen_ok]
  cases hf with
  | plain h1 hl hf =>
    simp only [h1]
    simp [hl, hf, hn, hmax, hbig, hi, hold, hzv, Question.forced, newRow, q]
  | typed u d h1 hu hd hl hf =>
    simp only [h1, Sem.run_bind, hu, Result.andThen_ok, Sem.run_pure]
    cases d <;> first | (exact (hd _ rfl).elim) | ((try simp only []); simp [hl, hf, hn, hmax, hbig, hi, hold, hzv, Question.forced, newRow, q])
  | zeros u k h1 hu k' l hx h0 hw hn' i hi' hb z' hz' hnew =>
    subst hx
    have h0' : ¬ l < 0 := by omega
    obtain rfl : z' = z := by have := hz' w; rw [hzv w] at this; cases this; rfl
    simp only [h1, Sem.run_bind, hu, Result.andThen_ok, Sem.run_pure, if_true, asInt, asIntOf, hw, h0', if_false, hi', hb, ← hn']
    subst hnew
    by_cases hns : n * inf.size = 0
    · simp [hns, hn, hmax, hbig, hi, hold, hzv, Question.forced, newRow, q]
    · simp [hns, hn, hmax, hbig, hi, hold, hzv, Question.forced, newRow, q]


theorem zeroCells_size (z : Array Value) (n : Nat) : (Builtin.zeroCells z n).size = n * z.size := by simp [Builtin.zeroCells]

theorem zeroCells_rel {elem : TypeId} {n : Nat} {zs : List AV} {z : Value} (h : zeros E elem n = some zs) (hz : E.zero elem = some z) : VRels w0 ρ zs (Builtin.zeroCells z.cells n).toList := by
  have hl : zs.length = n * z.cells.size := by
    unfold zeros at h; rw [hz] at h; simp only [Option.some.injEq] at h; subst h; simp [repl_length]
  exact zeros_rel h hz hl

/-- A block for what is appended, behind a draw. -/
theorem step_new (hI : Inv w0 ρ σ w) {cs : List AV} {c : Array Value} {t : TypeId} (hle : cs.length ≤ c.size) (hr : ∀ (i : Nat) (x : AV) (y : Value), cs[i]? = some x → c[i]? = some y → VRel w0 ρ x y) :
    Step w0 ρ σ w (upd ρ σ.next 0 ⟨w.heap.size, 0, cs.length, c.size, hle⟩) (newA σ cs) (w.drew.alloc (.cells c t)) := by
  have h1 := Step.drew hI
  have hno : ρ σ.next 0 = none := (hI.fresh σ.next (Nat.le_refl _)).2 0
  have h2 := Step.add hI.drew (.cells cs 0 0) (.cells c t) ⟨w.heap.size, 0, cs.length, c.size, hle⟩ rfl (fun _ _ _ e => by cases e; rfl)
    (orel_new (wd := w.drew) hno (fun off _ => by simp) hr)
  exact h1.trans hI h2

theorem step_kill_new (hI : Inv w0 ρ σ w) {o : Nat} {x : AObj} (ho : σ.get o = some x) {cs : List AV} {c : Array Value} {t : TypeId} (hle : cs.length ≤ c.size)
    (hr : ∀ (i : Nat) (x : AV) (y : Value), cs[i]? = some x → c[i]? = some y → VRel w0 ρ x y) :
    Step w0 ρ σ w (upd ρ σ.next 0 ⟨w.heap.size, 0, cs.length, c.size, hle⟩) (newA (σ.del o) cs) (w.drew.alloc (.cells c t)) := by
  have h1 := Step.drew hI
  have hno : ρ σ.next 0 = none := (hI.fresh σ.next (Nat.le_refl _)).2 0
  have h2 := Step.kill hI.drew (.cells cs 0 0) ⟨w.heap.size, 0, cs.length, c.size, hle⟩ ho (w' := w.drew.alloc (.cells c t)) (hI.drew.below.alloc hI.drew.below.size _) (by simp)
    ⟨by simp, .inl (by simp)⟩ (fun b hb _ => alloc_get w.drew _ hb) (fun _ _ _ e => by cases e; rfl) (orel_new (wd := w.drew) hno (fun off _ => by simp) hr)
  exact h1.trans hI h2

/-- Cells behind which new ones are laid. -/
theorem laid_rel {c : Array Value} {p : Nat} {cs new : List AV} {ys : List Value} (hv : VRels w0 ρ new ys) (b : Nat) (hp : p = b + cs.length) (hsz : p + ys.length ≤ c.size)
    (hc : ∀ i, i < cs.length → ∃ y, c[b + i]? = some y ∧ VRel w0 ρ (cs.getD i .top) y) :
    ∀ i, i < cs.length + ys.length → ∃ y, (laid c p 0 ys)[b + i]? = some y ∧ VRel w0 ρ ((cs ++ new).getD i .top) y := fun i hi => by
  have hlen := hv.length
  rw [laid_get _ _ _ _ (by simpa using hsz)]
  simp only [Nat.add_zero]
  by_cases h : i < cs.length
  · rw [if_neg (by omega)]
    obtain ⟨y, h1, h2⟩ := hc i h
    exact ⟨y, h1, by rw [List.getD_eq_getElem?_getD, List.getElem?_append_left h, ← List.getD_eq_getElem?_getD]; exact h2⟩
  · rw [if_pos (by omega)]
    have hx : new[i - cs.length]? = some (new[i - cs.length]'(by omega)) := List.getElem?_eq_getElem (by omega)
    obtain ⟨y, h1, h2⟩ := hv.get _ _ hx
    refine ⟨y, by rw [show b + i - p = i - cs.length by omega]; exact h1, ?_⟩
    rw [List.getD_eq_getElem?_getD, List.getElem?_append_right (by omega), hx]; exact h2

set_option maxHeartbeats 1000000 in
theorem append_sim (hE : EnvOk E w0) (hI : Inv w0 ρ σ w) {ts : Array TypeId} {ty : TypeId} {s x r : AV} {σ' : St} {a b : Value} (h : appendA E σ ts.toList s x = some (r, σ'))
    (ra : VRel w0 ρ s a) (rb : VRel w0 ρ x b) :
    ∃ y w' ρ', (Builtin.append_ ts ty #[a, b]).run E.P w = .ok y w' ∧ Step w0 ρ σ w ρ' σ' w' ∧ VRel w0 ρ' r y := by
  unfold appendA at h
  split at h
  · rename_i t rest hts
    have ht0 : ts[0]? = some t := by rw [← Array.getElem?_toList, hts]; rfl
    have ht1 : ts[1]? = rest[0]? := by rw [← Array.getElem?_toList, hts]; rfl
    split at h
    · rename_i elem ht
      split at h
      · rename_i inf hinf
        simp only at h
        split at h
        · rename_i n new z hmore hz
          split at h
          · rename_i hc
            simp only [Bool.and_eq_true, decide_eq_true_eq, beq_iff_eq, bne_iff_ne] at hc
            obtain ⟨⟨⟨⟨hc1, hc2⟩, hc3⟩, hc4⟩, hc5⟩ := hc
            have hsz : E.size elem = some inf.size := by simp [Env.size, hinf]
            have hzE : E.zero elem = some z := by simp [Env.zero, hinf, hz]
            -- what is appended
            obtain ⟨ys, hform, hnew⟩ : ∃ ys : Array Value, (∀ wd, (wd = w ∨ wd = w.drew) → AppForm E.P ts inf.size elem b n ys w wd) ∧ VRels w0 ρ new ys.toList := by
              split at hmore
              · rename_i hz0
                obtain ⟨hl, hf⟩ := elems_sim hI hmore rb hc1 E.P
                obtain ⟨ys, h1, h2⟩ := hf n (Nat.le_refl _)
                rw [List.take_of_length_le (by omega)] at h2
                refine ⟨ys, fun wd hwd => ?_, h2⟩
                unfold zerosA at hz0
                split at hz0
                · exact .plain (by rw [ht1]; rfl) hl (h1 wd hwd)
                · rename_i u rest'
                  split at hz0
                  · cases hz0
                  · rename_i d hd hu
                    exact .typed u d (by rw [ht1]; rfl) (run_und hE hu) (fun k e => hd k e) hl (h1 wd hwd)
                  · cases hz0
              · rename_i hz0
                split at hmore
                · rename_i k' l
                  split at hmore
                  · rename_i hl
                    simp only [Bool.and_eq_true, decide_eq_true_eq] at hl
                    simp only [Option.map_eq_some_iff, Prod.mk.injEq] at hmore
                    obtain ⟨zs, hzs, rfl, rfl⟩ := hmore
                    cases rb
                    unfold zerosA at hz0
                    split at hz0
                    · cases hz0
                    · rename_i u rest'
                      split at hz0
                      · rename_i k hu
                        refine ⟨if l.toNat * inf.size = 0 then #[] else Builtin.zeroCells z.cells l.toNat, fun wd _ => ?_, ?_⟩
                        · exact .zeros u k (by rw [ht1]; rfl) (run_und hE hu) k' l rfl hl.1 (wrap_small hl.1 (by omega)) rfl inf (run_inf hE hinf)
                            (by
                              obtain ⟨m, rfl⟩ := Int.eq_ofNat_of_zero_le hl.1
                              have h1 : m ≤ 1048576 := by omega
                              have h2 := Nat.mul_le_mul h1 hc4
                              have h3 : (m : Int) * (inf.bytes : Int) = ((m * inf.bytes : Nat) : Int) := by simp
                              rw [h3]
                              omega) z (run_zero hE hzE) rfl
                        · split
                          · rename_i h0
                            rw [h0] at hc1
                            have : zs = [] := by simpa using hc1
                            subst this; exact .nil
                          · exact zeroCells_rel hzs hzE
                      · cases hz0
                      · cases hz0
                  · cases hmore
                · cases hmore
              · cases hmore
            have hnl := hnew.length
            simp only [Array.length_toList] at hnl
            have hone := all_one hnew hc2
            -- the grown array
            have grow : ∀ (base : Option Addr) (m cap : Nat) (olds : List AV) (old : Array Value), a = .slice base m cap → cap < m + n → m + n ≤ maxElems → (m + n) * inf.bytes ≤ maxElems →
                (Builtin.firstCells inf.size m a).run E.P w.drew = .ok old w.drew → VRels w0 ρ olds old.toList → olds.length = m * inf.size →
                ∃ (newCap : Nat) (c : Array Value) (hle : (olds ++ new).length ≤ c.size), m + n ≤ newCap ∧ newCap * inf.size ≤ c.size ∧
                  (Builtin.append_ ts ty #[a, b]).run E.P w = .ok (.slice (some ⟨w.heap.size, 0, none⟩) (m + n) newCap) (w.drew.alloc (.cells c elem)) ∧
                  ∀ (i : Nat) (x : AV) (y : Value), (olds ++ new)[i]? = some x → c[i]? = some y → VRel w0 ρ x y := fun base m cap olds old ha hgt h63 h48 hold hro hlo => by
              subst ha
              obtain ⟨newCap, hnc, hrun⟩ := run_append_grow' (ty := ty) ht0 (run_und hE ht) (run_inf hE hinf) hz (hform w.drew (.inr rfl)) hold hgt h63 h48
              have hol := hro.length
              simp only [Array.length_toList] at hol
              have hcs : (old ++ ys ++ Builtin.zeroCells z.cells (newCap - (m + n))).size = newCap * inf.size := by
                simp only [Array.size_append, zeroCells_size, hc5, ← hol, ← hnl, hlo, hc1]
                rw [← Nat.add_mul, ← Nat.add_mul]; congr 1; omega
              refine ⟨newCap, _, ?_, hnc, Nat.le_of_eq hcs.symm, hrun, fun i x y hx hy => ?_⟩
              · rw [hcs]; simp only [List.length_append, hlo, hc1]; rw [← Nat.add_mul]; exact Nat.mul_le_mul_right _ hnc
              · have hi : i < (olds ++ new).length := (List.getElem?_eq_some_iff.1 hx).1
                simp only [List.length_append] at hi
                rw [Array.getElem?_append_left (by simp only [Array.size_append]; omega)] at hy
                have := hro.append hnew
                obtain ⟨y', hy', r'⟩ := this.get i x hx
                rw [← Array.toList_append, Array.getElem?_toList, hy] at hy'
                cases hy'; exact r'
            have hnil : ∀ (base : Option Addr), a = .slice base 0 0 → n ≤ maxElems → n * inf.bytes ≤ maxElems → n ≠ 0 →
                ∃ y w' ρ', (Builtin.append_ ts ty #[a, b]).run E.P w = .ok y w' ∧ Step w0 ρ σ w ρ' (newA σ new) w' ∧ VRel w0 ρ' (.sl σ.next 0 n 0 inf.size) y := fun base ha h1 h2 hn0 => by
              obtain ⟨newCap, c, hle, hnc, hcc, hrun, hr⟩ := grow base 0 0 [] #[] ha (by omega) (by simpa using h1) (by simpa using h2)
                (by subst ha; cases base <;> simp [Builtin.firstCells, loadCells, loadCellsFrom]) .nil (by simp)
              simp only [List.nil_append, Nat.zero_add] at hle hnc hrun hr
              refine ⟨_, _, _, hrun, step_new hI hle hr, ?_⟩
              have := VRel.sl (w0 := w0) (ρ := upd ρ σ.next 0 ⟨w.heap.size, 0, new.length, c.size, hle⟩) (o := σ.next) (i := 0) (n := n) (g := 0) (sz := inf.size) (cap := newCap) (upd_same _ _ _ _) (by simp; omega) hnc (by simp; omega)
              simpa using this
            split at h
            · rename_i hn0
              subst hn0
              have hy0 : ys = #[] := by
                have : new = [] := by simpa using hc1
                subst this
                cases hq : ys.toList with
                | nil => exact Array.ext' hq
                | cons y l => rw [hq] at hnew; cases hnew
              have room : ∀ (base : Option Addr) (m cap : Nat), a = .slice base m cap → m ≤ cap → some (s, σ) = some (r, σ') →
                  ∃ y w' ρ', (Builtin.append_ ts ty #[a, b]).run E.P w = .ok y w' ∧ Step w0 ρ σ w ρ' σ' w' ∧ VRel w0 ρ' r y := fun base m cap ha hle he => by
                cases he
                have hrun := run_append_room' (w' := w) (ty := ty) (base := base) ht0 (run_und hE ht) (run_size hE hsz) (hform w (.inl rfl)) (by simpa using hle) (by
                  cases base with
                  | none => rfl
                  | some p => subst hy0; rfl)
                rw [← ha] at hrun
                refine ⟨_, w, ρ, hrun, Step.refl hI, ?_⟩
                simp only [Nat.add_zero]; rw [← ha]; exact ra
              split at h
              · cases ra; exact room none 0 0 rfl (Nat.le_refl _) h
              · cases ra; exact room _ 0 0 rfl (Nat.le_refl _) h
              · cases ra with
                | sl hL h1 h2 h3 => exact room _ _ _ rfl h2 h
                | sl0 hL h1 => exact room _ _ _ rfl (Nat.le_refl _) h
              · cases ra with
                | lst hL h1 h2 => exact room _ _ _ rfl h2 h
                | lst0 => exact room _ _ _ rfl (Nat.zero_le _) h
              · cases h
            · rename_i hn0
              split at h
              · split at h
                · rename_i hb
                  simp only [Bool.and_eq_true, decide_eq_true_eq] at hb
                  cases h; cases ra
                  exact hnil none rfl hb.2 hb.1 hn0
                · cases h
              · split at h
                · rename_i hb
                  simp only [Bool.and_eq_true, decide_eq_true_eq] at hb
                  cases h; cases ra
                  exact hnil _ rfl hb.2 hb.1 hn0
                · cases h
              · rename_i o i m g sz'
                split at h
                · rename_i hb
                  simp only [Bool.and_eq_true, decide_eq_true_eq] at hb
                  obtain ⟨⟨hb0, hb1⟩, hb2⟩ := hb
                  subst hb0
                  split at h
                  · rename_i cs g' mm hg
                    split at h
                    · rename_i hd
                      simp only [Bool.and_eq_true, decide_eq_true_eq] at hd
                      obtain ⟨⟨hd1, hd2⟩, hd3⟩ := hd
                      have hO := hI.objs _ _ hg
                      -- the cells that the slice shows
                      have hshow : rdCells σ (.ptr o i g (m * inf.size)) (m * inf.size) = some ((cs.drop i).take (m * inf.size)) := by
                        simp [rdCells, hg, hd1, hd2, hd3]
                      have holds := (elems_sim hI (sz := inf.size) (n := m) (x := .sl o i m g inf.size) (cs := (cs.drop i).take (m * inf.size)) (by simp [elemsA, hshow]) ra (by simp; omega) E.P).2 m (Nat.le_refl _)
                      obtain ⟨old, ho1, ho2⟩ := holds
                      rw [List.take_of_length_le (by simp only [List.length_take]; omega)] at ho2
                      have hlo : ((cs.drop i).take (m * inf.size)).length = m * inf.size := by simp; omega
                      have hmn : m * inf.size + n * inf.size = (m + n) * inf.size := (Nat.add_mul ..).symm
                      -- growing: which address the slice has does not matter
                      have grown : ∀ (base : Option Addr) (cap : Nat), a = .slice base m cap → cap < m + n →
                          ∃ y w' ρ', (Builtin.append_ ts ty #[a, b]).run E.P w = .ok y w' ∧ Step w0 ρ σ w ρ' σ' w' ∧ VRel w0 ρ' r y := fun base cap ha hgt => by
                        obtain ⟨newCap, c, hle, hnc, hcc, hrun, hr⟩ := grow base m cap _ old ha hgt hb2 hb1 (ho1 _ (.inr rfl)) ho2 hlo
                        split at h
                        · rename_i htop
                          simp only [Bool.and_eq_true, decide_eq_true_eq] at htop
                          obtain ⟨⟨rfl, rfl⟩, htop⟩ := htop
                          cases h
                          rw [List.drop_zero, List.take_of_length_le (by omega)] at hle hr
                          have hnog : ρ o (g + 1) = none := hI.gen _ _ _ _ hg (g + 1) (by omega)
                          have he := upd_ext (L := ⟨w.heap.size, 0, (cs ++ new).length, c.size, hle⟩) hnog
                          refine ⟨_, _, upd ρ o (g + 1) ⟨w.heap.size, 0, (cs ++ new).length, c.size, hle⟩, hrun, ?_, ?_⟩
                          · refine (Step.drew hI).trans hI (Step.chg hI.drew _ hg he (hI.drew.below.alloc hI.drew.below.size _) (by simp) (fun o' k hne => upd_ne (fun e => hne e.1)) ?_ ?_ ?_ ?_)
                            · intro k L e
                              rcases upd_cases e with ⟨_, rfl, rfl⟩ | e'
                              · exact ⟨by simp, .inr (.inl (by simp))⟩
                              · exact ⟨by have := hI.bnd _ _ _ e'; simp; omega, .inl e'⟩
                            · intro p hp _; exact alloc_get w.drew _ hp
                            · intro cs' g' m' e k hk
                              cases e
                              rw [upd_ne (by omega)]; exact hI.gen _ _ _ _ hg k (by omega)
                            · refine ⟨by omega, fun k h1 h2 => ?_, fun k L L' h1 h2 e e' hbl => ?_⟩
                              · by_cases hk : k = g + 1
                                · subst hk
                                  refine ⟨_, upd_same _ _ _ _, Nat.le_refl _, fun _ => rfl, c, elem, (0, 0), alloc_new _ _, by simp, hle, fun off _ => by simp, fun j hj => ?_⟩
                                  have hj' : j < (cs ++ new).length := hj
                                  have hjc : j < c.size := by omega
                                  refine ⟨c[j], by simp [hjc], ?_⟩
                                  rw [List.getD_eq_getElem?_getD, List.getElem?_eq_getElem hj']
                                  exact (hr j _ _ (List.getElem?_eq_getElem hj') (Array.getElem?_eq_getElem hjc)).mono he
                                · obtain ⟨L, e1, e2, e3, e4⟩ := hO.2.1 k h1 (by omega)
                                  refine ⟨L, he _ _ _ e1, by simp; omega, fun e => absurd e hk, ?_⟩
                                  have hbn := hI.bnd _ _ _ e1
                                  obtain ⟨c', t', fz, q1, q2, q3, q4, q5⟩ := e4.keep (w' := w.drew.alloc (.cells c elem)) he (alloc_get w.drew _ hbn)
                                  refine ⟨c', t', fz, q1, q2, q3, q4, fun j hj => ?_⟩
                                  obtain ⟨y, y1, y2⟩ := q5 j hj
                                  exact ⟨y, y1, by rw [List.getD_eq_getElem?_getD, List.getElem?_append_left (by omega), ← List.getD_eq_getElem?_getD]; exact y2⟩
                              · by_cases hk : k = g + 1
                                · subst hk; rw [e] at e'; cases e'; rfl
                                · rw [upd_same] at e'; cases e'
                                  rw [upd_ne (by omega)] at e
                                  have := hI.bnd _ _ _ e
                                  simp only at hbl; omega
                          · have := VRel.sl (w0 := w0) (ρ := upd ρ o (g + 1) ⟨w.heap.size, 0, (cs ++ new).length, c.size, hle⟩) (o := o) (i := 0) (n := m + n) (g := g + 1) (sz := inf.size) (cap := newCap) (upd_same _ _ _ _) (by simp; omega) hnc (by simp; omega)
                            simpa using this
                        · split at h
                          · rename_i hm0
                            subst hm0
                            cases h
                            simp only [Nat.zero_mul, List.take_zero, List.nil_append, Nat.zero_add] at hle hr hrun hnc
                            refine ⟨_, _, _, hrun, step_kill_new hI hg hle hr, ?_⟩
                            have := VRel.sl (w0 := w0) (ρ := upd ρ σ.next 0 ⟨w.heap.size, 0, new.length, c.size, hle⟩) (o := σ.next) (i := 0) (n := n) (g := 0) (sz := inf.size) (cap := newCap) (upd_same _ _ _ _) (by simp; omega) hnc (by simp; omega)
                            simpa using this
                          · cases h
                            refine ⟨_, _, _, hrun, step_kill_new hI hg hle hr, ?_⟩
                            have := VRel.sl (w0 := w0) (ρ := upd ρ σ.next 0 ⟨w.heap.size, 0, _, c.size, hle⟩) (o := σ.next) (i := 0) (n := m + n) (g := 0) (sz := inf.size) (cap := newCap) (upd_same _ _ _ _)
                              (by simp only [List.length_append, hlo, hc1]; omega) hnc (by simp; omega)
                            simpa using this
                      cases ra with
                      | sl0 hL h1 => exact grown _ _ rfl (by omega)
                      | sl hL h1 h2 h3 =>
                        rename_i cap L
                        by_cases hroom : m + n ≤ cap
                        · -- in place
                          obtain ⟨L', e1, e2, e3, c, t', fz, q1, q2, q3, q4, q5⟩ := hO.2.1 g hd1 hd2
                          rw [hL] at e1; cases e1
                          have hcapsz : (m + n) * inf.size ≤ cap * inf.size := Nat.mul_le_mul_right _ hroom
                          have hplace : L.base + i + m * inf.size + ys.toList.length ≤ c.size := by simp; omega
                          have hst := run_storeCells_laid (off := L.base + i + m * inf.size) E.P ys.toList 0 c w q1 (by simpa using hplace) q4 hone
                          have hbn := hI.bnd _ _ _ hL
                          have hrun := run_append_room' (ty := ty) (base := some ⟨L.blk, L.base + i, none⟩) ht0 (run_und hE ht) (run_size hE hsz) (hform w (.inl rfl)) hroom (by
                            simp only [add_none]; exact hst)
                          have hsee : ∀ j, j < m * inf.size → ∃ y, c[L.base + i + j]? = some y ∧ VRel w0 ρ (((cs.drop i).take (m * inf.size)).getD j .top) y := fun j hj => by
                            obtain ⟨y, y1, y2⟩ := q5 (i + j) (by omega)
                            refine ⟨y, by rw [show L.base + i + j = L.base + (i + j) by omega]; exact y1, ?_⟩
                            rw [List.getD_eq_getElem?_getD, List.getElem?_take, if_pos hj, List.getElem?_drop, ← List.getD_eq_getElem?_getD]; exact y2
                          have hrel := laid_rel (b := L.base + i) hnew (p := L.base + i + m * inf.size) (cs := (cs.drop i).take (m * inf.size)) (by rw [hlo]) hplace (by rw [hlo]; exact hsee)
                          rw [hlo] at hrel
                          split at h
                          · rename_i htop
                            simp only [Bool.and_eq_true, decide_eq_true_eq] at htop
                            obtain ⟨⟨rfl, rfl⟩, htop⟩ := htop
                            cases h
                            have e3 := e3 rfl
                            rw [List.drop_zero, List.take_of_length_le (by omega)] at hrel
                            have hnog : ρ o (g + 1) = none := hI.gen _ _ _ _ hg (g + 1) (by omega)
                            have hle : (cs ++ new).length ≤ L.lim := by simp; omega
                            have he := upd_ext (L := ⟨L.blk, L.base, (cs ++ new).length, L.lim, hle⟩) hnog
                            refine ⟨_, _, upd ρ o (g + 1) ⟨L.blk, L.base, (cs ++ new).length, L.lim, hle⟩, hrun, ?_, ?_⟩
                            · refine Step.chg hI _ hg he (Below.putB hI.below (hI.own _ _ _ hL)) (by simp) (fun o' k hne => upd_ne (fun e => hne e.1)) ?_ ?_ ?_ ?_
                              · intro k L' e
                                rcases upd_cases e with ⟨_, rfl, rfl⟩ | e'
                                · exact ⟨by simpa using hbn, .inr (.inr ⟨g, L, hL, rfl⟩)⟩
                                · exact ⟨by simpa using hI.bnd _ _ _ e', .inl e'⟩
                              · intro p hp hne; exact putObj_get_ne (fun e => hne g L hL e.symm)
                              · intro cs' g' m' e k hk
                                cases e
                                rw [upd_ne (by omega)]; exact hI.gen _ _ _ _ hg k (by omega)
                              · refine ⟨by omega, fun k k1 k2 => ?_, fun k L₁ L₂ k1 k2 e e' hbl => ?_⟩
                                · by_cases hk : k = g + 1
                                  · subst hk
                                    refine ⟨_, upd_same _ _ _ _, Nat.le_refl _, fun _ => rfl, _, t', fz, putObj_get_same hbn, by rw [laid_size]; exact q2, hle, by rw [laid_size]; exact q4, fun j hj => ?_⟩
                                    obtain ⟨y, y1, y2⟩ := hrel j (by simp at hj; simp; omega)
                                    exact ⟨y, by simpa using y1, y2.mono he⟩
                                  · obtain ⟨L₁, p1, p2, p3, c', t'', fz', r1, r2, r3, r4, r5⟩ := hO.2.1 k k1 (by omega)
                                    refine ⟨L₁, he _ _ _ p1, by simp; omega, fun e => absurd e hk, ?_⟩
                                    by_cases hsame : L₁.blk = L.blk
                                    · have hbase := hO.2.2 k L₁ L k1 (by omega) p1 hL hsame
                                      rw [hsame, q1] at r1; cases r1
                                      refine ⟨_, t', fz, by rw [hsame]; exact putObj_get_same hbn, by rw [laid_size]; exact r2, r3, by rw [laid_size]; exact q4, fun j hj => ?_⟩
                                      obtain ⟨y, y1, y2⟩ := r5 j hj
                                      refine ⟨y, ?_, ?_⟩
                                      · rw [laid_get _ _ _ _ (by simpa using hplace), if_neg (by omega)]; exact y1
                                      · rw [List.getD_eq_getElem?_getD, List.getElem?_append_left (by omega), ← List.getD_eq_getElem?_getD]; exact y2.mono he
                                    · refine ⟨c', t'', fz', (putObj_get_ne hsame).trans r1, r2, r3, r4, fun j hj => ?_⟩
                                      obtain ⟨y, y1, y2⟩ := r5 j hj
                                      exact ⟨y, y1, by rw [List.getD_eq_getElem?_getD, List.getElem?_append_left (by omega), ← List.getD_eq_getElem?_getD]; exact y2.mono he⟩
                                · rw [upd_same] at e'; cases e'
                                  by_cases hk : k = g + 1
                                  · subst hk; rw [upd_same] at e; cases e; rfl
                                  · rw [upd_ne (by omega)] at e
                                    exact hO.2.2 k L₁ L k1 (by omega) e hL hbl
                            · have hlast : 0 + (m + n) * inf.size ≤ (cs ++ new).length := by simp only [List.length_append]; omega
                              exact VRel.sl (w0 := w0) (ρ := upd ρ o (g + 1) ⟨L.blk, L.base, (cs ++ new).length, L.lim, hle⟩) (o := o) (i := 0) (n := m + n) (g := g + 1) (sz := inf.size) (cap := cap) (L := ⟨L.blk, L.base, (cs ++ new).length, L.lim, hle⟩) (upd_same _ _ _ _) hlast hroom h3
                          · -- another object takes the block
                            have kill : ∀ (cells : List AV), cells = (cs.drop i).take (m * inf.size) ++ new →
                                ∃ ρ', Step w0 ρ σ w ρ' (newA (σ.del o) cells) (w.putObj L.blk (.cells (laid c (L.base + i + m * inf.size) 0 ys.toList) t' fz)) ∧
                                  VRel w0 ρ' (.sl σ.next 0 (m + n) 0 inf.size) (.slice (some ⟨L.blk, L.base + i, none⟩) (m + n) cap) := fun cells hcells => by
                              have hlen : cells.length = (m + n) * inf.size := by subst hcells; simp only [List.length_append, hlo, hc1]; omega
                              have hle : cells.length ≤ L.lim - i := by omega
                              have hno : ρ σ.next 0 = none := (hI.fresh σ.next (Nat.le_refl _)).2 0
                              have he := upd_ext (L := ⟨L.blk, L.base + i, cells.length, L.lim - i, hle⟩) hno
                              refine ⟨upd ρ σ.next 0 ⟨L.blk, L.base + i, cells.length, L.lim - i, hle⟩, ?_, ?_⟩
                              · refine Step.kill hI (.cells cells 0 0) ⟨L.blk, L.base + i, cells.length, L.lim - i, hle⟩ hg (Below.putB hI.below (hI.own _ _ _ hL)) (by simp) ⟨by simpa using hbn, .inr ⟨g, L, hL, rfl⟩⟩
                                  (fun p hp hne => putObj_get_ne (fun e => hne g L hL e.symm)) (fun _ _ _ e => by cases e; rfl) ?_
                                refine ⟨Nat.le_refl _, fun k k1 k2 => ?_, fun k L₁ L₂ k1 k2 e e' _ => ?_⟩
                                · obtain rfl : k = 0 := by omega
                                  refine ⟨_, upd_same _ _ _ _, Nat.le_refl _, fun _ => rfl, _, t', fz, putObj_get_same hbn, by rw [laid_size]; simp; omega, hle, by rw [laid_size]; exact q4, fun j hj => ?_⟩
                                  obtain ⟨y, y1, y2⟩ := hrel j (by simp at hj; simp; omega)
                                  subst hcells
                                  exact ⟨y, y1, y2.mono he⟩
                                · obtain rfl : k = 0 := by omega
                                  rw [e] at e'; cases e'; rfl
                              · have := VRel.sl (w0 := w0) (ρ := upd ρ σ.next 0 ⟨L.blk, L.base + i, cells.length, L.lim - i, hle⟩) (o := σ.next) (i := 0) (n := m + n) (g := 0) (sz := inf.size) (cap := cap) (upd_same _ _ _ _) (by simp; omega) hroom (by simp; omega)
                                simpa using this
                            split at h
                            · rename_i hm0
                              subst hm0
                              cases h
                              obtain ⟨ρ', k1, k2⟩ := kill new (by simp)
                              exact ⟨_, _, ρ', hrun, k1, by simpa using k2⟩
                            · cases h
                              obtain ⟨ρ', k1, k2⟩ := kill _ rfl
                              exact ⟨_, _, ρ', hrun, k1, k2⟩
                        · exact grown _ _ rfl (by omega)
                    · cases h
                  · cases h
                · cases h
              · cases h
          · cases h
        · cases h
      · cases h
    · cases h
  · cases h

end
end Go.Ai
