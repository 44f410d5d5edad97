/- The abstract interpreter: operations that make one object. Conditions: the environment tells the truth of the program. -/
import Derived.Test.YtfmbpdacdopkgaaGreatDoorAiOps
namespace Go.Ai
open Go.RowKit (Below)

section
variable {E : Env} {w0 : World} {ρ : Asg} {σ : St} {w : World}

theorem repl_length (n : Nat) (z : List AV) : (repl n z).length = n * z.length := by
  induction n with
  | zero => simp [repl]
  | succ n ih => simp [repl, ih, Nat.succ_mul]; omega
theorem repl_get (z : List AV) : ∀ (n j : Nat), j < n * z.length → (repl n z)[j]? = z[j % z.length]?
  | 0, j, h => by simp at h
  | n + 1, j, h => by
    simp only [repl]
    by_cases hj : j < z.length
    · rw [List.getElem?_append_left hj, Nat.mod_eq_of_lt hj]
    · rw [List.getElem?_append_right (by omega), repl_get z n (j - z.length) (by rw [Nat.succ_mul] at h; omega)]
      congr 1
      rw [Nat.mod_eq_sub_mod (a := j) (by omega)]

/-- The model's zero cells are those. -/
theorem zeros_rel {elem : TypeId} {n : Nat} {zs : List AV} {z : Value} (h : zeros E elem n = some zs) (hz : E.zero elem = some z) {k : Nat} (hk : zs.length = n * k) :
    VRels w0 ρ zs ((Array.range (n * k)).map fun i => z.cells[i % z.cells.size]!).toList := by
  unfold zeros at h
  rw [hz] at h
  simp only [Option.some.injEq] at h
  subst h
  rw [repl_length] at hk
  simp only [List.length_map, Array.length_toList] at hk
  refine VRels.of_get (by simp [repl_length, hk]) fun i x y hx hy => ?_
  have hi : i < n * k := by
    have := (List.getElem?_eq_some_iff.1 hy).1; simpa using this
  have hpos : 0 < z.cells.size := by
    rcases Nat.eq_zero_or_pos z.cells.size with h0 | h0
    · rw [h0, Nat.mul_zero] at hk; omega
    · exact h0
  rw [repl_get _ _ _ (by simp; omega)] at hx
  simp only [List.length_map, Array.length_toList] at hx
  have hm := Nat.mod_lt i hpos
  simp only [List.getElem?_map, Array.getElem?_toList] at hx
  rw [Array.getElem?_eq_getElem hm] at hx
  simp at hx
  simp [hi] at hy
  subst hx hy
  rw [getElem!_pos z.cells (i % z.cells.size) hm]
  exact .v _

/-- Cells in a new block. -/
theorem orel_new {id : Nat} {cs : List AV} {c : Array Value} {t : TypeId} {fz : Nat × Nat} {wd : World} {hle : cs.length ≤ c.size} (hno : ρ id 0 = none)
    (hfz : ∀ off, off < c.size → ¬ (fz.1 ≤ off ∧ off < fz.2)) (hr : ∀ (i : Nat) (x : AV) (y : Value), cs[i]? = some x → c[i]? = some y → VRel w0 ρ x y) :
    ORel w0 (upd ρ id 0 ⟨wd.heap.size, 0, cs.length, c.size, hle⟩) (wd.alloc (.cells c t fz)) id (.cells cs 0 0) := by
  refine ⟨Nat.le_refl _, fun k h1 h2 => ?_, fun k L L' h1 h2 e e' _ => ?_⟩
  rotate_left
  · obtain rfl : k = 0 := by omega
    rw [e] at e'; cases e'; rfl
  obtain rfl : k = 0 := by omega
  refine ⟨_, upd_same _ _ _ _, Nat.le_refl _, fun _ => rfl, c, t, fz, alloc_new _ _, by simp, hle, hfz, fun i hi => ?_⟩
  have hi' : i < cs.length := hi
  have hc : i < c.size := by omega
  refine ⟨c[i], by simp [hc], ?_⟩
  rw [List.getD_eq_getElem?_getD, List.getElem?_eq_getElem hi']
  exact (hr i _ _ (List.getElem?_eq_getElem hi') (Array.getElem?_eq_getElem hc)).mono (upd_ext hno)

theorem freeze_alloc (w : World) (c : Array Value) (t : TypeId) (n : Nat) : (w.alloc (.cells c t)).freeze ⟨w.heap.size, n, none⟩ 1 = w.alloc (.cells c t (n, n + 1)) := by
  simp only [World.freeze, World.alloc, Nat.one_ne_zero, if_false]
  congr 1
  apply Array.ext'
  simp only [Array.toList_modify, Array.toList_push, ← Array.length_toList]
  generalize w.heap.toList = l
  induction l with
  | nil => simp
  | cons x l ih => simpa using ih

/-- What is told of an operation that makes one object. -/
def AllocOk (w0 : World) (ρ : Asg) (P : Program) (c : Act) (o : Oper) (w : World) (x : AObj) (f : Nat → AV) : Prop :=
  ∃ (y : Value) (obj : Obj) (wd : World) (L : Loc), (wd = w ∨ wd = w.drew) ∧ (execOp c.eval o).run P w = .ok (.value y) (wd.alloc obj) ∧ L.blk = w.heap.size ∧
    (∀ cs g m, x = .cells cs g m → g = 0) ∧ ∀ id, ρ id 0 = none → ORel w0 (upd ρ id 0 L) (wd.alloc obj) id x ∧ VRel w0 (upd ρ id 0 L) (f id) y

theorem wrap_small {n : Int} (h0 : 0 ≤ n) (h1 : n ≤ 1099511627776) : IntKind.i64.wrap n = n := by
  unfold IntKind.wrap IntKind.signed IntKind.bits
  simp
  omega

theorem allocA_sim (hE : EnvOk E w0) {a : AFr} {c : Act} (hF : FRel w0 ρ a c.tmps) {o : Oper} {x : AObj} {f : Nat → AV} (h : allocA E a o = some (x, f)) (w : World) :
    AllocOk w0 ρ E.P c o w x f := by
  have R := opd_rel hE hF
  unfold allocA at h
  split at h
  · rename_i t ho
    split at h
    · rename_i z hz
      cases h
      refine ⟨.pointer (some ⟨w.heap.size, 0, none⟩), .cells z.cells t, w, ⟨w.heap.size, 0, z.cells.toList.length, z.cells.size, by simp⟩, .inl rfl, ?_, rfl, fun _ _ _ e => by cases e; rfl, fun id hno => ⟨?_, ?_⟩⟩
      · simp only [execOp, ho]; refine exec_value ?_; simp [Instr.alloc, run_zero hE hz, newVar, newRow]
      · have := orel_new (w0 := w0) (wd := w) (t := t) (cs := z.cells.toList.map .v) (c := z.cells) (fz := (0, 0)) (hle := by simp) hno (fun off _ => by simp) (fun i x y hx hy => by
          simp at hx; rw [hy] at hx; simp at hx; subst hx; exact .v _)
        simpa using this
      · exact .ptr (upd_same _ _ _ _) (by simp)
    · cases h
  · rename_i t p ho
    split at h
    · rename_i cs hcs
      cases h
      have hr := (R p).cells hcs
      have hl := hr.length
      simp only [Array.length_toList] at hl
      refine ⟨.pointer (some ⟨w.heap.size, 0, none⟩), .cells (c.eval p).cells t, w, ⟨w.heap.size, 0, cs.length, (c.eval p).cells.size, by omega⟩, .inl rfl, ?_, rfl, fun _ _ _ e => by cases e; rfl, fun id hno => ⟨?_, ?_⟩⟩
      · simp only [execOp, ho]; refine exec_value ?_; simp [Instr.box, newVar, newRow]
      · exact orel_new hno (fun off _ => by simp) (fun i x y hx hy => by
          obtain ⟨z, hz, r⟩ := hr.get i x hx
          rw [Array.getElem?_toList, hy] at hz; cases hz; exact r)
      · exact .ptr (upd_same _ _ _ _) (by simp)
    · cases h
  · rename_i t len parts ho
    split at h
    · rename_i elem ht
      split at h
      · rename_i n zs hn hzs
        split at h
        · rename_i hc
          simp only [Bool.and_eq_true, decide_eq_true_eq, beq_iff_eq, bne_iff_ne] at hc
          obtain ⟨⟨hc1, hc2⟩, hc3⟩ := hc
          split at h
          · rename_i cs hcs
            cases h
            obtain ⟨z, hz⟩ : ∃ z, E.zero elem = some z := by
              unfold zeros at hzs; cases hz : E.zero elem with
              | none => simp [hz] at hzs
              | some z => exact ⟨z, rfl⟩
            obtain ⟨_, e2⟩ := parts_rel hE hF parts.toList
            obtain ⟨Z, hZ, hzr⟩ : ∃ Z : Array Value, Z = (if len * n = 0 then #[] else z.cells) ∧ VRels w0 ρ zs ((Array.range (len * n)).map fun i => Z[i % Z.size]!).toList := by
              by_cases h0 : len * n = 0
              · refine ⟨_, rfl, ?_⟩
                rw [h0] at hc2; have : zs = [] := by simpa using hc2
                subst this; rw [h0]; simpa using VRels.nil
              · exact ⟨z.cells, by rw [if_neg h0], zeros_rel hzs hz hc2⟩
            obtain ⟨r', e, hr'⟩ := fill_sim (place' := fun i => some (i * n, n)) (parts' := (parts.map fun p => (p.1, c.eval p.2)).toList) (fun i p hp => hp) hcs (by simp) (by simpa using e2) hzr
            have hlen : cs.length = r'.size := by have := hr'.length; simpa using this
            have hcl : cs.length = len * n := by
              rw [← hc2]
              clear hzr hr' e hlen e2
              generalize (parts.toList.map fun p : Nat × Operand => (p.1, opd E a p.2)) = l at hcs
              have key : ∀ (l : List (Nat × AV)) (zs cs : List AV), fillA (fun i => some (i * n, n)) zs l = some cs → cs.length = zs.length := by
                intro l
                induction l with
                | nil => intro zs cs h; simp [fillA] at h; subst h; rfl
                | cons p l ih =>
                  intro zs cs h
                  simp only [fillA] at h
                  split at h
                  · rename_i off size cs' hp hx
                    split at h
                    · rename_i hle
                      simp only [Bool.and_eq_true, decide_eq_true_eq] at hle
                      rw [ih _ _ h, splice_length _ _ _ (by omega)]
                    · cases h
                  · cases h
              exact key _ _ _ hcs
            refine ⟨.slice (some ⟨w.heap.size, 0, none⟩) len len, .cells r' elem, w, ⟨w.heap.size, 0, cs.length, r'.size, by omega⟩, .inl rfl, ?_, rfl, fun _ _ _ e => by cases e; rfl, fun id hno => ⟨?_, ?_⟩⟩
            · simp only [execOp, ho]; refine exec_value ?_
              have hbig : ¬ len * n > 2 ^ 24 := by omega
              by_cases h0 : len * n = 0
              · rw [if_pos h0] at hZ
                subst hZ
                rw [h0] at e
                simp only [Instr.buildSlice, Sem.run_bind, run_und hE ht, run_size hE hn, Result.andThen_ok, h0, if_true]
                rw [if_neg (by decide)]
                simp only [Sem.run_bind, Sem.run_pure, Result.andThen_ok]
                rw [e]
                simp [newRow]
              · rw [if_neg h0] at hZ
                subst hZ
                simp only [Instr.buildSlice, Sem.run_bind, run_und hE ht, run_size hE hn, Result.andThen_ok, hbig, if_false, h0, run_zero hE hz, Sem.run_pure]
                rw [e]
                simp [newRow]
            · exact orel_new hno (fun off _ => by simp) (fun i x y hx hy => by
                obtain ⟨z, hz, r⟩ := hr'.get i x hx
                rw [Array.getElem?_toList, hy] at hz; cases hz; exact r)
            · have := VRel.sl (w0 := w0) (ρ := upd ρ id 0 ⟨w.heap.size, 0, cs.length, r'.size, by omega⟩) (o := id) (i := 0) (n := len) (g := 0) (sz := n) (cap := len) (upd_same _ _ _ _) (by simp; omega) (Nat.le_refl _) (by simp; omega)
              simpa using this
          · cases h
        · cases h
      · cases h
    · cases h
  · rename_i t ho
    cases h
    refine ⟨.map (some w.heap.size), .map #[] 0, w, ⟨w.heap.size, 0, 0, 0, Nat.le_refl _⟩, .inl rfl, ?_, rfl, fun _ _ _ e => (by cases e), fun id hno => ⟨?_, ?_⟩⟩
    · simp only [execOp, ho]; refine exec_value ?_; simp [Instr.makeMap]
    · exact ⟨_, #[], upd_same _ _ _ _, alloc_new _ _, .nil⟩
    · exact .mp (upd_same _ _ _ _)
  · rename_i t lo co ho
    split at h
    · rename_i elem k1 l k2 cc ht hl hc
      have r1 := R lo
      have r2 := R co
      rw [hl] at r1; rw [hc] at r2
      generalize hq1 : c.eval lo = c1 at r1
      generalize hq2 : c.eval co = c2 at r2
      cases r1; cases r2
      split at h
      · rename_i i hi
        split at h
        · rename_i zs hzs
          split at h
          · rename_i hcond
            simp only [Bool.and_eq_true, decide_eq_true_eq, beq_iff_eq] at hcond
            obtain ⟨⟨⟨⟨⟨g1, g2⟩, g3⟩, g4⟩, g5⟩, g6⟩ := hcond
            subst g2
            cases h
            obtain ⟨z, hz⟩ : ∃ z, E.zero elem = some z := by
              unfold zeros at hzs; cases hz : E.zero elem with
              | none => simp [hz] at hzs
              | some z => exact ⟨z, rfl⟩
            obtain ⟨n, rfl⟩ := Int.eq_ofNat_of_zero_le g1
            have hw := wrap_small g1 g3
            simp only [Int.toNat_natCast] at g6 hzs ⊢
            have hn : E.size elem = some i.size := by simp [Env.size, hi]
            obtain ⟨Z, hZ, hzr⟩ : ∃ Z : Array Value, Z = (if n * i.size = 0 then #[] else z.cells) ∧ VRels w0 ρ zs ((Array.range (n * i.size)).map fun j => Z[j % Z.size]!).toList := by
              by_cases h0 : n * i.size = 0
              · refine ⟨_, rfl, ?_⟩
                rw [h0] at g6; have : zs = [] := by simpa using g6
                subst this; rw [h0]; simpa using VRels.nil
              · exact ⟨z.cells, by rw [if_neg h0], zeros_rel hzs hz g6⟩
            generalize hC : (Array.range (n * i.size)).map (fun j => Z[j % Z.size]!) = C at hzr
            have hsz : C.size = n * i.size := by subst hC; simp
            refine ⟨.slice (some ⟨w.heap.size, 0, none⟩) n n, .cells C elem, w, ⟨w.heap.size, 0, zs.length, C.size, by omega⟩, .inl rfl, ?_, rfl, fun _ _ _ e => by cases e; rfl, fun id hno => ⟨?_, ?_⟩⟩
            · simp only [execOp, ho, hq1, hq2]; refine exec_value ?_
              have hb : ¬ (i.bytes : Int) * (n : Int) > 2 ^ 48 := by rw [Int.mul_comm]; omega
              have hneg : ¬ ((n : Int) < 0) := by omega
              simp only [Instr.makeSlice, Sem.run_bind, run_und hE ht, Result.andThen_ok, asInt, asIntOf, Sem.run_pure, run_inf hE hi, hw]
              simp only [hb, hneg, decide_false, Bool.or_false, Bool.false_eq_true, if_false, gt_iff_lt, Int.lt_irrefl, Sem.run_bind, run_askRoom, Result.andThen_ok, run_size hE hn, Int.toNat_natCast]
              by_cases h0 : n * i.size = 0
              · rw [if_pos h0] at hZ
                subst hZ
                rw [if_pos h0]
                simp only [Sem.run_bind, Sem.run_pure, Result.andThen_ok]
                rw [hC]
                simp [newRow]
              · rw [if_neg h0] at hZ
                subst hZ
                rw [if_neg h0]
                simp only [Sem.run_bind, Sem.run_pure, Result.andThen_ok, run_zero hE hz]
                rw [hC]
                simp [newRow]
            · exact orel_new hno (fun off _ => by simp) (fun i x y hx hy => by
                obtain ⟨z, hz, r⟩ := hzr.get i x hx
                rw [Array.getElem?_toList, hy] at hz; cases hz; exact r)
            · have := VRel.sl (w0 := w0) (ρ := upd ρ id 0 ⟨w.heap.size, 0, zs.length, C.size, by omega⟩) (o := id) (i := 0) (n := n) (g := 0) (sz := i.size) (cap := n) (upd_same _ _ _ _) (by simp; omega) (Nat.le_refl _) (by simp; omega)
              simpa using this
          · cases h
        · cases h
      · cases h
    · cases h
  · rename_i src dst p ho
    split at h
    · rename_i e s hs hd hp
      have r1 := R p
      rw [hp] at r1
      generalize hq1 : c.eval p = c1 at r1
      cases r1
      split at h
      · rename_i he
        cases h
        let q : Question := .appendCap s.size 0 e
        let cp : Nat := q.cut (w.tape w.drawn q)
        have hcp : s.size ≤ cp := by simp [cp, q, Question.cut]
        let cells : Array Value := s.data.map (fun b => Value.int .u8 b.toNat) ++ Array.replicate (cp - s.size) (.int .u8 0)
        have hcs : cells.size = cp := by simp [cells]; omega
        have hlen : (s.data.toList.map fun b => AV.v (.int .u8 b.toNat)).length = s.size := by simp
        refine ⟨.slice (some ⟨w.heap.size, 0, none⟩) s.size cp, .cells cells e (cells.size, cells.size + 1), w.drew, ⟨w.heap.size, 0, (s.data.toList.map fun b => AV.v (.int .u8 b.toNat)).length, cells.size, by omega⟩, .inr rfl, ?_, rfl, fun _ _ _ e => by cases e; rfl, fun id hno => ⟨?_, ?_⟩⟩
        · simp only [execOp, ho, hq1]; refine exec_value ?_
          rw [← freeze_alloc]
          have hsh : ∀ (wd : World) (c : Array Value) (t : TypeId), (wd.alloc (.cells c t)).shape? wd.heap.size = some (t, c.size) := fun wd c t => by
            simp only [World.shape?, alloc_new]
          simp only [convert, Sem.run_bind, run_und hE hs, run_und hE hd, run_und hE he, Result.andThen_ok, Conv.stringToBytes, run_choose_drew, Question.forced, Bool.false_eq_true, if_false, newRow, run_newObj_alloc, Sem.run_pure, markStringish, run_shape]
          rw [hsh]
          simp only [run_freeze, Result.andThen_ok]
          rfl
        · refine orel_new (wd := w.drew) hno (fun off hoff => by simp at hoff ⊢; omega) (fun i x y hx hy => ?_)
          have hi : i < s.data.size := by
            have := (List.getElem?_eq_some_iff.1 hx).1; simpa using this
          rw [List.getElem?_map, Array.getElem?_toList, Array.getElem?_eq_getElem hi] at hx
          simp at hx
          have : cells[i]? = some (.int .u8 s.data[i].toNat) := by
            simp only [cells]; rw [Array.getElem?_append_left (by simpa using hi), Array.getElem?_map, Array.getElem?_eq_getElem hi]; rfl
          rw [this] at hy; cases hy
          subst hx; exact .v _
        · have := VRel.sl (w0 := w0) (ρ := upd ρ id 0 ⟨w.heap.size, 0, (s.data.toList.map fun b => AV.v (.int .u8 b.toNat)).length, cells.size, by omega⟩) (o := id) (i := 0) (n := s.size) (g := 0) (sz := 1) (cap := cp) (upd_same _ _ _ _) (by show 0 + s.size * 1 ≤ (s.data.toList.map fun b => AV.v (.int .u8 b.toNat)).length; omega) hcp (by simp; omega)
          simpa using this
      · cases h
    · cases h
  · cases h

end
end Go.Ai
