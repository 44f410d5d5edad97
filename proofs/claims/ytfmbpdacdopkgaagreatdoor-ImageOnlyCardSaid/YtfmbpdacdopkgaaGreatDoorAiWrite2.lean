/- The abstract interpreter: copy, clear, calls; all operations that write. Conditions: the environment tells the truth of the program. -/
import Derived.Test.YtfmbpdacdopkgaaGreatDoorAiAppend
namespace Go.Ai
open Go.RowKit (Below)

section
variable {E : Env} {w0 : World} {ρ : Asg} {σ : St} {w : World}

/-- Cells stored through a slice. -/
theorem wr_slice (hI : Inv w0 ρ σ w) {o i m g sz : Nat} {vs : List AV} {σ' : St} {a : Value} {ys : List Value} (h : wrCells σ (.ptr o i g (m * sz)) vs = some σ') (ra : VRel w0 ρ (.sl o i m g sz) a)
    (hv : VRels w0 ρ vs ys) (hle : vs.length ≤ m * sz) :
    ∃ p cap w', a = .slice (some p) m cap ∧ (∀ P, (storeCells p ys).run P w = .ok () w') ∧ Step w0 ρ σ w ρ σ' w' := by
  cases ra with
  | sl hL h1 h2 h3 =>
    obtain ⟨b, off, w', e, hrun, hs⟩ := wr_cells hI h (.ptr hL h1) hv
    cases e
    exact ⟨_, _, w', rfl, hrun, hs⟩
  | sl0 hL h1 =>
    rename_i L p
    have : vs = [] := by simpa using hle
    subst this
    cases hv
    obtain ⟨b, off, w', e, hrun, hs⟩ := wr_cells hI h (VRel.ptr hL (by simpa using h1)) .nil
    have := hrun default
    simp [storeCells] at this
    subst this
    exact ⟨p, 0, w, rfl, fun P => by simp [storeCells], hs⟩

theorem copy_sim (hE : EnvOk E w0) (hI : Inv w0 ρ σ w) {ts : Array TypeId} {ty : TypeId} {d s r : AV} {σ' : St} {a b : Value} (h : copyA E σ ts.toList d s = some (r, σ'))
    (ra : VRel w0 ρ d a) (rb : VRel w0 ρ s b) :
    ∃ y w', (Builtin.copy_ ts ty #[a, b]).run E.P w = .ok y w' ∧ Step w0 ρ σ w ρ σ' w' ∧ VRel w0 ρ r y := by
  unfold copyA at h
  split at h
  · rename_i t rest hts
    have ht0 : ts[0]? = some t := by rw [← Array.getElem?_toList, hts]; rfl
    split at h
    · rename_i elem ht
      split at h
      · rename_i sz hsz
        split at h
        · rename_i n cs o i m g sz' hel
          split at h
          · rename_i hc
            simp only [Bool.and_eq_true, decide_eq_true_eq, beq_iff_eq] at hc
            obtain ⟨rfl, hc⟩ := hc
            simp only [Option.map_eq_some_iff, Prod.mk.injEq] at h
            obtain ⟨σ'', hw, rfl, rfl⟩ := h
            obtain ⟨hl, hf⟩ := elems_sim hI hel rb hc E.P
            obtain ⟨ys, h1, h2⟩ := hf (Nat.min n m) (Nat.min_le_left _ _)
            obtain ⟨p, cap, w', rfl, hrun, hs⟩ := wr_slice hI hw ra h2 (by
              simp only [List.length_take]; have h3 : Nat.min n m * sz ≤ m * sz := Nat.mul_le_mul_right sz (Nat.min_le_right n m); omega)
            refine ⟨goInt (Nat.min n m), w', ?_, hs, .v _⟩
            have hrun' := hrun E.P
            have h1' := h1 w (.inl rfl)
            simp only [Builtin.copy_, ht0, List.getElem?_toArray, List.getElem?_cons_zero, List.getElem?_cons_succ, Sem.run_bind, run_und hE ht, run_size hE hsz, Result.andThen_ok, hl, h1', hrun', Sem.run_pure]
          · cases h
        · rename_i n cs hel
          split at h
          · rename_i hc
            cases h
            have hc' : cs.length = n * sz := by simpa using hc
            obtain ⟨hl, hf⟩ := elems_sim hI hel rb hc' E.P
            obtain ⟨ys, h1, h2⟩ := hf 0 (Nat.zero_le _)
            cases ra
            refine ⟨goInt 0, w, ?_, Step.refl hI, .v _⟩
            have h1' := h1 w (.inl rfl)
            have hmin : Nat.min n 0 = 0 := Nat.min_zero n
            simp only [Builtin.copy_, ht0, List.getElem?_toArray, List.getElem?_cons_zero, List.getElem?_cons_succ, Sem.run_bind, run_und hE ht, run_size hE hsz, Result.andThen_ok, hl, hmin, h1', Sem.run_pure]
            rfl
          · cases h
        · cases h
      · cases h
    · cases h
  · cases h

theorem clear_sim (hE : EnvOk E w0) (hI : Inv w0 ρ σ w) {ts : Array TypeId} {ty : TypeId} {x : AV} {σ' : St} {a : Value} (h : clearA E σ ts.toList x = some σ') (ra : VRel w0 ρ x a) :
    ∃ w', (Builtin.clear_ ts ty #[a]).run E.P w = .ok (.tuple #[]) w' ∧ Step w0 ρ σ w ρ σ' w' := by
  unfold clearA at h
  split at h
  · rename_i t rest hts
    have ht0 : ts[0]? = some t := by rw [← Array.getElem?_toList, hts]; rfl
    split at h
    · rename_i elem ht
      have idle : ∀ (base : Option Addr) (cap : Nat), a = .slice base 0 cap → (Builtin.clear_ ts ty #[a]).run E.P w = .ok (.tuple #[]) w := fun base cap ha => by
        subst ha
        cases base <;> simp [Builtin.clear_, ht0, run_und hE ht]
      split at h
      · cases h; cases ra; exact ⟨w, idle _ _ rfl, Step.refl hI⟩
      · cases h; cases ra; exact ⟨w, idle _ _ rfl, Step.refl hI⟩
      · cases h
        cases ra with
        | sl hL h1 h2 h3 => exact ⟨w, idle _ _ rfl, Step.refl hI⟩
        | sl0 hL h1 => exact ⟨w, idle _ _ rfl, Step.refl hI⟩
      · rename_i o i n g sz hn0
        split at h
        · rename_i z hz
          split at h
          · rename_i hc
            simp only [Bool.and_eq_true, beq_iff_eq] at hc
            obtain ⟨z', hz'⟩ : ∃ z', E.zero elem = some z' := by
              unfold zeros at hz; cases hzz : E.zero elem with
              | none => simp [hzz] at hz
              | some z' => exact ⟨z', rfl⟩
            obtain ⟨p, cap, w', rfl, hrun, hs⟩ := wr_slice hI h ra (zeroCells_rel hz hz') (by omega)
            refine ⟨w', ?_, hs⟩
            have hnz : n ≠ 0 := hn0
            obtain ⟨k, rfl⟩ : ∃ k, n = k + 1 := ⟨n - 1, by omega⟩
            simp [Builtin.clear_, ht0, run_und hE ht, run_zero hE hz', hrun E.P]
          · cases h
        · cases h
      · cases h
    · cases h
  · cases h

/-- What an operation's outcome has to do with the model's. -/
def NextOk (E : Env) (w0 : World) (ρ : Asg) (σ : St) (w : World) (r : Result Next) : ANext × St → Prop
  | (.val x, σ') => (∃ y w' ρ', r = .ok (.value y) w' ∧ Step w0 ρ σ w ρ' σ' w' ∧ VRel w0 ρ' x y) ∨
      (σ' = σ ∧ ∃ f cargs, r = .ok (.enter f cargs) w ∧ Calls E.P f cargs w fun e w' => ∃ y, e = .returned y ∧ VRel w0 ρ x y ∧ Below w.heap.size w w')
  | (.skip, σ') => ∃ w' ρ', r = .ok .skip w' ∧ Step w0 ρ σ w ρ' σ' w'
  | (.call f args, σ') => σ' = σ ∧ ∃ cargs : Array Value, r = .ok (.enter f cargs) w ∧ VRels w0 ρ args cargs.toList ∧ ∃ fn, E.fn f = some fn
  | (.round o args, σ') => σ' = σ ∧ ∃ (L : Loc) (cargs : Array Value), ρ o 0 = some L ∧ r = (Instr.yield L.blk cargs).run E.P w ∧ VRels w0 ρ args cargs.toList
  | (.defer d, σ') => σ' = σ ∧ ∃ d', r = .ok (.defer d') w ∧ DRel1 w0 ρ d d' ∧ ∃ f args fn, d = .call f args ∧ E.fn f = some fn
  | (.panic x, σ') => σ' = σ ∧ ∃ y, r = .halt (.panic y) w ∧ VRel w0 ρ x y

theorem run_callFunc (hE : EnvOk E w0) {f : FuncId} {fn : Func} (hf : E.fn f = some fn) (args : Array Value) (w : World) : (callFunc f args).run E.P w = .ok (.enter f args) w := by
  obtain ⟨h1, h2, h3⟩ := hE.fn f fn hf
  have h4 : fn.body.isNone = false := by cases h : fn.body <;> simp_all
  simp only [callFunc, Sem.run_bind, run_program, Result.andThen_ok, h1, h3, h4, Bool.false_eq_true, if_false, Sem.run_pure]

/-- A function value and its arguments. -/
theorem callee_rel {x : AV} {args : List AV} {a : Value} {cargs : Array Value} (ra : VRel w0 ρ x a) (rs : VRels w0 ρ args cargs.toList) {n : ANext} (h : callee? x args = some n) :
    (∃ f l first cap, n = .call f l ∧ a = .func (.func f) first cap ∧ VRels w0 ρ l (first ++ cargs ++ cap).toList) ∨ (∃ o L, n = .round o args ∧ a = .func (.yield L.blk) #[] #[] ∧ ρ o 0 = some L) := by
  unfold callee? at h
  split at h
  · cases h
    cases ra with
    | fn hx hy => exact .inl ⟨_, _, _, _, rfl, rfl, by simpa using (hx.append rs).append hy⟩
  · cases h
    cases ra
    exact .inl ⟨_, _, _, _, rfl, rfl, by simpa using ((VRels.v_map _).append rs).append (VRels.v_map _)⟩
  · cases h
    cases ra with
    | yld hL => exact .inr ⟨_, _, rfl, rfl, hL⟩
  · cases h

theorem callA_ok (hE : EnvOk E w0) (hI : Inv w0 ρ σ w) {f : FuncId} {args : List AV} {cargs : Array Value} {n : ANext} (h : callA E f args = some n) (rs : VRels w0 ρ args cargs.toList) {r : Result Next}
    (hr : r = (callFunc f cargs).run E.P w) (hex : ∀ S, E.sum f = some S → ∃ fn, E.fn f = some fn) : NextOk E w0 ρ σ w r (n, σ) := by
  unfold callA at h
  split at h
  · rename_i S hS
    simp only [Option.map_eq_some_iff] at h
    obtain ⟨x, hx, rfl⟩ := h
    obtain ⟨fn, hfn⟩ := hex S hS
    exact .inr ⟨rfl, f, cargs, by rw [hr, run_callFunc hE hfn], hE.sum f S args x hS hx ρ σ w cargs hI rs⟩
  · split at h
    · rename_i fn hfn
      cases h
      exact ⟨rfl, cargs, by rw [hr, run_callFunc hE hfn], rs, fn, hfn⟩
    · split at h
      · rename_i X hX
        simp only [Option.map_eq_some_iff] at h
        obtain ⟨x, hx, rfl⟩ := h
        obtain ⟨y, hy, hv⟩ := hE.ext f X args x hX hx ρ w cargs rs
        exact .inl ⟨y, w, ρ, by rw [hr, hy], Step.refl hI, hv⟩
      · cases h

theorem method_ok (hE : EnvOk E w0) {x : AV} {name : String} {g : FuncId} {y : AV} {a : Value} (h : methodA E x name = some (g, y)) (ra : VRel w0 ρ x a) (w : World) (args : Array Value) :
    ∃ b, (callMethod a name args).run E.P w = (callFunc g (#[b] ++ args)).run E.P w ∧ VRel w0 ρ y b := by
  unfold methodA at h
  split at h
  · rename_i t z
    cases ra with
    | ifc rz =>
    rename_i b
    split at h
    · rename_i i hi
      split at h
      · rename_i m hm
        split at h
        · rename_i hp
          have hpath : m.path.toList = [] := by
            have : m.path = #[] := by simpa using hp
            rw [this]
          have hfollow : (follow m.path.toList t (.val b)).run E.P w = .ok (t, .val b) w := by rw [hpath]; rfl
          have base : ∀ (fp : FuncId × Bool) (rv : Value), m.func = some fp → (∀ wr, (receiverAt t (.val b) fp.2 wr).run E.P w = .ok rv w) →
              (callMethod (.iface t b) name args).run E.P w = (callFunc fp.1 (#[rv] ++ args)).run E.P w := fun fp rv hf hrv => by
            obtain ⟨k, hk⟩ : ∃ k, E.P.types.size + Made.depth = k + 1 := ⟨E.P.types.size + Made.depth - 1, by unfold Made.depth; omega⟩
            simp only [callMethod, Sem.run_bind, run_program, Result.andThen_ok, hk, method, run_inf hE hi, hm, hfollow, hf, hrv, Sem.run_pure]
          split at h
          · rename_i f e hf ht
            cases h
            exact ⟨b, base _ b hf (fun wr => by simp [receiverAt, run_und hE ht, Place.get]), rz⟩
          · cases h
          · rename_i f d hnp hf ht
            cases h
            refine ⟨b, base _ b hf (fun wr => ?_), rz⟩
            simp only [receiverAt, Sem.run_bind, run_und hE ht, Result.andThen_ok]
            cases d <;> first | (exact (hnp _ ht).elim) | simp [Place.get]
          · cases h
        · cases h
      · cases h
    · cases h
  · cases h

theorem writeA_sim (hE : EnvOk E w0) (hI : Inv w0 ρ σ w) (hex : ∀ f S, E.sum f = some S → ∃ fn, E.fn f = some fn) {a : AFr} {c : Act} (hF : FRel w0 ρ a c.tmps) {o : Oper} {r : ANext × St} (h : writeA E a σ o = some r) :
    NextOk E w0 ρ σ w ((execOp c.eval o).run E.P w) r := by
  have R := opd_rel hE hF
  unfold writeA at h
  simp only at h
  split at h
  · rename_i t p q ho
    simp only [Option.map_eq_some_iff] at h
    obtain ⟨σ', hs, rfl⟩ := h
    obtain ⟨w', hrun, hst⟩ := store_sim hE hI hs (R p) (R q)
    exact ⟨w', ρ, by simp [execOp, ho, hrun], hst⟩
  · rename_i t m k x ho
    simp only [Option.map_eq_some_iff] at h
    obtain ⟨σ', hs, rfl⟩ := h
    obtain ⟨w', hrun, hst⟩ := mapUpdate_sim hE hI hs (R m) (R k) (R x)
    exact ⟨w', ρ, by simp [execOp, ho, hrun], hst⟩
  · rename_i t m k x ho
    simp only [Option.map_eq_some_iff] at h
    obtain ⟨σ', hs, rfl⟩ := h
    obtain ⟨w', hrun, hst⟩ := mapUpdate_sim hE hI hs (R m) (R k) (R x)
    exact ⟨w', ρ, by simp [execOp, ho, hrun], hst⟩
  · rename_i p ho
    split at h
    · rename_i t y hp
      cases h
      have rp := R p
      rw [hp] at rp
      generalize hq : c.eval p = cp at rp
      cases rp with
      | ifc ry => exact ⟨rfl, _, by simp [execOp, ho, hq, Instr.panic], .ifc ry⟩
    · cases h
  · rename_i f args ts ho
    split at h
    · rename_i g l hcal
      split at h
      · rename_i fn hsum hfn
        cases h
        have rs : VRels w0 ρ (args.toList.map (opd E a)) (args.map c.eval).toList := by simpa using opds_rel hE hF args.toList
        rcases callee_rel (R f) rs hcal with ⟨f', l', first, cap, e1, e2, e3⟩ | ⟨o', L, e1, _⟩
        · cases e1
          refine ⟨rfl, ⟨.fn (.func g) cap, first ++ args.map c.eval⟩, ?_, ⟨cap, first ++ args.map c.eval, rfl, e3⟩, g, l, fn, rfl, hfn⟩
          simp [execOp, ho, resolve, e2, Deferred.ofValue]
        · cases e1
      · cases h
    · cases h
  · rename_i f args ts ho
    have rs : VRels w0 ρ (args.toList.map (opd E a)) (args.map c.eval).toList := by simpa using opds_rel hE hF args.toList
    split at h
    · rename_i g l hcal
      simp only [Option.map_eq_some_iff] at h
      obtain ⟨n, hn, rfl⟩ := h
      rcases callee_rel (R f) rs hcal with ⟨f', l', first, cap, e1, e2, e3⟩ | ⟨o', L, e1, _⟩
      · cases e1
        refine callA_ok hE hI hn e3 ?_ (hex g)
        simp [execOp, ho, resolve, e2, Deferred.ofValue, invoke]
      · cases e1
    · rename_i l as hcal
      cases h
      rcases callee_rel (R f) rs hcal with ⟨f', l', first, cap, e1, e2, e3⟩ | ⟨o', L, e1, e2, e3⟩
      · cases e1
      · cases e1
        refine ⟨rfl, L, args.map c.eval, e3, ?_, rs⟩
        simp [execOp, ho, resolve, e2, Deferred.ofValue, invoke]
    · cases h
  · rename_i rc name args ts ho
    have rs : VRels w0 ρ (args.toList.map (opd E a)) (args.map c.eval).toList := by simpa using opds_rel hE hF args.toList
    split at h
    · rename_i g y hm
      simp only [Option.map_eq_some_iff] at h
      obtain ⟨n, hn, rfl⟩ := h
      obtain ⟨b, hb, rb⟩ := method_ok hE hm (R rc) w (args.map c.eval)
      refine callA_ok hE hI hn (cargs := #[b] ++ args.map c.eval) (by simpa using VRels.cons rb rs) ?_ (hex g)
      have hxs : (#[c.eval rc] ++ args.map c.eval).extract 1 (#[c.eval rc] ++ args.map c.eval).size = args.map c.eval := by
        apply Array.ext'; simp [List.take_of_length_le]
      have h0 : (#[c.eval rc] ++ args.map c.eval)[0]? = some (c.eval rc) := by rw [Array.getElem?_append_left (Nat.zero_lt_one)]; rfl
      simp only [execOp, ho, resolve, Sem.run_bind, Sem.run_pure, Result.andThen_ok]
      simp only [invoke, h0, hxs, hb]
    · cases h
  · rename_i b args ts ho
    obtain ⟨bs, hb⟩ := exec_builtin c.eval o b args ts ho E.P w
    split at h
    · rename_i p q hargs
      rw [toList_two hargs] at hb
      simp only [Option.map_eq_some_iff] at h
      obtain ⟨⟨x, σ'⟩, hx, rfl⟩ := h
      obtain ⟨y, w', ρ', hrun, hst, hv⟩ := append_sim (ty := o.type) hE hI hx (R p) (R q)
      exact .inl ⟨y, w', ρ', by rw [hb]; exact exec_value (by simpa using hrun), hst, hv⟩
    · rename_i p q hargs
      rw [toList_two hargs] at hb
      simp only [Option.map_eq_some_iff] at h
      obtain ⟨⟨x, σ'⟩, hx, rfl⟩ := h
      obtain ⟨y, w', hrun, hst, hv⟩ := copy_sim (ty := o.type) hE hI hx (R p) (R q)
      exact .inl ⟨y, w', ρ, by rw [hb]; exact exec_value (by simpa using hrun), hst, hv⟩
    · rename_i p hargs
      rw [toList_one hargs] at hb
      simp only [Option.map_eq_some_iff] at h
      obtain ⟨σ', hx, rfl⟩ := h
      obtain ⟨w', hrun, hst⟩ := clear_sim (ty := o.type) hE hI hx (R p)
      exact .inl ⟨.tuple #[], w', ρ, by rw [hb]; exact exec_value (by simpa using hrun), hst, .v _⟩
    · rename_i p q hargs
      rw [toList_two hargs] at hb
      simp only [Option.map_eq_some_iff] at h
      obtain ⟨σ', hx, rfl⟩ := h
      obtain ⟨w', hrun, hst⟩ := delete_sim (ty := o.type) hE hI hx (R p) (R q)
      exact .inl ⟨.tuple #[], w', ρ, by rw [hb]; exact exec_value (by simpa using hrun), hst, .v _⟩
    · rename_i p hargs
      rw [toList_one hargs] at hb
      split at h
      · rename_i t y hp
        cases h
        have rp := R p
        rw [hp] at rp
        generalize hq : c.eval p = cp at rp
        cases rp with
        | ifc ry => exact ⟨rfl, _, by rw [hb]; simp [builtin, hq, Instr.panic], .ifc ry⟩
      · cases h
    · cases h
  · cases h

/-- The blocks below stay. -/
theorem Step.below (hI : Inv w0 ρ σ w) {w' : World} (h : Below w.heap.size w w') : Step w0 ρ σ w ρ σ w' :=
  ⟨Ext.refl _, ⟨hI.below.trans (h.mono hI.below.size), fun o x e => (hI.objs o x e).keep (Ext.refl _) (fun _ _ e' => h.block _ (hI.bnd _ _ _ e')), hI.gen, hI.disj, hI.fresh,
    fun o k L e => Nat.lt_of_lt_of_le (hI.bnd o k L e) h.size, hI.own⟩, h.size, Nat.le_refl _, fun _ _ e => e, fun b hb _ => h.block b hb, fun _ _ _ e => .inl e⟩

theorem opA_sim (hE : EnvOk E w0) (hI : Inv w0 ρ σ w) (hex : ∀ f S, E.sum f = some S → ∃ fn, E.fn f = some fn) {a : AFr} {c : Act} (hF : FRel w0 ρ a c.tmps) {o : Oper} {r : ANext × St} (h : opA E a σ o = some r) :
    NextOk E w0 ρ σ w ((execOp c.eval o).run E.P w) r := by
  unfold opA at h
  split at h
  · simp only [Option.map_eq_some_iff] at h
    obtain ⟨x, hx, rfl⟩ := h
    obtain ⟨y, hy, hr⟩ := readA_sim hE hI hF hx
    exact .inl ⟨y, w, ρ, hy, Step.refl hI, hr⟩
  · simp only [Option.map_eq_some_iff] at h
    obtain ⟨⟨x, f⟩, hx, rfl⟩ := h
    obtain ⟨y, obj, wd, L, hwd, hrun, hL, hg, hnew⟩ := allocA_sim hE hF hx w
    have hno : ρ σ.next 0 = none := (hI.fresh σ.next (Nat.le_refl _)).2 0
    obtain ⟨h1, h2⟩ := hnew σ.next hno
    have hst : Step w0 ρ σ w (upd ρ σ.next 0 L) (σ.add x) (wd.alloc obj) := by
      rcases hwd with rfl | rfl
      · exact Step.add hI x obj L hL hg h1
      · exact (Step.drew hI).trans hI (Step.add hI.drew x obj L hL hg h1)
    exact .inl ⟨y, _, _, hrun, hst, h2⟩
  · exact writeA_sim hE hI hex hF h

end
end Go.Ai
