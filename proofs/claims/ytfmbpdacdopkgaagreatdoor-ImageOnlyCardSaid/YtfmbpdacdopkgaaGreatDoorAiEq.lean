/- The abstract interpreter: values of numbers compared. Conditions: none. -/
import Derived.Test.YtfmbpdacdopkgaaGreatDoorAiLoop
namespace Go.Ai

theorem runA_bind {α β : Type} (P : Program) : ∀ (s : Sem α) (f : α → Sem β), runA P (s >>= f) = (runA P s).bind fun a => runA P (f a)
  | .pure _, _ => rfl
  | .program k, f => runA_bind P (k P) f
  | .mark _ k, f => runA_bind P k f
  | .load .., _ | .store .., _ | .new .., _ | .shape .., _ | .freeze .., _ | .frozen .., _ | .getObj .., _ | .setObj .., _
  | .choose .., _ | .sys .., _ | .halt _, _ => rfl
theorem runA_pure {α : Type} (P : Program) (a : α) : runA P (pure a) = some a := rfl
theorem runA_map {α β : Type} (P : Program) (s : Sem α) (f : α → β) : runA P (f <$> s) = (runA P s).map f := by
  have : f <$> s = s >>= fun a => pure (f a) := by rw [← bind_pure_comp]
  rw [this, runA_bind]
  cases runA P s <;> rfl
theorem runA_program (P : Program) : runA P program = some P := rfl

section
variable {P : Program}
theorem runA_und {t : TypeId} {d : TypeDesc} (h : P.underlying t = some d) : runA P (underlying t) = some d := by
  simp [underlying, runA_bind, runA_program, h, runA_pure]
theorem runA_info {t : TypeId} {i : TypeInfo} (h : P.info? t = some i) : runA P (typeInfo t) = some i := by
  simp [typeInfo, runA_bind, runA_program, h, runA_pure]
theorem runA_size {t : TypeId} {i : TypeInfo} (h : P.info? t = some i) : runA P (sizeOf t) = some i.size := by
  simp [sizeOf, runA_map, runA_info h]
theorem runA_part_int {e : TypeId} {k : IntKind} (h : P.underlying e = some (.int k)) {xs : Array Value} {off : Nat} {v : Value} (hx : xs[off]? = some v) : runA P (part e xs off) = some v := by
  simp [part, isAgg, runA_bind, runA_und h, runA_pure, hx]
theorem runA_part_agg {e : TypeId} {d : TypeDesc} {i : TypeInfo} (h : P.underlying e = some d) (hd : (∃ n t, d = .array n t) ∨ ∃ fs, d = .struct fs) (hi : P.info? e = some i) {xs : Array Value} {off : Nat} : runA P (part e xs off) = some (.agg (xs.extract off (off + i.size))) := by
  rcases hd with ⟨n, t, rfl⟩ | ⟨fs, rfl⟩ <;> simp [part, isAgg, runA_bind, runA_map, runA_und h, runA_pure, runA_size hi]
theorem runA_eq_int {t : TypeId} {k : IntKind} (h : P.underlying t = some (.int k)) (d : Nat) (j : IntKind) (a b : Int) : runA P (Op.equalIn (d + 1) t (.int j a) (.int j b)) = some (a == b) := by
  simp [Op.equalIn, runA_bind, runA_und h, runA_pure]

theorem forIn_all {P : Program} (g : Nat → Option Bool × Unit → Sem (ForInStep (Option Bool × Unit))) (q : Nat → Bool) : ∀ (is : List Nat), (∀ i ∈ is, ∀ s, runA P (g i s) = some (if q i then .yield (none, ()) else .done (some false, ()))) →
    runA P (forIn is ((none, ()) : Option Bool × Unit) g) = some (if is.all q then (none, ()) else (some false, ()))
  | [], _ => by simp [runA_pure]
  | i :: is, h => by
    have h1 := h i (List.mem_cons_self ..) (none, ())
    have h2 := forIn_all g q is fun j hj => h j (List.mem_cons_of_mem _ hj)
    rw [List.forIn_cons, runA_bind, h1]
    cases hq : q i
    · simp [hq, runA_pure]
    · simp [hq, h2]

/-- Two rows of numbers are compared. -/
theorem runA_eq_arr {t e : TypeId} {n : Nat} {i : TypeInfo} {k : IntKind} (h : P.underlying t = some (.array n e)) (he : P.underlying e = some (.int k)) (hi : P.info? e = some i) (hs : i.size = 1) (d : Nat) (xs ys : List Int) (hx : xs.length = n) (hy : ys.length = n) :
    runA P (Op.equalIn (d + 2) t (.agg (xs.map (Value.int .i64)).toArray) (.agg (ys.map (Value.int .i64)).toArray)) = some (xs == ys) := by
  have hf : ∀ i ∈ List.range' 0 n, ∀ s : Option Bool × Unit, runA P (do
        let a ← part e (xs.map (Value.int .i64)).toArray (i * 1)
        let b ← part e (ys.map (Value.int .i64)).toArray (i * 1)
        let q ← Op.equalIn (d + 1) e a b
        if (!q) = true then pure (ForInStep.done ((some false, ()) : Option Bool × Unit)) else pure (ForInStep.yield (none, ()))) = some (if xs.getD i 0 == ys.getD i 0 then .yield (none, ()) else .done (some false, ())) := by
    intro j hj _
    have hj : j < n := by simpa using hj
    have hjx : j < xs.length := by omega
    have hjy : j < ys.length := by omega
    have p1 : runA P (part e (xs.map (Value.int .i64)).toArray (j * 1)) = some (.int .i64 xs[j]) := runA_part_int he (by simp [hjx])
    have p2 : runA P (part e (ys.map (Value.int .i64)).toArray (j * 1)) = some (.int .i64 ys[j]) := runA_part_int he (by simp [hjy])
    simp only [runA_bind, p1, p2, Option.bind_some, runA_eq_int he, getD_lt hjx, getD_lt hjy]
    cases (xs[j] == ys[j]) <;> rfl
  have hall : (List.range' 0 n).all (fun i => xs.getD i 0 == ys.getD i 0) = (xs == ys) := by
    rw [Bool.eq_iff_iff]
    simp only [List.all_eq_true, List.mem_range'_1, beq_iff_eq]
    constructor
    · intro h
      apply List.ext_getElem (by omega)
      intro j h1 h2
      have := h j (by omega)
      rwa [getD_lt h1, getD_lt h2] at this
    · rintro rfl j _; rfl
  unfold Op.equalIn
  simp only [runA_bind, runA_und h, Option.bind_some, runA_size hi, hs]
  simp only [Std.Legacy.Range.forIn_eq_forIn_range', Std.Legacy.Range.size, Nat.sub_zero, Nat.add_one_sub_one, Nat.div_one]
  rw [forIn_all _ (fun i => xs.getD i 0 == ys.getD i 0) _ hf, hall]
  cases (xs == ys) <;> rfl
end
end Go.Ai

namespace Go.Ai

section
variable {P : Program}
theorem forIn_all' {α : Type} (g : α → Option Bool × Unit → Sem (ForInStep (Option Bool × Unit))) (q : α → Bool) : ∀ (is : List α), (∀ i ∈ is, ∀ s, runA P (g i s) = some (if q i then .yield (none, ()) else .done (some false, ()))) →
    runA P (forIn is ((none, ()) : Option Bool × Unit) g) = some (if is.all q then (none, ()) else (some false, ()))
  | [], _ => by simp [runA_pure]
  | i :: is, h => by
    have h1 := h i (List.mem_cons_self ..) (none, ())
    have h2 := forIn_all' g q is fun j hj => h j (List.mem_cons_of_mem _ hj)
    rw [List.forIn_cons, runA_bind, h1]
    cases hq : q i
    · simp [hq, runA_pure]
    · simp [hq, h2]

theorem runA_eq_struct {t : TypeId} {fields : Array Field} (h : P.underlying t = some (.struct fields)) (hst : P.stoodInHeld t = false) (d : Nat) (xs ys : Array Value) (q : Field → Bool)
    (hq : ∀ f ∈ fields.toList, f.name ≠ "_" ∧ ∃ a b, runA P (part f.type xs f.offset) = some a ∧ runA P (part f.type ys f.offset) = some b ∧ runA P (Op.equalIn d f.type a b) = some (q f)) :
    runA P (Op.equalIn (d + 1) t (.agg xs) (.agg ys)) = some (fields.toList.all q) := by
  have hf : ∀ f ∈ fields.toList, ∀ s : Option Bool × Unit, runA P (if f.name ≠ "_" then do
        let a ← part f.type xs f.offset
        let b ← part f.type ys f.offset
        let r ← Op.equalIn d f.type a b
        if (!r) = true then pure (ForInStep.done ((some false, ()) : Option Bool × Unit)) else pure (ForInStep.yield (none, ()))
      else pure (ForInStep.yield (none, ()))) = some (if q f then .yield (none, ()) else .done (some false, ())) := by
    intro f hf _
    obtain ⟨hn, a, b, h1, h2, h3⟩ := hq f hf
    rw [if_pos hn]
    simp only [runA_bind, h1, h2, h3, Option.bind_some]
    cases q f <;> rfl
  unfold Op.equalIn
  simp only [runA_bind, runA_und h, Option.bind_some, runA_program, hst, Bool.false_eq_true, if_false]
  rw [← Array.forIn_toList, forIn_all' _ q _ hf]
  cases fields.toList.all q <;> rfl

theorem eqA_of {E : Env} {t : TypeId} {xs ys : Array Value} {r : Bool} (xo yo : Operand) (x y : AV) (hx : x.exact? = some (.agg xs)) (hy : y.exact? = some (.agg ys)) (hg : E.P.eqGuardType E.P.depth t = false) (h : runA E.P (Op.equalIn 10000 t (.agg xs) (.agg ys)) = some r) :
    eqA E .eql t xo yo x y = some (.b r) ∧ eqA E .neq t xo yo x y = some (.b (!r)) := by
  constructor
  · simp only [eqA, hx, hy]
    simp [eqGuard, binOp, runA_bind, runA_map, runA_program, runA_pure, hg, Op.equal, Op.maxDepth, h]
  · simp only [eqA, hx, hy]
    simp [eqGuard, binOp, runA_bind, runA_map, runA_program, runA_pure, hg, Op.equal, Op.maxDepth, h]
end
end Go.Ai

namespace Go.Ai

mutual
theorem vbeq_self : ∀ x : Value, vbeq x x = true
  | .bool a => by simp [vbeq]
  | .int j a => by simp [vbeq]
  | .float j a => by simp [vbeq]
  | .complex j a b => by simp [vbeq]
  | .string a => by simp [vbeq]
  | .pointer a => by simp [vbeq]
  | .slice a n c => by simp [vbeq]
  | .map a => by simp [vbeq]
  | .chan a => by simp [vbeq]
  | .func f ⟨xs⟩ ⟨ys⟩ => by simp [vbeq, vsbeq_self xs, vsbeq_self ys]
  | .nilFunc => by simp [vbeq]
  | .iface t x => by simp [vbeq, vbeq_self x]
  | .nilIface => by simp [vbeq]
  | .agg ⟨xs⟩ => by simp [vbeq, vsbeq_self xs]
  | .tuple ⟨xs⟩ => by simp [vbeq, vsbeq_self xs]
theorem vsbeq_self : ∀ l : List Value, vsbeq l l = true
  | [] => rfl
  | x :: xs => by simp [vsbeq, vbeq_self x, vsbeq_self xs]
end
mutual
theorem beq_self : ∀ x : AV, AV.beq x x = true
  | .v x => by simp [AV.beq, vbeq_self]
  | .top => by simp [AV.beq]
  | .ptr .. => by simp [AV.beq]
  | .cptr l => by simp [AV.beq, beqs_self l]
  | .sl .. => by simp [AV.beq]
  | .lst n l => by simp [AV.beq, beqs_self l]
  | .e0 => by simp [AV.beq]
  | .mp _ => by simp [AV.beq]
  | .lmp ks vs => by simp [AV.beq, vsbeq_self ks, beqs_self vs]
  | .fn f a b => by simp [AV.beq, beqs_self a, beqs_self b]
  | .yld _ => by simp [AV.beq]
  | .ifc t x => by simp [AV.beq, beq_self x]
  | .agg l => by simp [AV.beq, beqs_self l]
  | .tup l => by simp [AV.beq, beqs_self l]
theorem beqs_self : ∀ l : List AV, AV.beqs l l = true
  | [] => by simp [AV.beqs]
  | x :: xs => by simp [AV.beqs, beq_self x, beqs_self xs]
end
end Go.Ai
