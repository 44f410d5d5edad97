/- The abstract interpreter: rewriting it by hand. Conditions: none. -/
import Derived.Test.YtfmbpdacdopkgaaGreatDoorAiDraw4
namespace Go.Ai

theorem get_set (a : AFr) (t k : Nat) (x : AV) : (a.set t x).get k = if t = k then x else a.get k := by
  by_cases h : t = k
  · subst h; rw [AFr.get_set_same, if_pos rfl]
  · rw [AFr.get_set_ne _ _ _ _ h, if_neg h]
theorem n_set (a : AFr) (t : Nat) (x : AV) : (a.set t x).n = a.n := rfl
theorem df_set (a : AFr) (t : Nat) (x : AV) : (a.set t x).df = a.df := rfl

section
variable (P : Program) (k : IntKind) (t : TypeId) (a b : Int)
theorem cmp_lss : runA P (binOp .lss t (.int k a) (.int k b)) = some (.bool (decide (a < b))) := by simp [binOp, Op.intCmp]; rfl
theorem cmp_leq : runA P (binOp .leq t (.int k a) (.int k b)) = some (.bool (decide (a ≤ b))) := by simp [binOp, Op.intCmp]; rfl
theorem cmp_gtr : runA P (binOp .gtr t (.int k a) (.int k b)) = some (.bool (decide (b < a))) := by simp [binOp, Op.intCmp]; rfl
theorem cmp_geq : runA P (binOp .geq t (.int k a) (.int k b)) = some (.bool (decide (b ≤ a))) := by simp [binOp, Op.intCmp]; rfl
theorem cmp_eql : runA P (binOp .eql t (.int k a) (.int k b)) = some (.bool (a == b)) := by simp [binOp, Op.intCmp]; rfl
theorem cmp_neq : runA P (binOp .neq t (.int k a) (.int k b)) = some (.bool (a != b)) := by simp [binOp, Op.intCmp]; rfl
theorem ar_add : runA P (binOp .add t (.int k a) (.int k b)) = some (.int k (k.wrap (a + b))) := by simp [binOp, Op.intArith]; rfl
theorem ar_sub : runA P (binOp .sub t (.int k a) (.int k b)) = some (.int k (k.wrap (a - b))) := by simp [binOp, Op.intArith]; rfl
theorem ar_mul : runA P (binOp .mul t (.int k a) (.int k b)) = some (.int k (k.wrap (a * b))) := by simp [binOp, Op.intArith]; rfl
end

theorem str_eql (P : Program) (t : TypeId) (a b : ByteArray) : runA P (binOp .eql t (.string a) (.string b)) = some (.bool (a.toList == b.toList)) := by simp [binOp, Op.stringOp]; rfl
theorem str_neq (P : Program) (t : TypeId) (a b : ByteArray) : runA P (binOp .neq t (.string a) (.string b)) = some (.bool (!(a.toList == b.toList))) := by simp [binOp, Op.stringOp]; rfl

section
variable (E : Env) (t : TypeId) (xo yo : Operand)
theorem eq_str (a b : ByteArray) : eqA E .eql t xo yo (.v (.string a)) (.v (.string b)) = some (.b (a.toList == b.toList)) := by
  simp [eqA, AV.exact?, eqGuard, binOp, Op.stringOp]; rfl
theorem ne_str (a b : ByteArray) : eqA E .neq t xo yo (.v (.string a)) (.v (.string b)) = some (.b (!(a.toList == b.toList))) := by
  simp [eqA, AV.exact?, eqGuard, binOp, Op.stringOp]; rfl
theorem eq_int (k : IntKind) (a b : Int) : eqA E .eql t xo yo (.v (.int k a)) (.v (.int k b)) = some (.b (a == b)) := by
  simp [eqA, AV.exact?, eqGuard, binOp, Op.intCmp]; rfl
theorem ne_int (k : IntKind) (a b : Int) : eqA E .neq t xo yo (.v (.int k a)) (.v (.int k b)) = some (.b (a != b)) := by
  simp [eqA, AV.exact?, eqGuard, binOp, Op.intCmp]; rfl
end

section
variable (K : Kont) (E : Env) (N : Nat) (ro : Option Nat) (a : AFr) (σ : St)
theorem code_skip : codeA K E N ro .skip a σ = some (.normal, a, σ) := rfl
theorem code_label (l : Nat) : codeA K E N ro (.label l) a σ = some (.normal, a, σ) := rfl
theorem code_region (id : Nat) (ops : Array Oper) : codeA K E N none (.region id ops false) a σ = opsA K E ops ops.toList a σ := rfl
theorem code_draw (id : Nat) (ops : Array Oper) : codeA K E N ro (.region id ops true) a σ = regionA K E ops a σ := rfl
theorem code_seq (x y : Code) : codeA K E N ro (.seq x y) a σ = match codeA K E N ro x a σ with
    | some (.normal, a', σ') => codeA K E N ro y a' σ'
    | r => r := rfl
theorem code_cond (c : Operand) (x y : Code) : codeA K E N ro (.cond c x y) a σ = match opd E a c with
    | .v (.bool true) => codeA K E N ro x a σ
    | .v (.bool false) => codeA K E N ro y a σ
    | _ => none := rfl
theorem code_block (id : Nat) (c : Code) : codeA K E N ro (.block id c) a σ = match codeA K E N ro c a σ with
    | some (.exit id', a', σ') => some (if id' = id then .normal else .exit id', a', σ')
    | r => r := rfl
theorem code_exit (id : Nat) : codeA K E N ro (.exit id) a σ = some (.exit id, a, σ) := rfl
theorem code_ret : codeA K E N ro .ret a σ = some (.ret, a, σ) := rfl
theorem code_loop (c : Code) : codeA K E N ro (.loop c) a σ = iterA (codeA K E N ro c) N a σ := rfl
end

theorem un_not (P : Program) (b : Bool) : runA P (Op.unary .not (.bool b)) = some (.bool (!b)) := by simp [Op.unary]; rfl

theorem wrap_id {n : Int} (h0 : -9223372036854775808 ≤ n) (h1 : n ≤ 9223372036854775807) : IntKind.i64.wrap n = n := by
  unfold IntKind.wrap IntKind.signed IntKind.bits
  simp
  omega

theorem call_ret {K : Kont} {E : Env} {N : Nat} {f : FuncId} {fn : Func} {c : Code} {args : List AV} {σ σ' : St} {a' : AFr} {x : AV} (hf : E.fn f = some fn) (hb : fn.body = some c)
    (hc : codeA K E N none c (frame0 fn args) σ = some (.ret, a', σ')) (hd : a'.df = []) (hr : resultA E σ' a' fn = some x) : callBody K E N f args σ = some (.ret x, σ') := by
  unfold callBody
  simp only [hf, hb, hc, hd, leaveA, hr, Option.map_some]

/-- A part of a code: 0: the first one, the body; 1: the second one. -/
def cAt : List Nat → Code → Code
  | [], c => c
  | 0 :: p, .seq x _ => cAt p x
  | _ :: p, .seq _ y => cAt p y
  | 0 :: p, .cond _ x _ => cAt p x
  | _ :: p, .cond _ _ y => cAt p y
  | _ :: p, .block _ c => cAt p c
  | _ :: p, .loop c => cAt p c
  | _ :: p, .scope c => cAt p c
  | _ :: p, .rangeFunc _ _ _ c => cAt p c
  | _ :: _, _ => .skip
def fAt (fn : Func) (p : List Nat) : Code :=
  match fn.body with
  | some c => cAt p c
  | none => .skip
end Go.Ai
