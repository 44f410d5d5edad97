/- An abstract interpreter for the model's code: values, states, evaluation. Conditions: none (definitions). -/
import Derived.WalkKit
import Derived.RangeFuncRecord
import Derived.RecoverIn
import Derived.OrdersIn
namespace Go.Ai

/-- What a `Sem` yields where it looks at nothing but the program. -/
def runA {α : Type} (P : Program) : Sem α → Option α
  | .pure a => some a
  | .program k => runA P (k P)
  | .mark _ k => runA P k
  | _ => none

/-- A tree of values by numbers. -/
inductive Tr (α : Type) where
  | nil
  | node (l r : Tr α) (x : Option α)

namespace Tr
variable {α : Type}
def get : Tr α → Nat → Option α
  | .nil, _ => none
  | .node l r x, n => if n = 0 then x else if n % 2 = 1 then l.get (n / 2) else r.get (n / 2 - 1)
/-- The first argument bounds the number of binary digits. -/
def put : Nat → Tr α → Nat → Option α → Tr α
  | 0, t, _, _ => t
  | f + 1, .nil, n, y => if n = 0 then .node .nil .nil y else if n % 2 = 1 then .node (put f .nil (n / 2) y) .nil none else .node .nil (put f .nil (n / 2 - 1) y) none
  | f + 1, .node l r x, n, y => if n = 0 then .node l r y else if n % 2 = 1 then .node (put f l (n / 2) y) r x else .node l (put f r (n / 2 - 1) y) x
end Tr

inductive AV where
  | v (x : Value)
  | top
  | ptr (o i g e : Nat)
  | cptr (cs : List AV)
  | sl (o i n g sz : Nat)
  | lst (sz : Nat) (xs : List AV)
  | e0
  | mp (o : Nat)
  | lmp (ks : List Value) (vs : List AV)
  | fn (f : FuncId) (first cap : List AV)
  | yld (o : Nat)
  | ifc (t : TypeId) (x : AV)
  | agg (cs : List AV)
  | tup (vs : List AV)

instance : Inhabited AV := ⟨.top⟩

abbrev AV.b (x : Bool) : AV := .v (.bool x)
abbrev AV.i (n : Int) : AV := .v (.int .i64 n)
abbrev AV.s (x : ByteArray) : AV := .v (.string x)

/-- The cells of a value. -/
def AV.cells? : AV → Option (List AV)
  | .agg cs => some cs
  | .v x => some (x.cells.toList.map .v)
  | .top => none
  | x => some [x]

/-- A value that one cell bears. -/
def lone1 : Value → Bool
  | .agg _ | .tuple _ => false
  | _ => true

/-- A value that one cell bears. -/
def AV.one : AV → Bool
  | .v x => lone1 x
  | .top | .agg _ | .tup _ => false
  | _ => true

mutual
def AV.exact? : AV → Option Value
  | .v x => some x
  | .agg cs => (AV.exacts? cs).map fun l => .agg l.toArray
  | .ifc t x => x.exact?.map (.iface t)
  | _ => none
def AV.exacts? : List AV → Option (List Value)
  | [] => some []
  | x :: xs => match x.exact? with
    | none => none
    | some y => (AV.exacts? xs).map (y :: ·)
end

mutual
def vbeq : Value → Value → Bool
  | .bool a, .bool b => a == b
  | .int j a, .int k b => j == k && a == b
  | .float j a, .float k b => j == k && a == b
  | .complex j a c, .complex k b d => j == k && a == b && c == d
  | .string a, .string b => a.data.toList == b.data.toList
  | .pointer a, .pointer b => a == b
  | .slice a n c, .slice b m d => a == b && n == m && c == d
  | .map a, .map b => a == b
  | .chan a, .chan b => a == b
  | .func f ⟨xs⟩ ⟨ys⟩, .func g ⟨us⟩ ⟨vs⟩ => f == g && vsbeq xs us && vsbeq ys vs
  | .nilFunc, .nilFunc => true
  | .iface t x, .iface u y => t == u && vbeq x y
  | .nilIface, .nilIface => true
  | .agg ⟨xs⟩, .agg ⟨ys⟩ => vsbeq xs ys
  | .tuple ⟨xs⟩, .tuple ⟨ys⟩ => vsbeq xs ys
  | _, _ => false
def vsbeq : List Value → List Value → Bool
  | [], [] => true
  | x :: xs, y :: ys => vbeq x y && vsbeq xs ys
  | _, _ => false
end

mutual
def AV.beq : AV → AV → Bool
  | .v x, .v y => vbeq x y
  | .top, .top => true
  | .ptr o i g e, .ptr o' i' g' e' => o == o' && i == i' && g == g' && e == e'
  | .cptr a, .cptr b => AV.beqs a b
  | .sl o i n g s, .sl o' i' n' g' s' => o == o' && i == i' && n == n' && g == g' && s == s'
  | .lst n a, .lst m b => n == m && AV.beqs a b
  | .e0, .e0 => true
  | .mp a, .mp b => a == b
  | .lmp a b, .lmp c d => vsbeq a c && AV.beqs b d
  | .fn f a b, .fn g c d => f == g && AV.beqs a c && AV.beqs b d
  | .yld a, .yld b => a == b
  | .ifc t x, .ifc u y => t == u && AV.beq x y
  | .agg a, .agg b => AV.beqs a b
  | .tup a, .tup b => AV.beqs a b
  | _, _ => false
def AV.beqs : List AV → List AV → Bool
  | [], [] => true
  | x :: xs, y :: ys => AV.beq x y && AV.beqs xs ys
  | _, _ => false
end

/-- A deferred call, or the mark of a range over a function. -/
inductive ADef where
  | call (f : FuncId) (args : List AV)
  | mark (o : Nat)

/-- An activation: its temporaries (`n` of them), its deferred calls. -/
structure AFr where
  tm : Tr AV
  n : Nat
  df : List ADef

def AFr.get (a : AFr) (t : Nat) : AV := (a.tm.get t).getD (.v undef)
def AFr.set (a : AFr) (t : Nat) (x : AV) : AFr := { a with tm := a.tm.put (t + 1) t (some x) }
def AFr.put (a : AFr) (d : Option Tmp) (x : AV) : Option AFr :=
  match d with
  | none => some a
  | some t => if t < a.n then some (a.set t x) else none

structure AEntry where
  key : Value
  val : AV
  born : Nat

structure ALoop where
  state : LoopState
  pending : Option Code
  tm : AFr
  params : List Tmp
  assign : Code
  body : Code
  dfr : Nat

inductive AObj where
  | cells (cs : List AV) (g m : Nat)
  | map (es : List AEntry) (clock : Nat)
  | loop (l : ALoop)
  | dfr (shut : Bool)

structure St where
  objs : Tr AObj
  next : Nat

def St.get (σ : St) (o : Nat) : Option AObj := σ.objs.get o
def St.set (σ : St) (o : Nat) (x : AObj) : St := { σ with objs := σ.objs.put (o + 1) o (some x) }
def St.del (σ : St) (o : Nat) : St := { σ with objs := σ.objs.put (o + 1) o none }
/-- A new object; it gets the number `σ.next`. -/
def St.add (σ : St) (x : AObj) : St := { objs := σ.objs.put (σ.next + 1) σ.next (some x), next := σ.next + 1 }

structure Env where
  P : Program
  und : TypeId → Option TypeDesc
  inf : TypeId → Option TypeInfo
  fn : FuncId → Option Func
  glob : Nat → Option (List AV)
  sum : FuncId → Option (List AV → Option AV)
  ext : FuncId → Option (List AV → Option AV)

def Env.size (E : Env) (t : TypeId) : Option Nat := (E.inf t).map (·.size)
def Env.agg (E : Env) (t : TypeId) : Option Bool :=
  match E.und t with
  | some (.struct _) | some (.array _ _) => some true
  | some _ => some false
  | none => none
/-- The cells of a type's zero value. -/
def Env.zero (E : Env) (t : TypeId) : Option Value :=
  match E.inf t with
  | some i => i.zero
  | none => none

def opd (E : Env) (a : AFr) : Operand → AV
  | .tmp t => a.get t
  | .const x => .v x
  | .global g => match E.glob g with
    | some cs => .cptr cs
    | none => .v (.pointer (some ⟨g, 0, none⟩))
  | .func f => .fn f [] []

/-- `n` cells at an address. -/
def rdCells (σ : St) : AV → Nat → Option (List AV)
  | .ptr o i g e, n =>
    if n ≤ e then
      match σ.get o with
      | some (.cells cs g' m) => if m ≤ g && g ≤ g' && i + n ≤ cs.length then some ((cs.drop i).take n) else none
      | _ => none
    else none
  | .cptr cs, n => if n ≤ cs.length then some (cs.take n) else none
  | _, _ => none

def splice (cs : List AV) (i : Nat) (vs : List AV) : List AV := cs.take i ++ vs ++ cs.drop (i + vs.length)

def wrCells (σ : St) (a : AV) (vs : List AV) : Option St :=
  match a with
  | .ptr o i g e =>
    if vs.length ≤ e && vs.all (·.one) then
      match σ.get o with
      | some (.cells cs g' m) => if g == g' && m ≤ g && i + vs.length ≤ cs.length then some (σ.set o (.cells (splice cs i vs) g' g')) else none
      | _ => none
    else none
  | _ => none

def loadA (E : Env) (σ : St) (t : TypeId) (a : AV) : Option AV :=
  match E.agg t with
  | some true => match E.size t with
    | some n => (rdCells σ a n).map .agg
    | none => none
  | some false => match rdCells σ a 1 with
    | some [c] => some c
    | _ => none
  | none => none

def storeA (E : Env) (σ : St) (t : TypeId) (a x : AV) : Option St :=
  match E.size t, x.cells? with
  | some n, some cs => if cs.length = n then wrCells σ a cs else none
  | _, _ => none

/-- A new row of cells. -/
def newA (σ : St) (cs : List AV) : St := σ.add (.cells cs 0 0)

/-- Parts laid into cells. -/
def fillA (place : Nat → Option (Nat × Nat)) (cells : List AV) : List (Nat × AV) → Option (List AV)
  | [] => some cells
  | (i, x) :: rest =>
    match place i, x.cells? with
    | some (off, size), some cs => if cs.length = size && off + size ≤ cells.length then fillA place (splice cells off cs) rest else none
    | _, _ => none

def buildA (E : Env) (t : TypeId) (parts : List (Nat × AV)) : Option AV :=
  match E.zero t with
  | none => none
  | some z =>
    match E.und t with
    | some (.struct fields) =>
      if fields.toList.all fun f => (E.size f.type).isSome then
        (fillA (fun i => match fields[i]? with
          | some f => (E.size f.type).map fun n => (f.offset, n)
          | none => none) (z.cells.toList.map .v) parts).map .agg
      else none
    | some (.array _ elem) => match E.size elem with
      | some n => (fillA (fun i => some (i * n, n)) (z.cells.toList.map .v) parts).map .agg
      | none => none
    | _ => none

def repl (n : Nat) (z : List AV) : List AV :=
  match n with
  | 0 => []
  | n + 1 => z ++ repl n z

/-- The zero cells of `n` elements of a type. -/
def zeros (E : Env) (t : TypeId) (n : Nat) : Option (List AV) :=
  match E.zero t with
  | some z => some (repl n (z.cells.toList.map .v))
  | none => none

def fieldAddrA (E : Env) (s : TypeId) (a : AV) (f : Nat) : Option AV :=
  match E.und s with
  | some (.struct fields) =>
    match fields[f]? with
    | some fd =>
      match E.size fd.type with
      | some k =>
        if k = 0 then none else
        match a with
        | .ptr o i g e => if fd.offset + k ≤ e then some (.ptr o (i + fd.offset) g k) else none
        | .cptr cs => some (.cptr (cs.drop fd.offset))
        | _ => none
      | none => none
    | none => none
  | _ => none

def partA (E : Env) (t : TypeId) (cs : List AV) (off : Nat) : Option AV :=
  match E.agg t with
  | some true => match E.size t with
    | some n => if off + n ≤ cs.length then some (.agg ((cs.drop off).take n)) else none
    | none => none
  | some false => cs[off]?
  | none => none

def fieldA (E : Env) (t : TypeId) (x : AV) (f : Nat) : Option AV :=
  match E.und t, x.cells? with
  | some (.struct fields), some cs =>
    match fields[f]?, x with
    | some fd, .agg _ => partA E fd.type cs fd.offset
    | some fd, .v (.agg _) => partA E fd.type cs fd.offset
    | _, _ => none
  | _, _ => none

def indexAddrA (E : Env) (t : TypeId) (x ix : AV) : Option AV :=
  match ix with
  | .v (.int _ j) =>
    if j < 0 then none else
    let i := j.toNat
    match E.und t with
    | some (.slice elem) =>
      match E.size elem, x with
      | some k, .sl o b n g sz => if i < n && k == sz then some (.ptr o (b + i * k) g k) else none
      | some k, .lst sz xs => if k == sz then match xs[i]? with
        | some y => y.cells?.map .cptr
        | none => none
        else none
      | _, _ => none
    | some (.array len elem) =>
      match E.size elem, x with
      | some k, .ptr o b g e => if i < len && i * k + k ≤ e then some (.ptr o (b + i * k) g k) else none
      | some k, .cptr cs => if i < len then some (.cptr (cs.drop (i * k))) else none
      | _, _ => none
    | _ => none
  | _ => none

def indexA (E : Env) (t : TypeId) (x ix : AV) : Option AV :=
  match ix with
  | .v (.int _ j) =>
    if j < 0 then none else
    let i := j.toNat
    match E.und t, x with
    | some (.array len elem), .agg cs => match E.size elem with
      | some k => if i < len then partA E elem cs (i * k) else none
      | none => none
    | some (.array len elem), .v (.agg cs) => match E.size elem with
      | some k => if i < len then partA E elem (cs.toList.map .v) (i * k) else none
      | none => none
    | some .string, .v (.string s) => match s[i]? with
      | some b => some (.v (.int .u8 b.toNat))
      | none => none
    | _, _ => none
  | _ => none

/-- A bound of a slice expression: a number that is not negative. -/
def bound? (x : Option AV) (d : Nat) : Option Nat :=
  match x with
  | none => some d
  | some (.v (.int _ j)) => if j < 0 then none else some j.toNat
  | _ => none

/-- The three bounds of a slice expression: low, high, and the third one. -/
def bounds? (lo hi mx : Option AV) (len cap : Nat) : Option (Nat × Nat × Nat) :=
  match mx, hi with
  | some _, none => none
  | _, _ =>
    match bound? mx cap, bound? hi len, bound? lo 0 with
    | some m, some h, some l => if l ≤ h && h ≤ m && m ≤ cap then some (l, h, m) else none
    | _, _, _ => none

def sliceA (E : Env) (t : TypeId) (x : AV) (lo hi mx : Option AV) : Option AV :=
  match E.und t with
  | some .string =>
    match x, mx with
    | .v (.string s), none =>
      match bounds? lo hi none s.size s.size with
      | some (l, h, _) => some (.v (.string (s.extract l h)))
      | none => none
    | _, _ => none
  | some (.slice elem) =>
    match E.size elem with
    | none => none
    | some k =>
      match x with
      | .v (.slice none 0 0) => (bounds? lo hi mx 0 0).map fun _ => x
      | .e0 => (bounds? lo hi mx 0 0).map fun _ => x
      | .sl o b n g sz =>
        if k == sz then
          match bounds? lo hi mx n n with
          | some (l, h, m) => if mx.isSome && m == l then some .e0 else some (.sl o (b + l * k) (h - l) g sz)
          | none => none
        else none
      | .lst sz xs =>
        if k == sz then
          match bounds? lo hi mx xs.length xs.length with
          | some (l, h, m) =>
            if mx.isSome then (if m == l then some .e0 else none) else some (.lst sz ((xs.drop l).take (h - l)))
          | none => none
        else none
      | _ => none
  | some (.array n elem) =>
    match E.size elem, x, mx with
    | some k, .ptr o b g e, none =>
      match bounds? lo hi none n n with
      | some (l, h, _) => if n * k ≤ e then some (.sl o (b + l * k) (h - l) g k) else none
      | none => none
    | _, _, _ => none
  | _ => none

/-- The cells of elements. -/
def flatA : List AV → Option (List AV)
  | [] => some []
  | x :: xs => match x.cells? with
    | some cs => (flatA xs).map (cs ++ ·)
    | none => none

/-- How many elements, and their cells, for append and copy. -/
def elemsA (σ : St) (sz : Nat) : AV → Option (Nat × List AV)
  | .v (.slice none 0 0) => some (0, [])
  | .e0 => some (0, [])
  | .v (.string s) => if sz = 1 then some (s.size, s.data.toList.map fun b => .v (.int .u8 b.toNat)) else none
  | .sl o i n g sz' => if sz = sz' then (rdCells σ (.ptr o i g (n * sz)) (n * sz)).map fun cs => (n, cs) else none
  | .lst sz' xs => if sz = sz' then (flatA xs).map fun l => (xs.length, l) else none
  | _ => none

def maxElems : Nat := 140737488355328

/-- Is the second operand of an append a number (append of a make)? -/
def zerosA (E : Env) : List TypeId → Option Bool
  | [] => some false
  | u :: _ => match E.und u with
    | some (.int _) => some true
    | some _ => some false
    | none => none

def appendA (E : Env) (σ : St) (argTypes : List TypeId) (s x : AV) : Option (AV × St) :=
  match argTypes with
  | t :: rest =>
    match E.und t with
    | some (.slice elem) =>
      match E.inf elem with
      | some inf =>
        let sz := inf.size
        let more : Option (Nat × List AV) := match zerosA E rest with
          | some false => elemsA σ sz x
          | some true => match x with
            | .v (.int _ l) => if 0 ≤ l && l ≤ 1048576 then (zeros E elem l.toNat).map fun z => (l.toNat, z) else none
            | _ => none
          | none => none
        match more, inf.zero with
        | some (n, new), some z =>
          if new.length == n * sz && new.all (·.one) && sz != 0 && inf.bytes ≤ 65536 && z.cells.size == sz then
            if n = 0 then
              match s with
              | .v (.slice none 0 0) => some (s, σ)
              | .e0 => some (s, σ)
              | .sl .. => some (s, σ)
              | .lst .. => some (s, σ)
              | _ => none
            else match s with
              | .v (.slice none 0 0) => if n * inf.bytes ≤ maxElems && n ≤ maxElems then some (.sl σ.next 0 n 0 sz, newA σ new) else none
              | .e0 => if n * inf.bytes ≤ maxElems && n ≤ maxElems then some (.sl σ.next 0 n 0 sz, newA σ new) else none
              | .sl o i m g sz' =>
                if sz = sz' && (m + n) * inf.bytes ≤ maxElems && m + n ≤ maxElems then
                  match σ.get o with
                  | some (.cells cs g' mm) =>
                    if mm ≤ g && g ≤ g' && i + m * sz ≤ cs.length then
                      if g = g' && i = 0 && m * sz = cs.length then
                        some (.sl o 0 (m + n) (g' + 1) sz, σ.set o (.cells (cs ++ new) (g' + 1) mm))
                      else if m = 0 then some (.sl σ.next 0 n 0 sz, newA (σ.del o) new)
                      else some (.sl σ.next 0 (m + n) 0 sz, newA (σ.del o) ((cs.drop i).take (m * sz) ++ new))
                    else none
                  | _ => none
                else none
              | _ => none
          else none
        | _, _ => none
      | none => none
    | _ => none
  | [] => none

def copyA (E : Env) (σ : St) (argTypes : List TypeId) (d s : AV) : Option (AV × St) :=
  match argTypes with
  | t :: _ =>
    match E.und t with
    | some (.slice elem) =>
      match E.size elem with
      | some sz =>
        match elemsA σ sz s, d with
        | some (n, cs), .sl o i m g sz' =>
          if sz = sz' && cs.length == n * sz then
            let k := Nat.min n m
            (wrCells σ (.ptr o i g (m * sz)) (cs.take (k * sz))).map fun σ' => (.i k, σ')
          else none
        | some (n, cs), .v (.slice none 0 0) => if cs.length == n * sz then some (.i 0, σ) else none
        | _, _ => none
      | none => none
    | _ => none
  | [] => none

def clearA (E : Env) (σ : St) (argTypes : List TypeId) (x : AV) : Option St :=
  match argTypes with
  | t :: _ =>
    match E.und t with
    | some (.slice elem) =>
      match x with
      | .v (.slice none 0 0) | .e0 | .sl _ _ 0 _ _ => some σ
      | .sl o i n g sz =>
        match zeros E elem n with
        | some z => if z.length == n * sz && E.size elem == some sz then wrCells σ (.ptr o i g (n * sz)) z else none
        | none => none
      | _ => none
    | _ => none
  | [] => none

/-- The first of some keys that is one: as the model looks at plain keys; as it asks otherwise. -/
def findNowK (d : TypeDesc) (k : Value) : List Value → Nat → Option (Option Nat)
  | [], _ => some none
  | x :: xs, i =>
    match Instr.sameNow d k x with
    | some true => some (some i)
    | some false => findNowK d k xs (i + 1)
    | none => none
def findAskK (P : Program) (kt : TypeId) (k : Value) : List Value → Nat → Option (Option Nat)
  | [], _ => some none
  | x :: xs, i =>
    match runA P (Op.equal kt k x) with
    | some true => some (some i)
    | some false => findAskK P kt k xs (i + 1)
    | none => none
def findKeyA (E : Env) (kt : TypeId) (k : Value) (ks : List Value) : Option (Option Nat) :=
  match E.und kt with
  | some d => match findNowK d k ks 0 with
    | some r => some r
    | none => findAskK E.P kt k ks 0
  | none => none

def keysOf (σ : St) : AV → Option (List Value × List AV)
  | .v (.map none) => some ([], [])
  | .lmp ks vs => if ks.length = vs.length then some (ks, vs) else none
  | .mp o => match σ.get o with
    | some (.map es _) => some (es.map (·.key), es.map (·.val))
    | _ => none
  | _ => none

def lookupA (E : Env) (σ : St) (t : TypeId) (x ix : AV) (ok : Bool) : Option AV :=
  match E.und t, ix.exact? with
  | some (.map kt et), some k =>
    match keysOf σ x with
    | some (ks, vs) =>
      match runA E.P (Instr.checkKey ks.isEmpty 10000 kt k), findKeyA E kt k ks with
      | some (), some (some i) => match vs[i]? with
        | some y => some (if ok then .tup [y, .b true] else y)
        | none => none
      | some (), some none => match E.zero et with
        | some z => some (if ok then .tup [.v z, .b false] else .v z)
        | none => none
      | _, _ => none
    | none => none
  | _, _ => none

def setVal (es : List AEntry) (i : Nat) (k : Value) (x : AV) : List AEntry := es.modify i fun e => { e with key := k, val := x }

def mapUpdateA (E : Env) (σ : St) (t : TypeId) (m k x : AV) : Option St :=
  match E.und t, m, k.exact? with
  | some (.map kt _), .mp o, some k =>
    match σ.get o with
    | some (.map es clock) =>
      match runA E.P (Instr.checkKey false 10000 kt k), findKeyA E kt k (es.map (·.key)) with
      | some (), some none => some (σ.set o (.map (es ++ [⟨k, x, clock⟩]) (clock + 1)))
      | some (), some (some i) => match es[i]? with
        | some e => if Instr.sameBits 10000 e.key k then some (σ.set o (.map (setVal es i k x) clock)) else none
        | none => none
      | _, _ => none
    | _ => none
  | _, _, _ => none

def deleteA (E : Env) (σ : St) (argTypes : List TypeId) (m k : AV) : Option St :=
  match argTypes with
  | t :: _ =>
    match E.und t, m, k.exact? with
    | some (.map kt _), .mp o, some k =>
      match σ.get o with
      | some (.map es clock) =>
        match runA E.P (Instr.checkKey (es.map (·.key)).isEmpty 10000 kt k), findKeyA E kt k (es.map (·.key)) with
        | some (), some none => some σ
        | some (), some (some i) => some (σ.set o (.map (es.eraseIdx i) clock))
        | _, _ => none
      | _ => none
    | _, _, _ => none
  | [] => none

def lenA (E : Env) (σ : St) (t : TypeId) (x : AV) : Option AV :=
  match E.und t with
  | some .string => match x with
    | .v (.string s) => some (.i s.size)
    | _ => none
  | some (.slice _) => match x with
    | .v (.slice _ n _) => some (.i n)
    | .e0 => some (.i 0)
    | .sl _ _ n _ _ => some (.i n)
    | .lst _ xs => some (.i xs.length)
    | _ => none
  | some (.array n _) => some (.i n)
  | some (.pointer arr) => match E.und arr with
    | some (.array n _) => some (.i n)
    | _ => none
  | some (.map _ _) => match x with
    | .v (.map none) => some (.i 0)
    | .mp o => match σ.get o with
      | some (.map es _) => some (.i es.length)
      | _ => none
    | .lmp ks _ => some (.i ks.length)
    | _ => none
  | _ => none

/-- Is it the nil of a type; is it surely none? -/
def isNil (d : TypeDesc) (x : AV) : Bool :=
  match d, x with
  | .pointer _, .v (.pointer none) => true
  | .slice _, .v (.slice none 0 0) => true
  | .map _ _, .v (.map none) => true
  | .func _ _ _, .v .nilFunc => true
  | .interface _, .v .nilIface => true
  | _, _ => false
def noNil (d : TypeDesc) (x : AV) : Bool :=
  match d, x with
  | .pointer _, .ptr .. => true
  | .pointer _, .cptr _ => true
  | .slice _, .sl .. => true
  | .slice _, .lst .. => true
  | .slice _, .e0 => true
  | .map _ _, .mp _ => true
  | .map _ _, .lmp _ _ => true
  | .func _ _ _, .fn .. => true
  | .func _ _ _, .yld _ => true
  | .interface _, .ifc _ _ => true
  | _, _ => false

def eqA (E : Env) (op : BinOp) (t : TypeId) (xo yo : Operand) (x y : AV) : Option AV :=
  match x.exact?, y.exact? with
  | some a, some b => (runA E.P (do eqGuard op t xo yo a b; binOp op t a b)).map .v
  | _, _ =>
    match E.und t with
    | some d =>
      if (isNil d x && noNil d y) || (isNil d y && noNil d x) then
        match op with
        | .eql => some (.b false)
        | .neq => some (.b true)
        | _ => none
      else none
    | none => none

/-- The numbers of byte cells. -/
def bytes? : List AV → Option (List Int)
  | [] => some []
  | .v (.int .u8 k) :: xs => (bytes? xs).map (k :: ·)
  | _ => none

def convertA (E : Env) (σ : St) (src dst : TypeId) (x : AV) : Option AV :=
  match E.und src, E.und dst, x with
  | some ds, some (.int _), .v (.int k' n) => match ds with
    | .unsafePointer => none
    | _ => (runA E.P (convert src dst (.int k' n))).map .v
  | some _, some .string, .v (.string s) => some (.v (.string s))
  | some (.slice e), some .string, .sl o i n g sz =>
    match E.und e with
    | some (.int .u8) =>
      if sz = 1 then
        match rdCells σ (.ptr o i g n) n with
        | some cs => (bytes? cs).map fun ns => .v (.string (ns.foldl (fun r k => r.push (UInt8.ofNat k.toNat)) ByteArray.empty))
        | none => none
      else none
    | _ => none
  | some (.slice e), some .string, .v (.slice none 0 0) =>
    match E.und e with
    | some (.int .u8) => some (.v (.string .empty))
    | _ => none
  | _, _, _ => none

def typeAssertA (E : Env) (x : AV) (_xType asserted : TypeId) (ok : Bool) : Option AV :=
  match E.und asserted with
  | some (.interface want) =>
    match x with
    | .v .nilIface => if ok then (E.zero asserted).map fun z => .tup [.v z, .b false] else none
    | .ifc t _ => match E.inf t with
      | some i => match Instr.missingMethod want i.methods with
        | none => some (if ok then .tup [x, .b true] else x)
        | some _ => if ok then (E.zero asserted).map fun z => .tup [.v z, .b false] else none
      | none => none
    | _ => none
  | some _ =>
    match x with
    | .v .nilIface => if ok then (E.zero asserted).map fun z => .tup [.v z, .b false] else none
    | .ifc t y => if t = asserted then some (if ok then .tup [y, .b true] else y) else if ok then (E.zero asserted).map fun z => .tup [.v z, .b false] else none
    | _ => none
  | none => none

/-- What an operation comes to. -/
inductive ANext where
  | val (x : AV)
  | skip
  | call (f : FuncId) (args : List AV)
  | round (o : Nat) (args : List AV)
  | defer (d : ADef)
  | panic (x : AV)

/-- A function value that can be called. -/
def callee? (x : AV) (args : List AV) : Option ANext :=
  match x with
  | .fn f first cap => some (.call f (first ++ args ++ cap))
  | .v (.func (.func f) first cap) => some (.call f (first.toList.map .v ++ args ++ cap.toList.map .v))
  | .yld o => some (.round o args)
  | _ => none

/-- A method of an interface value, where no field leads to it. -/
def methodA (E : Env) (x : AV) (name : String) : Option (FuncId × AV) :=
  match x with
  | .ifc t y =>
    match E.inf t with
    | some i =>
      match i.methods.find? (·.name == name) with
      | some m =>
        if m.path.isEmpty then
          match m.func, E.und t with
          | some (f, true), some (.pointer _) => some (f, y)
          | some (_, false), some (.pointer _) => none
          | some (f, false), some _ => some (f, y)
          | _, _ => none
        else none
      | none => none
    | none => none
  | _ => none

/-- The call of a function: a summary, if there is one. -/
def callA (E : Env) (f : FuncId) (args : List AV) : Option ANext :=
  match E.sum f with
  | some S => (S args).map .val
  | none => match E.fn f with
    | some _ => some (.call f args)
    | none => match E.ext f with
      | some X => (X args).map .val
      | none => none

/-- A function of the model's own, at exact arguments. -/
def extA (P : Program) (e : Array Value → Sem Value) (args : List AV) : Option AV :=
  match AV.exacts? args with
  | some l => (runA P (e l.toArray)).map .v
  | none => none

/-- Three kinds of operations: those that make one new object and look at no memory; those that change nothing; all others. -/
inductive OKind where
  | r | a | w
  deriving DecidableEq

def kindOf (E : Env) (o : Oper) : OKind :=
  match o.op with
  | .alloc _ | .box .. | .buildSlice .. | .makeMap .. | .makeSlice .. => .a
  | .convert _ dst _ => match E.und dst with
    | some (.slice _) => .a
    | _ => .r
  | .store .. | .mapUpdate .. | .insert .. | .defer _ | .panic _ | .go _ | .send .. | .recv .. | .select .. | .next .. | .range .. | .mapEntry .. | .entryStore .. | .ready _ | .waits _ | .makeChan .. => .w
  | .call { callee := .builtin b, .. } => match b with
    | .len | .cap | .max | .min => .r
    | _ => .w
  | .call _ => .w
  | _ => .r

/-- A new object: what it is, and the value that names it. -/
def allocA (E : Env) (a : AFr) (o : Oper) : Option (AObj × (Nat → AV)) :=
  match o.op with
  | .alloc t => match E.zero t with
    | some z => some (.cells (z.cells.toList.map .v) 0 0, fun n => .ptr n 0 0 z.cells.toList.length)
    | none => none
  | .box _ x => match (opd E a x).cells? with
    | some cs => some (.cells cs 0 0, fun n => .ptr n 0 0 cs.length)
    | none => none
  | .buildSlice t len parts =>
    match E.und t with
    | some (.slice elem) =>
      match E.size elem, zeros E elem len with
      | some n, some z =>
        if len * n ≤ 1048576 && z.length == len * n && n != 0 then
          match fillA (fun i => some (i * n, n)) z (parts.toList.map fun (i, x) => (i, opd E a x)) with
          | some cs => some (.cells cs 0 0, fun id => .sl id 0 len 0 n)
          | none => none
        else none
      | _, _ => none
    | _ => none
  | .makeMap _ none => some (.map [] 0, fun n => .mp n)
  | .makeSlice t l c =>
    match E.und t, opd E a l, opd E a c with
    | some (.slice elem), .v (.int _ l), .v (.int _ c) =>
      match E.inf elem with
      | some i =>
        match zeros E elem l.toNat with
        | some z =>
          if 0 ≤ l && l == c && l ≤ 1099511627776 && i.bytes ≤ 65536 && l * i.bytes ≤ 1099511627776 && z.length == l.toNat * i.size then
            some (.cells z 0 0, fun n => .sl n 0 l.toNat 0 i.size)
          else none
        | none => none
      | none => none
    | _, _, _ => none
  | .convert src dst x =>
    match E.und src, E.und dst, opd E a x with
    | some .string, some (.slice e), .v (.string s) =>
      match E.und e with
      | some (.int .u8) => some (.cells (s.data.toList.map fun b => .v (.int .u8 b.toNat)) 0 0, fun n => .sl n 0 s.size 0 1)
      | _ => none
    | _, _, _ => none
  | _ => none

/-- A value; nothing changes. -/
def readA (E : Env) (a : AFr) (σ : St) (o : Oper) : Option AV :=
  match o.op with
  | .move x | .assign x => some (opd E a x)
  | .pick c x y => match opd E a c with
    | .v (.bool b) => some (if b then opd E a x else opd E a y)
    | _ => none
  | .build t parts => buildA E t (parts.toList.map fun (i, x) => (i, opd E a x))
  | .load t x => loadA E σ t (opd E a x)
  | .nilCheck x => match opd E a x with
    | .ptr o i g e => some (.ptr o i g e)
    | .cptr cs => some (.cptr cs)
    | .fn f p c => some (.fn f p c)
    | .ifc t y => some (.ifc t y)
    | .yld o => some (.yld o)
    | _ => none
  | .binOp op t x y _ =>
    match op with
    | .eql | .neq => eqA E op t x y (opd E a x) (opd E a y)
    | _ => match opd E a x, opd E a y with
      | .v p, .v q => (runA E.P (binOp op t p q)).map .v
      | _, _ => none
  | .unOp op _ x => match opd E a x with
    | .v p => (runA E.P (Op.unary op p)).map .v
    | _ => none
  | .convert src dst x => convertA E σ src dst (opd E a x)
  | .makeInterface t x => match E.und t with
    | some (.interface _) => none
    | some _ => some (.ifc t (opd E a x))
    | none => none
  | .makeFunc (.func f) first cap => some (.fn f (first.toList.map (opd E a)) (cap.toList.map (opd E a)))
  | .slice t x lo hi mx => sliceA E t (opd E a x) (lo.map (opd E a)) (hi.map (opd E a)) (mx.map (opd E a))
  | .fieldAddr s x f => fieldAddrA E s (opd E a x) f
  | .field t x f => fieldA E t (opd E a x) f
  | .indexAddr t x i => indexAddrA E t (opd E a x) (opd E a i)
  | .index t x i => indexA E t (opd E a x) (opd E a i)
  | .lookup t x i ok => lookupA E σ t (opd E a x) (opd E a i) ok
  | .typeAssert x t u' ok => typeAssertA E (opd E a x) t u' ok
  | .extract x i => match opd E a x with
    | .tup l => l[i]?
    | _ => none
  | .call { callee := .builtin b, args, argTypes } =>
    match b, args.toList with
    | .len, [x] => match argTypes.toList with
      | t :: _ => lenA E σ t (opd E a x)
      | [] => none
    | .cap, [x] => match opd E a x with
      | .v p => (runA E.P (Builtin.cap_ argTypes o.type #[p])).map .v
      | .e0 => match argTypes.toList with
        | t :: _ => match E.und t with
          | some (.slice _) => some (.i 0)
          | _ => none
        | [] => none
      | _ => none
    | .max, [x, y] => match opd E a x, opd E a y with
      | .v p, .v q => (runA E.P (Builtin.max_ argTypes o.type #[p, q])).map .v
      | _, _ => none
    | .min, [x, y] => match opd E a x, opd E a y with
      | .v p, .v q => (runA E.P (Builtin.min_ argTypes o.type #[p, q])).map .v
      | _, _ => none
    | _, _ => none
  | _ => none

def writeA (E : Env) (a : AFr) (σ : St) (o : Oper) : Option (ANext × St) :=
  let vs (x : Option (AV × St)) : Option (ANext × St) := x.map fun y => (.val y.1, y.2)
  let u (x : Option St) : Option (ANext × St) := x.map fun y => (.skip, y)
  match o.op with
  | .store t x y => u (storeA E σ t (opd E a x) (opd E a y))
  | .mapUpdate t m k x | .insert t m k x => u (mapUpdateA E σ t (opd E a m) (opd E a k) (opd E a x))
  | .panic x => match opd E a x with
    | .ifc t y => some (.panic (.ifc t y), σ)
    | _ => none
  | .defer { callee := .value f, args, .. } =>
    match callee? (opd E a f) (args.toList.map (opd E a)) with
    | some (.call g l) => match E.sum g, E.fn g with
      | none, some _ => some (.defer (.call g l), σ)
      | _, _ => none
    | _ => none
  | .call { callee := .value f, args, .. } =>
    match callee? (opd E a f) (args.toList.map (opd E a)) with
    | some (.call g l) => (callA E g l).map fun n => (n, σ)
    | some (.round l as) => some (.round l as, σ)
    | _ => none
  | .call { callee := .invoke r name, args, .. } =>
    match methodA E (opd E a r) name with
    | some (g, y) => (callA E g (y :: args.toList.map (opd E a))).map fun n => (n, σ)
    | none => none
  | .call { callee := .builtin b, args, argTypes } =>
    match b, args.toList with
    | .append, [s, x] => vs (appendA E σ argTypes.toList (opd E a s) (opd E a x))
    | .copy, [d, s] => vs (copyA E σ argTypes.toList (opd E a d) (opd E a s))
    | .clear, [x] => (clearA E σ argTypes.toList (opd E a x)).map fun σ' => (.val (.v (.tuple #[])), σ')
    | .delete, [m, k] => (deleteA E σ argTypes.toList (opd E a m) (opd E a k)).map fun σ' => (.val (.v (.tuple #[])), σ')
    | .panic, [x] => match opd E a x with
      | .ifc t y => some (.panic (.ifc t y), σ)
      | _ => none
    | _, _ => none
  | _ => none

def opA (E : Env) (a : AFr) (σ : St) (o : Oper) : Option (ANext × St) :=
  match kindOf E o with
  | .r => (readA E a σ o).map fun x => (.val x, σ)
  | .a => (allocA E a o).map fun p => (.val (p.2 σ.next), σ.add p.1)
  | .w => writeA E a σ o

inductive AEnd where
  | ret (x : AV)
  | panic (x : AV)

inductive AExit where
  | normal
  | exit (id : Nat)
  | goto (l : Nat)
  | ret
  | panic (x : AV)

/-- On the way out: returning, or panicking (recovered, or not). -/
inductive AMode where
  | ret
  | pan (x : AV) (recovered : Bool)

/-- How calls, rounds and deferred calls are evaluated. -/
structure Kont where
  call : FuncId → List AV → St → Option (AEnd × St)
  round : Nat → List AV → St → Option (AEnd × St)
  dcall : FuncId → List AV → AMode → St → Option (AMode × St)

/-- What an operation's outcome makes of the activation. -/
def uponA (K : Kont) (a : AFr) (d : Option Tmp) : ANext × St → Option (Option AV × AFr × St)
  | (.val x, σ) => (a.put d x).map fun a' => (none, a', σ)
  | (.skip, σ) => (a.put d (.v undef)).map fun a' => (none, a', σ)
  | (.defer df, σ) => ({ a with df := df :: a.df }.put d (.v undef)).map fun a' => (none, a', σ)
  | (.call f args, σ) => match K.call f args σ with
    | some (.ret x, σ') => (a.put d x).map fun a' => (none, a', σ')
    | some (.panic x, σ') => some (some x, a, σ')
    | none => none
  | (.round l args, σ) => match K.round l args σ with
    | some (.ret x, σ') => (a.put d x).map fun a' => (none, a', σ')
    | some (.panic x, σ') => some (some x, a, σ')
    | none => none
  | (.panic x, σ) => some (some x, a, σ)

/-- Does an operation's guard let it run? -/
def wantedA (ops : Array Oper) (a : AFr) (o : Oper) : Option Bool :=
  match o.guard with
  | none => some true
  | some (j, want) =>
    match (ops[j]?).bind (·.dst) with
    | some d => match a.get d with
      | .v (.bool b) => some (b == want)
      | .v _ => some false
      | _ => none
    | none => some false

def oneA (K : Kont) (E : Env) (ops : Array Oper) (a : AFr) (σ : St) (o : Oper) : Option (Option AV × AFr × St) :=
  match wantedA ops a o with
  | some true => match opA E a σ o with
    | some r => uponA K a o.dst r
    | none => none
  | some false => (a.put o.dst (.v undef)).map fun a' => (none, a', σ)
  | none => none

/-- Operations one after the other. -/
def opsA (K : Kont) (E : Env) (ops : Array Oper) : List Oper → AFr → St → Option (AExit × AFr × St)
  | [], a, σ => some (.normal, a, σ)
  | o :: rest, a, σ =>
    match oneA K E ops a σ o with
    | some (none, a', σ') => opsA K E ops rest a' σ'
    | some (some x, a', σ') => some (.panic x, a', σ')
    | none => none

/- A region whose order is open. -/

/-- An operation of a region: its number, itself, the earlier ones as bits. -/
structure DOp where
  i : Nat
  o : Oper
  bef : Nat

def befOf (acc : List Nat) (o : Oper) : Nat := o.after.toList.foldl (fun b e => if Region.binds .any e then (b ||| 2 ^ e.on) ||| acc.getD e.on 0 else b) 0

def dopsGo : List Oper → Nat → List Nat → List DOp
  | [], _, _ => []
  | o :: rest, i, acc => ⟨i, o, befOf acc o⟩ :: dopsGo rest (i + 1) (acc ++ [befOf acc o])

def dops (ops : Array Oper) : List DOp := dopsGo ops.toList 0 []

/-- Every operation that writes is done as early as it may be. -/
def eager (E : Env) (all : List DOp) : List DOp → Nat → List DOp
  | [], done => all.filter fun d => !done.testBit d.i
  | w :: rest, done =>
    if (kindOf E w.o == .w) && !done.testBit w.i then
      let now := all.filter fun d => w.bef.testBit d.i && !done.testBit d.i
      now ++ w :: eager E all rest (done ||| w.bef ||| 2 ^ w.i)
    else eager E all rest done

def nodupB : List Nat → Bool
  | [] => true
  | x :: xs => !xs.contains x && nodupB xs

/-- Is there a deferred call? -/
def hasDefer (ops : Array Oper) : Bool := ops.toList.any fun o => match o.op with
  | .defer _ => true
  | _ => false

/-- No two operations of a region yield into one place; nothing is deferred. -/
def drawOk (ops : Array Oper) (all : List DOp) : Bool := !hasDefer ops && nodupB (all.filterMap (·.o.dst))

/-- Nothing tells which of two operations comes first. -/
def unord (d c : DOp) : Bool := c.i != d.i && !d.bef.testBit c.i && !c.bef.testBit d.i

/-- What an operation sees: nothing of what may or may not be done. -/
def dim (d : DOp) : List DOp → AFr → AFr
  | [], a => a
  | c :: rest, a => match c.o.dst with
    | some t => if unord d c then (dim d rest a).set t .top else dim d rest a
    | none => dim d rest a

/-- What has been done in a region. -/
inductive Past where
  | made (i id : Nat) (x : AObj)
  | wrote (i : Nat) (τ : St)
  | other

def chk (E : Env) (b : AFr) (d : DOp) (x : AV) (τ : St) (adds : List (Nat × AObj)) : Bool :=
  match readA E b (adds.foldl (fun σ p => σ.set p.1 p.2) τ) d.o with
  | some y => x.beq y
  | none => false

/-- The same value in all states in which an operation can come to be done. -/
def sameIn (E : Env) (b : AFr) (d : DOp) (x : AV) (σ0 : St) : List Past → List (Nat × AObj) → Bool
  | [], adds => chk E b d x σ0 adds
  | .made i id y :: rest, adds => sameIn E b d x σ0 rest (if d.bef.testBit i then (id, y) :: adds else adds)
  | .wrote i τ :: rest, adds => chk E b d x τ adds && (d.bef.testBit i || sameIn E b d x σ0 rest adds)
  | .other :: rest, adds => sameIn E b d x σ0 rest adds

def topped (all : List DOp) (a : AFr) : AFr := all.foldl (fun b c => match c.o.dst with | some t => b.set t .top | none => b) a

def drawA (K : Kont) (E : Env) (ops : Array Oper) (all : List DOp) (σ0 : St) : List DOp → Nat → List Past → AFr → St → Option (AExit × AFr × St)
  | [], done, _, a, σ => if all.all fun d => done.testBit d.i then some (.normal, a, σ) else none
  | d :: rest, done, past, a, σ =>
    if done.testBit d.i || (d.bef &&& done) != d.bef then none else
    let b := dim d all a
    match wantedA ops b d.o with
    | none => none
    | some false => match a.put d.o.dst (.v undef) with
      | some a' => drawA K E ops all σ0 rest (done ||| 2 ^ d.i) (.other :: past) a' σ
      | none => none
    | some true =>
      match kindOf E d.o with
      | .a => match allocA E b d.o with
        | some (x, f) => match a.put d.o.dst (f σ.next) with
          | some a' => drawA K E ops all σ0 rest (done ||| 2 ^ d.i) (.made d.i σ.next x :: past) a' (σ.add x)
          | none => none
        | none => none
      | .r => match readA E b σ d.o with
        | some x =>
          if sameIn E b d x σ0 past [] then
            match a.put d.o.dst x with
            | some a' => drawA K E ops all σ0 rest (done ||| 2 ^ d.i) (.other :: past) a' σ
            | none => none
          else none
        | none => none
      | .w =>
        if done != d.bef then none else
        match oneA K E ops b σ d.o with
        | some (none, b', σ') =>
          if σ.next ≤ σ'.next && b'.df.length == a.df.length then
            match a.put d.o.dst (match d.o.dst with | some t => b'.get t | none => .top) with
            | some a' => drawA K E ops all σ0 rest (done ||| 2 ^ d.i) (.wrote d.i σ' :: past) a' σ'
            | none => none
          else none
        | some (some x, _, σ') =>
          if all.all (fun c => !unord d c) then some (.panic x, topped all a, σ') else none
        | none => none

def regionA (K : Kont) (E : Env) (ops : Array Oper) (a : AFr) (σ : St) : Option (AExit × AFr × St) :=
  let ds := dops ops
  if drawOk ops ds then drawA K E ops ds σ (eager E ds ds 0) 0 [] a σ else none

/- Code. -/

def iterA (f : AFr → St → Option (AExit × AFr × St)) : Nat → AFr → St → Option (AExit × AFr × St)
  | 0, _, _ => none
  | n + 1, a, σ => match f a σ with
    | some (.normal, a', σ') => iterA f n a' σ'
    | r => r

def getLoop? (σ : St) (l : Nat) : Option ALoop :=
  match σ.get l with
  | some (.loop r) => some r
  | _ => none

def jumpA : Code → Option AExit
  | .ret => some .ret
  | .exit id => some (.exit id)
  | .goto l => some (.goto l)
  | _ => none

def rangeA (K : Kont) (E : Env) (ro : Option Nat) (f : Operand) (ps : Array Tmp) (assign body : Code) (a : AFr) (σ : St) : Option (AExit × AFr × St) :=
  let enter : Option (Nat × AFr × St) := match ro with
    | none => some (σ.next + 1, { a with df := .mark σ.next :: a.df },
        (σ.add (.dfr false)).add (.loop { state := .ready, pending := none, tm := a, params := ps.toList, assign, body, dfr := σ.next }))
    | some l₀ => match getLoop? σ l₀ with
      | some r => some (σ.next, a, σ.add (.loop { state := .ready, pending := none, tm := a, params := ps.toList, assign, body, dfr := r.dfr }))
      | none => none
  match enter with
  | none => none
  | some (l, a', σ') =>
    match callee? (opd E a f) [.yld l] with
    | some (.call g args) =>
      match E.sum g, E.fn g with
      | none, some _ =>
        match K.call g args σ' with
        | some (.ret _, σ₂) =>
          match getLoop? σ₂ l with
          | some r =>
            if r.state == .busy then none else
            let σ₃ := σ₂.set l (.loop { r with state := .exhausted })
            match r.pending with
            | none => some (.normal, a', σ₃)
            | some c => (jumpA c).map fun e => (e, a', σ₃)
          | none => none
        | some (.panic x, σ₂) => some (.panic x, a', σ₂)
        | none => none
      | _, _ => none
    | _ => none

def codeA (K : Kont) (E : Env) (N : Nat) (ro : Option Nat) : Code → AFr → St → Option (AExit × AFr × St)
  | .skip, a, σ => some (.normal, a, σ)
  | .label _, a, σ => some (.normal, a, σ)
  | .region _ ops false, a, σ => if ro.isSome && hasDefer ops then none else opsA K E ops ops.toList a σ
  | .region _ ops true, a, σ => regionA K E ops a σ
  | .seq x y, a, σ => match codeA K E N ro x a σ with
    | some (.normal, a', σ') => codeA K E N ro y a' σ'
    | r => r
  | .cond c x y, a, σ => match opd E a c with
    | .v (.bool true) => codeA K E N ro x a σ
    | .v (.bool false) => codeA K E N ro y a σ
    | _ => none
  | .block id c, a, σ => match codeA K E N ro c a σ with
    | some (.exit id', a', σ') => some (if id' = id then .normal else .exit id', a', σ')
    | r => r
  | .loop c, a, σ => iterA (codeA K E N ro c) N a σ
  | .exit id, a, σ => some (.exit id, a, σ)
  | .goto l, a, σ => some (.goto l, a, σ)
  | .ret, a, σ => some (.ret, a, σ)
  | .rangeFunc f ps assign body, a, σ => rangeA K E ro f ps assign body a σ
  | .scope c, a, σ => match codeA K E N ro c a σ with
    | some (.goto _, _, _) => none
    | r => r
  | .refuse _, _, _ => none

def resultsA (E : Env) (σ : St) (a : AFr) : List ResultVar → Option (List AV)
  | [] => some []
  | .tmp t :: rest => (resultsA E σ a rest).map (a.get t :: ·)
  | .cell c t :: rest => match loadA E σ t (a.get c) with
    | some x => (resultsA E σ a rest).map (x :: ·)
    | none => none

def resultA (E : Env) (σ : St) (a : AFr) (fn : Func) : Option AV :=
  match resultsA E σ a fn.results.toList with
  | some [x] => some x
  | some l => some (.tup l)
  | none => none

def settleA : AMode → AMode
  | .pan _ true => .ret
  | m => m

def leaveA (K : Kont) (E : Env) (fn : Func) (a : AFr) : List ADef → AMode → St → Option (AEnd × St)
  | [], .ret, σ => (resultA E σ a fn).map fun x => (.ret x, σ)
  | [], .pan x false, σ => some (.panic x, σ)
  | [], .pan _ true, _ => none
  | .mark o :: ds, m, σ => match σ.get o with
    | some (.dfr false) => leaveA K E fn a ds m (σ.set o (.dfr true))
    | _ => none
  | .call f args :: ds, m, σ => match K.dcall f args m σ with
    | some (m', σ') => leaveA K E fn a ds (settleA m') σ'
    | none => none

def fillArgs : List AV → Nat → Tr AV → Tr AV
  | [], _, t => t
  | x :: xs, i, t => fillArgs xs (i + 1) (t.put (i + 1) i (some x))

def frame0 (fn : Func) (args : List AV) : AFr := ⟨fillArgs args 0 .nil, max args.length fn.ntmps, []⟩

def callBody (K : Kont) (E : Env) (N : Nat) (f : FuncId) (args : List AV) (σ : St) : Option (AEnd × St) :=
  match E.fn f with
  | some fn => match fn.body with
    | some c => match codeA K E N none c (frame0 fn args) σ with
      | some (.normal, a, σ') => leaveA K E fn a a.df .ret σ'
      | some (.ret, a, σ') => leaveA K E fn a a.df .ret σ'
      | some (.panic x, a, σ') => leaveA K E fn a a.df (.pan x false) σ'
      | _ => none
    | none => none
  | none => none

def setParams : List Tmp → List AV → AFr → Option AFr
  | [], [], a => some a
  | t :: ts, x :: xs, a => if t < a.n then setParams ts xs (a.set t x) else none
  | _, _, _ => none

def roundBody (K : Kont) (E : Env) (N : Nat) (l : Nat) (args : List AV) (σ : St) : Option (AEnd × St) :=
  match getLoop? σ l with
  | some r => match setParams r.params args { r.tm with df := [] } with
    | some a => match codeA K E N (some l) r.assign a σ with
      | some (.normal, a₁, σ₁) =>
        match getLoop? σ₁ l with
        | some r₁ =>
          if r₁.state == .ready then
            match codeA K E N (some l) r.body a₁ (σ₁.set l (.loop { r₁ with state := .busy })) with
            | some (e, a₂, σ₂) =>
              if !a₂.df.isEmpty then none else
              match e with
              | .panic _ => none
              | e => match getLoop? σ₂ l with
                | some r₂ =>
                  let jump : Option Code := match e with
                    | .ret => some .ret
                    | .exit id => some (.exit id)
                    | .goto t => some (.goto t)
                    | _ => none
                  some (.ret (.b jump.isNone), σ₂.set l (.loop { r₂ with state := if jump.isNone then .ready else .done, pending := jump }))
                | none => none
            | none => none
          else none
        | none => none
      | _ => none
    | none => none
  | none => none

/-- A deferred function's operations: `recover` looks at the mode of the frame that leaves. -/
def opsS (E : Env) (ops : Array Oper) : List Oper → AFr → AMode → St → Option (AExit × AFr × AMode × St)
  | [], a, m, σ => some (.normal, a, m, σ)
  | o :: rest, a, m, σ =>
    match wantedA ops a o with
    | some false => match a.put o.dst (.v undef) with
      | some a' => opsS E ops rest a' m σ
      | none => none
    | some true =>
      match o.op with
      | .call { callee := .builtin .recover, .. } =>
        match m with
        | .pan x false => match a.put o.dst x with
          | some a' => opsS E ops rest a' (.pan x true) σ
          | none => none
        | _ => match a.put o.dst (.v .nilIface) with
          | some a' => opsS E ops rest a' m σ
          | none => none
      | _ =>
        if kindOf E o = .w then none else
        match opA E a σ o with
        | some (.val x, σ') => match a.put o.dst x with
          | some a' => opsS E ops rest a' m σ'
          | none => none
        | _ => none
    | none => none

def hasRecover (ops : Array Oper) : Bool := ops.toList.any fun o => match o.op with
  | .call { callee := .builtin .recover, .. } => true
  | _ => false

def codeS (K : Kont) (E : Env) (N : Nat) : Code → AFr → AMode → St → Option (AExit × AFr × AMode × St)
  | .seq x y, a, m, σ => match codeS K E N x a m σ with
    | some (.normal, a', m', σ') => codeS K E N y a' m' σ'
    | r => r
  | .cond c x y, a, m, σ => match opd E a c with
    | .v (.bool true) => codeS K E N x a m σ
    | .v (.bool false) => codeS K E N y a m σ
    | _ => none
  | .region id ops false, a, m, σ =>
    if hasRecover ops then opsS E ops ops.toList a m σ
    else (codeA K E N none (.region id ops false) a σ).map fun r => (r.1, r.2.1, m, r.2.2)
  | c, a, m, σ => (codeA K E N none c a σ).map fun r => (r.1, r.2.1, m, r.2.2)

def dcallBody (K : Kont) (E : Env) (N : Nat) (f : FuncId) (args : List AV) (m : AMode) (σ : St) : Option (AMode × St) :=
  match E.fn f with
  | some fn => match fn.body with
    | some c => match codeS K E N c (frame0 fn args) m σ with
      | some (e, a, m', σ') =>
        if a.df.isEmpty && fn.results.isEmpty then
          match e with
          | .normal => some (m', σ')
          | .ret => some (m', σ')
          | _ => none
        else none
      | none => none
    | none => none
  | none => none

def evalK (E : Env) (N : Nat) : Nat → Kont
  | 0 => ⟨fun _ _ _ => none, fun _ _ _ => none, fun _ _ _ _ => none⟩
  | n + 1 => ⟨callBody (evalK E N n) E N, roundBody (evalK E N n) E N, dcallBody (evalK E N n) E N⟩

end Go.Ai
