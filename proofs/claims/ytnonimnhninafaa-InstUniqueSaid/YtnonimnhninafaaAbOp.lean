/- The operations on trees: what each yields, as plain functions. -/
import Derived.Test.YtnonimnhninafaaAbRel
namespace Go.Proofs.Ytnonimnhninafaa.Ab
open Go
set_option linter.unusedVariables false
set_option linter.unusedSimpArgs false

inductive TyK where
  | bool
  | int (k : IntKind)
  | str
  | ptr (e : TypeId)
  | slice (e : TypeId)
  | array (n : Nat) (e : TypeId)
  | struct (offs : List Nat) (tys : List TypeId)
  | func
  | tuple
  | other
  deriving Inhabited

structure TyI where
  kind : TyK
  size : Nat
  bytes : Nat
  zero : Tr
  deriving Inhabited

def TyK.isAgg : TyK → Bool
  | .array _ _ => true
  | .struct _ _ => true
  | _ => false

abbrev Tab := TypeId → Option TyI

def Tr.constVal : Tr → Value
  | .int k n => .int k n
  | .bool b => .bool b
  | .str s => .string s
  | .nilp => .pointer none
  | .nils => .slice none 0 0
  | .nilf => .nilFunc
  | _ => undef

def Tr.isConst : Tr → Bool
  | .int _ _ => true
  | .bool _ => true
  | .str _ => true
  | .nilp => true
  | .nils => true
  | .nilf => true
  | _ => false

/-- May a tree lie in a cell, or in an aggregate's part? -/
def Tr.good : Tr → Bool
  | .any => false
  | .tup _ => false
  | _ => true

structure TyOK (P : Program) (t : TypeId) (i : TyI) : Prop where
  info : ∃ inf, P.info? t = some inf ∧ inf.size = i.size ∧ inf.bytes = i.bytes ∧
    (i.zero.good = true → i.zero.wf ∧ i.zero.size = i.size ∧ i.zero.isAgg = i.kind.isAgg ∧ (∀ l ∈ i.zero.leaves, l.isConst = true) ∧ ∃ z, inf.zero = some z ∧ z.cells.toList = i.zero.leaves.map Tr.constVal)
  und : match i.kind with
    | .bool => P.underlying t = some .bool
    | .int k => P.underlying t = some (.int k)
    | .str => P.underlying t = some .string
    | .ptr e => P.underlying t = some (.pointer e)
    | .slice e => P.underlying t = some (.slice e)
    | .array n e => P.underlying t = some (.array n e) ∧ P.eqGuardType P.depth t = false
    | .struct offs tys => ∃ fs, P.underlying t = some (.struct fs) ∧ fs.toList.map (·.offset) = offs ∧ fs.toList.map (·.type) = tys ∧
        P.stoodInHeld t = false ∧ (∀ f ∈ fs.toList, f.name ≠ "_") ∧ P.eqGuardType P.depth t = false
    | .func => ∃ a b c, P.underlying t = some (.func a b c)
    | .tuple => ∃ a, P.underlying t = some (.tuple a)
    | .other => ∃ d, P.underlying t = some d ∧ d.isRow = false

def TabOK (P : Program) (Θ : Tab) : Prop := ∀ t i, Θ t = some i → TyOK P t i

def ofConst : Value → Tr
  | .int k n => .int k n
  | .bool b => .bool b
  | .string s => .str s
  | .pointer a => if a.isNone = true then .nilp else .any
  | .slice a l c => if a.isNone = true ∧ l = 0 ∧ c = 0 then .nils else .any
  | .nilFunc => .nilf
  | .func (.func f) first caps => if first.size = 0 ∧ caps.size = 0 then .clo f [] else .any
  | _ => .any

def rdOp (T : Nat → Tr) : Operand → Tr
  | .tmp t => T t
  | .const v => ofConst v
  | .global _ => .any
  | .func f => .clo f []

/-- What an operation yields, and the object that it makes or turns. -/
structure Eff where
  val : Tr
  hu : Option (Nat × Nat × AObj) := none

def Eff.heap (f : Eff) (H : Heap) : Heap :=
  match f.hu with
  | none => H
  | some (d, x) => upd H d x

def bitOf (op : BinOp) (k : IntKind) (x y : Int) : Int :=
  match op with
  | .and => k.wrap ((BitVec.ofInt k.bits x &&& BitVec.ofInt k.bits y).toNat)
  | .or => k.wrap ((BitVec.ofInt k.bits x ||| BitVec.ofInt k.bits y).toNat)
  | .xor => k.wrap ((BitVec.ofInt k.bits x ^^^ BitVec.ofInt k.bits y).toNat)
  | _ => k.wrap ((BitVec.ofInt k.bits x &&& ~~~ BitVec.ofInt k.bits y).toNat)

def aInt (op : BinOp) (k : IntKind) (x y : Int) : Option Tr :=
  match op with
  | .add => some (.int k (k.wrap (x + y)))
  | .sub => some (.int k (k.wrap (x - y)))
  | .mul => some (.int k (k.wrap (x * y)))
  | .quo => if y = 0 then none else some (.int k (k.wrap (x.tdiv y)))
  | .rem => if y = 0 then none else some (.int k (x.tmod y))
  | .and => some (.int k (bitOf .and k x y))
  | .or => some (.int k (bitOf .or k x y))
  | .xor => some (.int k (bitOf .xor k x y))
  | .andNot => some (.int k (bitOf .andNot k x y))
  | .eql => some (.bool (x == y))
  | .neq => some (.bool (x != y))
  | .lss => some (.bool (decide (x < y)))
  | .leq => some (.bool (decide (x ≤ y)))
  | .gtr => some (.bool (decide (x > y)))
  | .geq => some (.bool (decide (x ≥ y)))
  | .shl => none
  | .shr => none

def aShift (op : BinOp) (k : IntKind) (x y : Int) : Option Tr :=
  if y < 0 then none else
    match op with
    | .shl => some (.int k (k.wrap (x * 2 ^ (min y.toNat k.bits))))
    | .shr => some (.int k (x.fdiv (2 ^ (min y.toNat k.bits))))
    | _ => none

def aStr (op : BinOp) (x y : ByteArray) : Option Tr :=
  match op with
  | .add => if ((x.size + y.size : Nat) : Int) > IntKind.i64.max then none else some (.str (x ++ y))
  | .eql => some (.bool (x.toList == y.toList))
  | .neq => some (.bool (!(x.toList == y.toList)))
  | .lss => some (.bool (Op.bytesLess x.toList y.toList))
  | .leq => some (.bool (Op.bytesLess x.toList y.toList || x.toList == y.toList))
  | .gtr => some (.bool (!(Op.bytesLess x.toList y.toList || x.toList == y.toList)))
  | .geq => some (.bool (!(Op.bytesLess x.toList y.toList)))
  | _ => none

/-- '==' of two trees of a type, by the type's shape. -/
def eqT (Θ : Tab) : Nat → TypeId → Tr → Tr → Option Bool
  | 0, _, _, _ => none
  | n + 1, t, x, y =>
    match Θ t with
    | none => none
    | some i =>
      match i.kind, x, y with
      | .bool, .bool a, .bool b => some (a == b)
      | .int _, .int k a, .int k' b => if k = k' then some (a == b) else none
      | .str, .str a, .str b => some (a == b)
      | .struct offs tys, .node _ ox xs, .node _ oy ys => if ox = offs ∧ oy = offs then eqL n tys xs ys else none
      | .array m e, .arr sx xs, .arr sy ys =>
        match Θ e with
        | some ie => if sx = ie.size ∧ sy = ie.size ∧ xs.length = m ∧ ys.length = m then eqL n (List.replicate m e) xs ys else none
        | none => none
      | _, _, _ => none
where
  eqL (n : Nat) : List TypeId → List Tr → List Tr → Option Bool
    | [], [], [] => some true
    | t :: ts, x :: xs, y :: ys =>
      match Θ t, eqT Θ n t x y with
      | some i, some b => if x.size = i.size ∧ y.size = i.size then
          match eqL n ts xs ys with
          | some r => some (b && r)
          | none => none
        else none
      | _, _ => none
    | _, _, _ => none

/-- How deep types are looked into. -/
def eqDepth : Nat := 20

def aEq (Θ : Tab) (t : TypeId) (x y : Tr) : Option Bool :=
  match x, y with
  | .bool a, .bool b => match Θ t with
    | some i => match i.kind with
      | .bool => some (a == b)
      | _ => none
    | none => none
  | .nils, .nils => match Θ t with
    | some i => match i.kind with
      | .slice _ => some true
      | _ => none
    | none => none
  | .own _ _ _ 0, .nils => none
  | .own d g lo (len + 1), .nils => none
  | .node _ _ _, .node _ _ _ => eqT Θ eqDepth t x y
  | .arr _ _, .arr _ _ => eqT Θ eqDepth t x y
  | _, _ => none

def aBin (Θ : Tab) (op : BinOp) (t : TypeId) (x y : Tr) : Option Tr :=
  match op, x, y with
  | .shl, .int k a, .int _ b => aShift .shl k a b
  | .shr, .int k a, .int _ b => aShift .shr k a b
  | op, .int k a, .int k' b => if k = k' then aInt op k a b else none
  | op, .str a, .str b => aStr op a b
  | .eql, x, y => (aEq Θ t x y).map Tr.bool
  | .neq, x, y => (aEq Θ t x y).map fun b => Tr.bool (!b)
  | _, _, _ => none

def aUn (op : UnOp) (x : Tr) : Option Tr :=
  match op, x with
  | .not, .bool b => some (.bool (!b))
  | .neg, .int k n => some (.int k (k.wrap (0 - n)))
  | .xor, .int k n => some (.int k (bitOf .xor k (if k.signed then -1 else k.max) n))
  | _, _ => none

def aConv (Θ : Tab) (src dst : TypeId) (x : Tr) : Option Tr :=
  match Θ dst, x with
  | some i, .int _ n => match i.kind with
    | .int k => some (.int k (k.wrap n))
    | _ => none
  | some i, .str s => match i.kind with
    | .str => some (.str s)
    | _ => none
  | _, _ => none

def setParts (place : Nat → Option (Nat × Nat)) : List (Nat × Tr) → Tr → Option Tr
  | [], t => some t
  | (i, x) :: ps, t =>
    match place i, Tr.atF 0 [i] t with
    | some (off, size), some (o, u) => if x.size = size ∧ u.size = size ∧ o = off ∧ x.good = true then match Tr.setF [i] x t with
        | some t' => setParts place ps t'
        | none => none
      else none
    | _, _ => none

def sizesOf (Θ : Tab) : List TypeId → Option (List Nat)
  | [] => some []
  | t :: ts => match Θ t, sizesOf Θ ts with
    | some i, some l => some (i.size :: l)
    | _, _ => none

def placeOf (offs szs : List Nat) (j : Nat) : Option (Nat × Nat) :=
  match offs[j]?, szs[j]? with
  | some o, some s => some (o, s)
  | _, _ => none

def aBuild (Θ : Tab) (i : TyI) (ps : List (Nat × Tr)) : Option Tr :=
  match i.kind with
  | .struct offs tys => match sizesOf Θ tys with
    | some szs => setParts (placeOf offs szs) ps i.zero
    | none => none
  | .array _ e => match Θ e with
    | some ei => setParts (fun j => some (j * ei.size, ei.size)) ps i.zero
    | none => none
  | _ => none

def setElems (sz : Nat) : List (Nat × Tr) → List Tr → Option (List Tr)
  | [], xs => some xs
  | (i, x) :: ps, xs => if i < xs.length ∧ x.size = sz ∧ x.good = true then setElems sz ps (xs.set i x) else none

/-- What lies at an address of the call's own memory, or of memory that never changes. -/
def aAt (H : Heap) (x : Tr) : Option Tr :=
  match x with
  | .iptr y => some y
  | .ptr d g p off =>
    if (H d).1 = g then
      match (H d).2, p with
      | .cells t, p => match Tr.atF 0 p t with
        | some (o, u) => if o = off then some u else none
        | none => none
      | .row _ sz xs, i :: p => match xs[i]? with
        | some y => match Tr.atF (i * sz) p y with
          | some (o, u) => if o = off then some u else none
          | none => none
        | none => none
      | _, _ => none
    else none
  | _ => none

def aPut (H : Heap) (x new : Tr) : Option (Nat × Nat × AObj) :=
  match x with
  | .ptr d g p _ =>
    match (H d).2, p with
    | .cells t, p => (Tr.setF p new t).map fun t' => (d, g, .cells t')
    | .row e sz xs, i :: p => match xs[i]? with
      | some y => (Tr.setF p new y).map fun y' => (d, g, .row e sz (xs.set i y'))
      | none => none
    | _, _ => none
  | _ => none

def aLoad (Θ : Tab) (H : Heap) (t : TypeId) (x : Tr) : Option Tr :=
  match Θ t, aAt H x with
  | some i, some u => if u.size = i.size ∧ u.isAgg = i.kind.isAgg ∧ u.good = true then some u else none
  | _, _ => none

def aStore (Θ : Tab) (H : Heap) (t : TypeId) (x new : Tr) : Option Eff :=
  match Θ t, aAt H x with
  | some i, some u => if u.size = i.size ∧ new.size = i.size ∧ new.good = true then
      match aPut H x new with
      | some h => some ⟨.any, some h⟩
      | none => none
    else none
  | _, _ => none

def aFieldAddr (Θ : Tab) (H : Heap) (t : TypeId) (x : Tr) (f : Nat) : Option Tr :=
  match Θ t with
  | some i => match i.kind with
    | .struct offs tys => match offs[f]?, tys[f]? with
      | some o, some tf => match Θ tf with
        | some ti => if ti.size = 0 then none else
          match x with
          | .ptr d g p off => if (H d).1 = g then some (.ptr d g (p ++ [f]) (off + o)) else none
          | .iptr (.node _ os xs) => if os = offs then (xs[f]?).map Tr.iptr else none
          | _ => none
        | none => none
      | _, _ => none
    | _ => none
  | none => none

def aField (Θ : Tab) (t : TypeId) (x : Tr) (f : Nat) : Option Tr :=
  match Θ t with
  | some i => match i.kind, x with
    | .struct offs tys, .node _ os xs => match tys[f]?, xs[f]? with
      | some tf, some y => match Θ tf with
        | some ti => if os = offs ∧ y.size = ti.size ∧ y.isAgg = ti.kind.isAgg ∧ y.good = true then some y else none
        | none => none
      | _, _ => none
    | _, _ => none
  | none => none

def aIndexAddr (Θ : Tab) (H : Heap) (t : TypeId) (x i : Tr) : Option Tr :=
  match Θ t, i with
  | some ti, .int _ n => match ti.kind with
    | .slice e => match Θ e with
      | some ei => match x with
        | .sl sz xs => if sz = ei.size ∧ 0 ≤ n then (xs[n.toNat]?).map Tr.iptr else none
        | .own d g lo len => match H d with
          | (g', .row _ sz xs) => if g' = g ∧ sz = ei.size ∧ 0 ≤ n ∧ n < len ∧ lo + len ≤ xs.length then some (.ptr d g [lo + n.toNat] ((lo + n.toNat) * sz)) else none
          | _ => none
        | _ => none
      | none => none
    | .array m e => match Θ e with
      | some ei => match x with
        | .ptr d g p off => if (H d).1 = g ∧ 0 ≤ n ∧ n < m then some (.ptr d g (p ++ [n.toNat]) (off + n.toNat * ei.size)) else none
        | .iptr (.arr sz xs) => if sz = ei.size ∧ 0 ≤ n ∧ n < m then (xs[n.toNat]?).map Tr.iptr else none
        | _ => none
      | none => none
    | _ => none
  | _, _ => none

def aIndex (Θ : Tab) (t : TypeId) (x i : Tr) : Option Tr :=
  match Θ t, x, i with
  | some ti, .str s, .int _ n => match ti.kind with
    | .str => if 0 ≤ n then (s[n.toNat]?).map fun b => .int .u8 b.toNat else none
    | _ => none
  | some ti, .arr sz xs, .int _ n => match ti.kind with
    | .array m e => match Θ e, xs[n.toNat]? with
      | some ei, some y => if sz = ei.size ∧ 0 ≤ n ∧ n < m ∧ y.isAgg = ei.kind.isAgg ∧ y.good = true then some y else none
      | _, _ => none
    | _ => none
  | _, _, _ => none

/-- A bound of a cut: a number, or what stands for none. -/
def aBound (x : Option Tr) (dflt : Int) : Option Int :=
  match x with
  | none => some dflt
  | some (.int _ n) => some n
  | _ => none

def aSlice (Θ : Tab) (H : Heap) (t : TypeId) (x : Tr) (lo hi : Option Tr) : Option Tr :=
  match Θ t with
  | some ti => match ti.kind, x with
    | .str, .str s => match aBound lo 0, aBound hi s.size with
      | some l, some h => if 0 ≤ l ∧ l ≤ h ∧ h ≤ s.size then some (.str (s.extract l.toNat h.toNat)) else none
      | _, _ => none
    | .slice e, .sl sz xs => match Θ e, aBound lo 0, aBound hi xs.length with
      | some ei, some l, some h => if sz = ei.size ∧ 0 ≤ l ∧ l ≤ h ∧ h ≤ xs.length then some (.sl sz ((xs.take h.toNat).drop l.toNat)) else none
      | _, _, _ => none
    | .slice e, .own d g lo0 len => match Θ e, H d, aBound lo 0, aBound hi len with
      | some ei, (g', .row _ sz xs), some l, some h =>
        if g' = g ∧ sz = ei.size ∧ 0 ≤ l ∧ l ≤ h ∧ h ≤ len then some (.own d g (lo0 + l.toNat) (h.toNat - l.toNat)) else none
      | _, _, _, _ => none
    | .slice e, .nils => match Θ e, aBound lo 0, aBound hi 0 with
      | some _, some 0, some 0 => some .nils
      | _, _, _ => none
    | _, _ => none
  | none => none

def aLen (Θ : Tab) (H : Heap) (t : TypeId) (x : Tr) : Option Tr :=
  match Θ t with
  | some ti => match ti.kind, x with
    | .str, .str s => some (.int .i64 s.size)
    | .slice _, .sl _ xs => some (.int .i64 xs.length)
    | .slice _, .own d g _ n => match H d with
      | (g', .row _ _ _) => if g' = g then some (.int .i64 n) else none
      | _ => none
    | .slice _, .nils => some (.int .i64 0)
    | .array n _, _ => some (.int .i64 n)
    | .ptr a, _ => match Θ a with
      | some ai => match ai.kind with
        | .array n _ => some (.int .i64 n)
        | _ => none
      | none => none
    | _, _ => none
  | none => none

/-- The elements that a slice shows. -/
def aElems (H : Heap) (sz : Nat) (x : Tr) : Option (List Tr) :=
  match x with
  | .nils => some []
  | .sl s xs => if s = sz then some xs else none
  | .own d g lo len => match H d with
    | (g', .row _ s xs) => if g' = g ∧ s = sz ∧ lo + len ≤ xs.length then some ((xs.drop lo).take len) else none
    | _ => none
  | _ => none

def aAppend (Θ : Tab) (H : Heap) (L : Nat) (t u : TypeId) (x y : Tr) : Option Eff :=
  if t = u then
    match Θ t with
    | some ti => match ti.kind with
      | .slice e => match Θ e with
        | some ei => match aElems H ei.size y with
          | some ys => if ei.zero.good = true ∧ 0 < ei.size then
              match x with
              | .nils => if ys.length * ei.bytes ≤ 140737488355328 ∧ ys.length ≤ maxLen then
                  some ⟨.own L ((H L).1 + 1) 0 ys.length, some (L, (H L).1 + 1, .row e ei.size ys)⟩ else none
              | .own d g 0 n => match H d with
                | (g', .row e' s xs) => if g' = g ∧ e' = e ∧ s = ei.size ∧ xs.length = n ∧ (n + ys.length) * ei.bytes ≤ 140737488355328 ∧ n + ys.length ≤ maxLen then
                    some ⟨.own d (g + 1) 0 (n + ys.length), some (d, g + 1, .row e s (xs ++ ys))⟩ else none
                | _ => none
              | _ => none
            else none
          | none => none
        | none => none
      | _ => none
    | none => none
  else none

def aCopy (Θ : Tab) (H : Heap) (t : TypeId) (x y : Tr) : Option Eff :=
  match Θ t with
  | some ti => match ti.kind with
    | .slice e => match Θ e, x with
      | some ei, .own d g lo len => match H d, aElems H ei.size y with
        | (g', .row e' s xs), some ys => if g' = g ∧ s = ei.size ∧ lo + len ≤ xs.length then
            some ⟨.int .i64 (min ys.length len : Nat), some (d, g, .row e' s (splice xs lo (ys.take len)))⟩ else none
        | _, _ => none
      | _, _ => none
    | _ => none
  | none => none

def aMin (x y : Tr) : Option Tr :=
  match x, y with
  | .int k a, .int k' b => if k = k' then some (.int k (if b < a then b else a)) else none
  | _, _ => none
def aMax (x y : Tr) : Option Tr :=
  match x, y with
  | .int k a, .int k' b => if k = k' then some (.int k (if b > a then b else a)) else none
  | _, _ => none

def aBuiltin (Θ : Tab) (H : Heap) (L : Nat) (b : Builtin) (tys : List TypeId) (args : List Tr) : Option Eff :=
  match b, tys, args with
  | .len, [t], [x] => (aLen Θ H t x).map fun v => ⟨v, none⟩
  | .append, [t, u], [x, y] => aAppend Θ H L t u x y
  | .copy, [t, _], [x, y] => aCopy Θ H t x y
  | .min, _, [x, y] => (aMin x y).map fun v => ⟨v, none⟩
  | .max, _, [x, y] => (aMax x y).map fun v => ⟨v, none⟩
  | _, _, _ => none

def aMakeSlice (Θ : Tab) (H : Heap) (L : Nat) (t : TypeId) (x y : Tr) : Option Eff :=
  match Θ t, x, y with
  | some ti, .int _ n, .int _ m => match ti.kind with
    | .slice e => match Θ e with
      | some ei => if ei.zero.good = true ∧ 0 < ei.size ∧ 0 ≤ n ∧ n = m ∧ ei.bytes * n ≤ 281474976710656 ∧ n ≤ 9223372036854775807 then
          some ⟨.own L ((H L).1 + 1) 0 n.toNat, some (L, (H L).1 + 1, .row e ei.size (List.replicate n.toNat ei.zero))⟩ else none
      | none => none
    | _ => none
  | _, _, _ => none

/-- What an operation that calls no function yields. -/
def aOp (Θ : Tab) (H : Heap) (L : Nat) (rd : Operand → Tr) (o : Op) : Option Eff :=
  match o with
  | .move x => some ⟨rd x, none⟩
  | .assign x => some ⟨rd x, none⟩
  | .pick c a b => match rd c with
    | .bool c => some ⟨if c = true then rd a else rd b, none⟩
    | _ => none
  | .alloc t => match Θ t with
    | some i => if i.zero.good = true then some ⟨.ptr L ((H L).1 + 1) [] 0, some (L, (H L).1 + 1, .cells i.zero)⟩ else none
    | none => none
  | .box _ x => if (rd x).good = true then some ⟨.ptr L ((H L).1 + 1) [] 0, some (L, (H L).1 + 1, .cells (rd x))⟩ else none
  | .build t ps => match Θ t with
    | some i => if i.zero.good = true then
        (aBuild Θ i (ps.toList.map fun p => (p.1, rd p.2))).map fun v => ⟨v, none⟩
      else none
    | none => none
  | .buildSlice t len ps => match Θ t with
    | some i => match i.kind with
      | .slice e => match Θ e with
        | some ei => if ei.zero.good = true ∧ 0 < ei.size ∧ len * ei.size ≤ 2 ^ 24 then
            match setElems ei.size (ps.toList.map fun p => (p.1, rd p.2)) (List.replicate len ei.zero) with
            | some xs => some ⟨.own L ((H L).1 + 1) 0 len, some (L, (H L).1 + 1, .row e ei.size xs)⟩
            | none => none
          else none
        | none => none
      | _ => none
    | none => none
  | .load t x => (aLoad Θ H t (rd x)).map fun v => ⟨v, none⟩
  | .store t x v => aStore Θ H t (rd x) (rd v)
  | .nilCheck x => match rd x with
    | .ptr d g p off => if (H d).1 = g then some ⟨.ptr d g p off, none⟩ else none
    | .iptr y => some ⟨.iptr y, none⟩
    | _ => none
  | .binOp op t x y _ => (aBin Θ op t (rd x) (rd y)).map fun v => ⟨v, none⟩
  | .unOp op _ x => (aUn op (rd x)).map fun v => ⟨v, none⟩
  | .convert s t x => match Θ s with
    | some _ => (aConv Θ s t (rd x)).map fun v => ⟨v, none⟩
    | none => none
  | .makeFunc (.func f) first caps => if first.size = 0 then some ⟨.clo f (caps.toList.map rd), none⟩ else none
  | .makeSlice t n m => aMakeSlice Θ H L t (rd n) (rd m)
  | .slice t x lo hi none => (aSlice Θ H t (rd x) (lo.map rd) (hi.map rd)).map fun v => ⟨v, none⟩
  | .fieldAddr t x f => (aFieldAddr Θ H t (rd x) f).map fun v => ⟨v, none⟩
  | .field t x f => (aField Θ t (rd x) f).map fun v => ⟨v, none⟩
  | .indexAddr t x i => (aIndexAddr Θ H t (rd x) (rd i)).map fun v => ⟨v, none⟩
  | .index t x i => (aIndex Θ t (rd x) (rd i)).map fun v => ⟨v, none⟩
  | .extract x i => match rd x with
    | .tup xs => (xs[i]?).map fun v => ⟨v, none⟩
    | _ => none
  | .call { callee := .builtin b, args, argTypes } => aBuiltin Θ H L b argTypes.toList (args.toList.map rd)
  | _ => none

end Go.Proofs.Ytnonimnhninafaa.Ab
