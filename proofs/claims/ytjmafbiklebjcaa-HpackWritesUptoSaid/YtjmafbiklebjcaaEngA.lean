/- The abstract machine: an interpreter of the model's code over an abstract heap (no tape, no draws, one owner a block). -/
import Derived.Scope
import Derived.ScopeJumps
import Derived.Orders
set_option linter.unusedVariables false
set_option linter.unusedSimpArgs false
namespace Go.Proofs.Ytjmafbiklebjcaa.Eng

/-- What nothing is known of. -/
def unk : Value := .chan none

inductive AObj where
  | cells (vs : List Value) (elem : TypeId) (ro : Bool)
  | iter (s : ByteArray) (pos : Nat)
  | map (es : List (Value × Value))

inductive Trie where
  | nil
  | node (l : Trie) (v : Option AObj) (r : Trie)

def Trie.get : Trie → Nat → Option AObj
  | .nil, _ => none
  | .node l v r, n => if n = 0 then v else if n % 2 = 1 then l.get (n / 2) else r.get (n / 2 - 1)

def Trie.setF : Nat → Trie → Nat → Option AObj → Trie
  | 0, t, _, _ => t
  | f + 1, .nil, n, o => if n = 0 then .node .nil o .nil else if n % 2 = 1 then .node (Trie.setF f .nil (n / 2) o) none .nil else .node .nil none (Trie.setF f .nil (n / 2 - 1) o)
  | f + 1, .node l v r, n, o => if n = 0 then .node l o r else if n % 2 = 1 then .node (Trie.setF f l (n / 2) o) v r else .node l v (Trie.setF f r (n / 2 - 1) o)

structure AW where
  heap : Trie
  next : Nat

def AW.get (σ : AW) (b : Nat) : Option AObj := σ.heap.get b
def AW.put (σ : AW) (b : Nat) (o : Option AObj) : AW := { σ with heap := σ.heap.setF (b + 1) b o }
def AW.push (σ : AW) (o : AObj) : AW := { heap := σ.heap.setF (σ.next + 1) σ.next (some o), next := σ.next + 1 }

abbrev AM (α : Type) := AW → Option (α × AW)
def ret {α : Type} (a : α) : AM α := fun σ => some (a, σ)
def fail {α : Type} : AM α := fun _ => none
def bind {α β : Type} (m : AM α) (f : α → AM β) : AM β := fun σ => match m σ with
  | some (a, σ') => f a σ'
  | none => none

/-! ### values -/
mutual
def flat : Value → Bool
  | .bool _ | .int _ _ | .string _ | .nilFunc | .nilIface => true
  | .pointer none => true
  | .slice none _ _ => true
  | .map none => true
  | .iface _ v => flat v
  | .agg ⟨vs⟩ => flatL vs
  | .tuple ⟨vs⟩ => flatL vs
  | _ => false
def flatL : List Value → Bool
  | [] => true
  | v :: vs => flat v && flatL vs
end

/-- A value that fills one cell, and is known. -/
def isCell : Value → Bool
  | .agg _ | .tuple _ | .chan _ | .float _ _ | .complex _ _ _ => false
  | _ => true

mutual
/-- Surely the same value. -/
def same : Value → Value → Bool
  | .bool a, .bool b => a == b
  | .int j a, .int k b => decide (j = k) && decide (a = b)
  | .string a, .string b => decide (a = b)
  | .nilFunc, .nilFunc | .nilIface, .nilIface => true
  | .pointer a, .pointer b => decide (a = b)
  | .slice a l c, .slice b m d => decide (a = b) && decide (l = m) && decide (c = d)
  | .map a, .map b => decide (a = b)
  | .iface t v, .iface u w => decide (t = u) && same v w
  | .agg ⟨a⟩, .agg ⟨b⟩ => sameL a b
  | .tuple ⟨a⟩, .tuple ⟨b⟩ => sameL a b
  | .func f ⟨a⟩ ⟨b⟩, .func g ⟨c⟩ ⟨d⟩ => decide (f = g) && sameL a c && sameL b d
  | _, _ => false
def sameL : List Value → List Value → Bool
  | [], [] => true
  | a :: x, b :: y => same a b && sameL x y
  | _, _ => false
end

/-! ### operations -/
def AW.cells (σ : AW) (b off n : Nat) : Option (List Value) :=
  match σ.get b with
  | some (.cells vs _ _) => if off + n ≤ vs.length then some ((vs.drop off).take n) else none
  | _ => none
def liftO {α : Type} (o : Option α) : AM α := fun σ => match o with
  | some a => some (a, σ)
  | none => none

def pickA (c a b : Value) : AM Value := match c with
  | .bool true => ret a
  | .bool false => ret b
  | _ => fail

def newA (vs : List Value) (e : TypeId) : AM Value := fun σ =>
  if vs.all isCell then some (.pointer (some ⟨σ.next, 0, none⟩), σ.push (.cells vs e false)) else none

def boxA (e : TypeId) (v : Value) : AM Value := newA v.cells.toList e

/-- One cell, or so many as an aggregate. -/
def loadA (k : Option Nat) (p : Value) : AM Value := fun σ => match p, k with
  | .pointer (some ⟨b, off, none⟩), none => match σ.cells b off 1 with
    | some [v] => some (v, σ)
    | _ => none
  | .pointer (some ⟨b, off, none⟩), some n => match σ.cells b off n with
    | some vs => some (.agg vs.toArray, σ)
    | none => none
  | _, _ => none

def splice (vs : List Value) (off : Nat) (new : List Value) : List Value := vs.take off ++ new ++ vs.drop (off + new.length)

def AW.storeAt (σ : AW) (b off : Nat) (new : List Value) : Option AW :=
  match σ.get b with
  | some (.cells vs e false) => if off + new.length ≤ vs.length ∧ new.all isCell = true then some (σ.put b (some (.cells (splice vs off new) e false))) else none
  | _ => none

def storeA (size : Nat) (p v : Value) : AM Value := fun σ => match p with
  | .pointer (some ⟨b, off, none⟩) => if v.cells.size = size then match σ.storeAt b off v.cells.toList with
      | some σ' => some (.tuple #[], σ')
      | none => none
    else none
  | _ => none

def nilCheckA (p : Value) : AM Value := match p with
  | .pointer (some a) => ret (.pointer (some a))
  | _ => fail

def fieldAddrA (off : Nat) (p : Value) : AM Value := match p with
  | .pointer (some ⟨b, o, none⟩) => ret (.pointer (some ⟨b, o + off, none⟩))
  | _ => fail

/-- A slice's address bears the size of its elements. -/
def indexAddrA (size : Nat) (s i : Value) : AM Value := match s, i with
  | .slice (some ⟨b, o, some _⟩) len _, .int _ n => if 0 ≤ n ∧ n < (len : Int) then ret (.pointer (some ⟨b, o + n.toNat * size, none⟩)) else fail
  | _, _ => fail

def indexArrAddrA (len size : Nat) (s i : Value) : AM Value := match s, i with
  | .pointer (some ⟨b, o, none⟩), .int _ n => if 0 ≤ n ∧ n < (len : Int) then ret (.pointer (some ⟨b, o + n.toNat * size, none⟩)) else fail
  | _, _ => fail

def partA (k : Option Nat) (cs : List Value) (off : Nat) : AM Value := match k with
  | none => liftO cs[off]?
  | some n => ret (.agg ((cs.drop off).take n).toArray)

def fieldA (k : Option Nat) (off : Nat) (v : Value) : AM Value := match v with
  | .agg cs => partA k cs.toList off
  | _ => fail

def indexA (len size : Nat) (k : Option Nat) (v i : Value) : AM Value := match v, i with
  | .agg cs, .int _ n => if 0 ≤ n ∧ n < (len : Int) then partA k cs.toList (n.toNat * size) else fail
  | _, _ => fail

def indexStrA (v i : Value) : AM Value := match v, i with
  | .string s, .int _ n => if 0 ≤ n then liftO (s[n.toNat]?.map fun b => .int .u8 b.toNat) else fail
  | _, _ => fail

def bound (x : Option Value) (dflt most : Nat) : Option Nat := match x with
  | none => some dflt
  | some (.int _ n) => if 0 ≤ n ∧ n ≤ (most : Int) then some n.toNat else none
  | some _ => none

/-- 'none' fails. -/
def need2 {α β : Type} (o : Option α) (f : α → AM β) : AM β := match o with
  | some a => f a
  | none => fail

def sliceA (size : Nat) (s : Value) (lo hi : Option Value) : AM Value := match s with
  | .slice a len cap => need2 (bound hi len cap) fun h => need2 (bound lo 0 h) fun l =>
      if h ≤ cap then match a with
        | none => ret (.slice none (h - l) (cap - l))
        | some ⟨b, o, some z⟩ => if z = size then ret (.slice (some ⟨b, o + l * size, some size⟩) (h - l) (cap - l)) else fail
        | _ => fail
      else fail
  | _ => fail

def sliceStrA (s : Value) (lo hi : Option Value) : AM Value := match s with
  | .string b => need2 (bound hi b.size b.size) fun h => need2 (bound lo 0 h) fun l => ret (.string (b.extract l h))
  | _ => fail

def extractA (v : Value) (i : Nat) : AM Value := match v with
  | .tuple vs => liftO vs[i]?
  | _ => fail

def lenA (v : Value) : AM Value := match v with
  | .slice _ n _ => ret (.int .i64 n)
  | _ => fail
def lenStrA (v : Value) : AM Value := match v with
  | .string s => ret (.int .i64 s.size)
  | _ => fail

def intBin (op : BinOp) (k : IntKind) (a b : Int) : Option Value := match op with
  | .add => some (.int k (k.wrap (a + b)))
  | .sub => some (.int k (k.wrap (a - b)))
  | .mul => some (.int k (k.wrap (a * b)))
  | .quo => if b = 0 then none else some (.int k (k.wrap (a.tdiv b)))
  | .rem => if b = 0 then none else some (.int k (a.tmod b))
  | .and => some (.int k (k.wrap (BitVec.ofInt k.bits a &&& BitVec.ofInt k.bits b).toNat))
  | .or => some (.int k (k.wrap (BitVec.ofInt k.bits a ||| BitVec.ofInt k.bits b).toNat))
  | .xor => some (.int k (k.wrap (BitVec.ofInt k.bits a ^^^ BitVec.ofInt k.bits b).toNat))
  | .andNot => none
  | .shl | .shr => none
  | .eql => some (.bool (a == b))
  | .neq => some (.bool (a != b))
  | .lss => some (.bool (a < b))
  | .leq => some (.bool (a ≤ b))
  | .gtr => some (.bool (a > b))
  | .geq => some (.bool (a ≥ b))

def shiftBin (op : BinOp) (k : IntKind) (a b : Int) : Option Value := match op with
  | .shl => if b < 0 then none else some (.int k (k.wrap (a * 2 ^ (min b.toNat k.bits))))
  | .shr => if b < 0 then none else some (.int k (a.fdiv (2 ^ (min b.toNat k.bits))))
  | _ => none

def strBin (op : BinOp) (a b : ByteArray) : Option Value := match op with
  | .add => if ((a.size + b.size : Nat) : Int) > IntKind.i64.max then none else some (.string (a ++ b))
  | .eql => some (.bool (a.toList == b.toList))
  | .neq => some (.bool !(a.toList == b.toList))
  | _ => none

/-- What memory and the tape have no part in. -/
def purely {α : Type} (P : Program) : Sem α → Option α
  | .pure a => some a
  | .program k => purely P (k P)
  | _ => none

def eqA (op : BinOp) (b : Bool) : AM Value := match op with
  | .eql => ret (.bool b)
  | .neq => ret (.bool !b)
  | _ => fail

def flatO (o : Option Value) : Option Value := match o with
  | some v => if flat v then some v else none
  | none => none

def isBoolT : TypeDesc → Bool
  | .bool => true
  | _ => false
def isPtrT : TypeDesc → Bool
  | .pointer _ => true
  | _ => false
def isSliceT : TypeDesc → Bool
  | .slice _ => true
  | _ => false
def isMapT : TypeDesc → Bool
  | .map _ _ => true
  | _ => false
def ifU (P : Program) (t : TypeId) (f : TypeDesc → Bool) (m : AM Value) : AM Value := match P.underlying t with
  | some d => if f d then m else fail
  | none => fail

def binA (P : Program) (op : BinOp) (t : TypeId) (x y : Value) : AM Value := match x, y with
  | .int j a, .int k b => match op with
    | .shl | .shr => liftO (shiftBin op j a b)
    | _ => if j = k then liftO (intBin op j a b) else fail
  | .string a, .string b => liftO (strBin op a b)
  | .bool a, .bool b => ifU P t isBoolT (eqA op (a == b))
  | .pointer a, .pointer none => ifU P t isPtrT (eqA op a.isNone)
  | .pointer none, .pointer b => ifU P t isPtrT (eqA op b.isNone)
  | .slice a _ _, .slice none _ _ => ifU P t isSliceT (eqA op a.isNone)
  | .map a, .map none => ifU P t isMapT (eqA op a.isNone)
  | .agg xs, .agg ys => if flat (.agg xs) && flat (.agg ys) then liftO (flatO (purely P (do eqGuard op t (.tmp 0) (.tmp 0) (.agg xs) (.agg ys); binOp op t (.agg xs) (.agg ys)))) else fail
  | _, _ => fail

def unA (op : UnOp) (x : Value) : AM Value := match op, x with
  | .neg, .int k n => ret (.int k (k.wrap (0 - n)))
  | .not, .bool b => ret (.bool !b)
  | _, _ => fail

/-- Conversions: of an int, of a string to bytes, of bytes to a string. -/
def convIntA (k : IntKind) (v : Value) : AM Value := match v with
  | .int _ n => ret (.int k (k.wrap n))
  | _ => fail
def convStrA (v : Value) : AM Value := match v with
  | .string s => ret (.string s)
  | _ => fail
def toBytesA (e : TypeId) (v : Value) : AM Value := fun σ => match v with
  | .string s => some (.slice (some ⟨σ.next, 0, some 1⟩) s.size s.size, σ.push (.cells (s.data.toList.map fun b => .int .u8 b.toNat) e false))
  | _ => none
def ofBytes : List Value → Option (List UInt8)
  | [] => some []
  | .int .u8 n :: vs => (ofBytes vs).map (UInt8.ofNat n.toNat :: ·)
  | _ :: _ => none
def AW.cells0 (σ : AW) (b o len : Nat) : Option (List Value) := if len = 0 then some [] else σ.cells b o len
def toStrA (v : Value) : AM Value := fun σ => match v with
  | .slice none _ _ => some (.string .empty, σ)
  | .slice (some ⟨b, o, some 1⟩) len _ => match σ.cells0 b o len with
    | some vs => match ofBytes vs with
      | some l => some (.string ⟨l.toArray⟩, σ)
      | none => none
    | none => none
  | _ => none

/-- The bytes that stand at a place become a text; nobody may go to them after. -/
def bytesStrA (e : TypeId) (p x : Value) : AM Value := fun σ => match p, x with
  | .pointer (some ⟨b, o, none⟩), .int _ n => if 0 < n ∧ n ≤ 281474976710656 then match σ.get b with
      | some (.cells vs e' false) => if e' = e ∧ o + n.toNat ≤ vs.length then match ofBytes ((vs.drop o).take n.toNat) with
          | some l => some (.string ⟨l.toArray⟩, σ.put b none)
          | none => none
        else none
      | _ => none
    else none
  | _, _ => none

def isAggV (v : Value) : Bool := match v with
  | .agg _ => true
  | _ => false
def ifaceA (t : TypeId) (v : Value) : AM Value := if isCell v || isAggV v then ret (.iface t v) else fail

def fillA (place : Nat → Option (Nat × Nat)) (cs : List Value) : List (Nat × Value) → Option (List Value)
  | [] => some cs
  | (i, v) :: rest => match place i with
    | none => none
    | some (off, size) =>
      if v.cells.size = size ∧ off + size ≤ cs.length ∧ v.cells.toList.all isCell = true then fillA place (splice cs off v.cells.toList) rest else none

def buildA (places : List (Nat × Nat)) (zero : List Value) (parts : List (Nat × Value)) : AM Value :=
  need2 (fillA (places[·]?) zero parts) fun cs => ret (.agg cs.toArray)
def buildArrA (size : Nat) (zero : List Value) (parts : List (Nat × Value)) : AM Value :=
  need2 (fillA (fun i => some (i * size, size)) zero parts) fun cs => ret (.agg cs.toArray)
def zeros (zero : List Value) (n : Nat) : List Value := (List.range n).map fun i => zero.getD (i % zero.length) unk
def buildSliceA (e : TypeId) (size len : Nat) (zero : List Value) (parts : List (Nat × Value)) : AM Value :=
  need2 (fillA (fun i => some (i * size, size)) (zeros zero (len * size)) parts) fun cs σ =>
    if len * size ≤ 2 ^ 24 ∧ cs.all isCell = true ∧ zero.length = size then some (.slice (some ⟨σ.next, 0, some size⟩) len len, σ.push (.cells cs e false)) else none
def makeSliceA (e : TypeId) (size bytes : Nat) (zero : List Value) (l c : Value) : AM Value := fun σ => match l, c with
  | .int _ l, .int _ c => if 0 ≤ l ∧ l ≤ c ∧ bytes * c ≤ 2 ^ 47 ∧ c < 2 ^ 63 ∧ (zeros zero (c.toNat * size)).all isCell = true ∧ zero.length = size then
      some (.slice (some ⟨σ.next, 0, some size⟩) l.toNat c.toNat, σ.push (.cells (zeros zero (c.toNat * size)) e false)) else none
  | _, _ => none

/-- What is appended: its length, its cells. -/
def AW.source (σ : AW) (size : Nat) (x : Value) : Option (Nat × List Value) := match x with
  | .slice none n _ => if n = 0 then some (0, []) else none
  | .slice (some ⟨b, o, some z⟩) n _ => if n = 0 then some (0, []) else if z = size then match σ.cells b o (n * size) with
      | some vs => some (n, vs)
      | none => none
    else none
  | .string s => some (s.size, s.data.toList.map fun b => .int .u8 b.toNat)
  | _ => none

def appendA (e : TypeId) (size bytes : Nat) (s x : Value) : AM Value := fun σ => match σ.source size x with
  | none => none
  | some (n, new) => if new.length = n * size then
      if n = 0 then match s with
        | .slice _ len cap => if len ≤ cap then some (s, σ) else none
        | _ => none
      else if 0 < bytes ∧ new.all isCell = true then match s with
        | .slice none len cap => if len = 0 ∧ cap = 0 ∧ n * bytes ≤ 2 ^ 47 then some (.slice (some ⟨σ.next, 0, some size⟩) n n, σ.push (.cells new e false)) else none
        | .slice (some ⟨b, o, some z⟩) len _ => match σ.get b with
          | some (.cells vs e' false) =>
            if e' = e ∧ z = size ∧ (len + n) * bytes ≤ 2 ^ 47 ∧ o + len * size ≤ vs.length then
              some (.slice (some ⟨σ.next, 0, some size⟩) (len + n) (len + n), (σ.put b none).push (.cells ((vs.drop o).take (len * size) ++ new) e false))
            else none
          | _ => none
        | _ => none
      else none
    else none

def copyA (size : Nat) (d x : Value) : AM Value := fun σ => match σ.source size x with
  | none => none
  | some (m, new) => if new.length = m * size then match d with
      | .slice base len _ => if min m len = 0 then some (.int .i64 0, σ) else match base with
        | some ⟨b, o, some z⟩ => if z = size then match σ.storeAt b o (new.take ((min m len) * size)) with
            | some σ' => some (.int .i64 (min m len : Nat), σ')
            | none => none
          else none
        | _ => none
      | _ => none
    else none

def min2A (x y : Value) : AM Value := match x, y with
  | .int k a, .int _ b => ret (.int k (if b < a then b else a))
  | _, _ => fail
def max2A (x y : Value) : AM Value := match x, y with
  | .int k a, .int _ b => ret (.int k (if b > a then b else a))
  | _, _ => fail

/-- A range over a string. -/
def rangeA (v : Value) : AM Value := fun σ => match v with
  | .string s => some (.pointer (some ⟨σ.next, 0, none⟩), σ.push (.iter s 0))
  | _ => none
def nextA (v : Value) : AM Value := fun σ => match v with
  | .pointer (some ⟨b, 0, none⟩) => match σ.get b with
    | some (.iter s pos) =>
      if pos < s.size then some (.tuple #[.bool true, .int .i64 pos, .int .i32 (Utf8.decode s pos).1], σ.put b (some (.iter s (pos + (Utf8.decode s pos).2))))
      else some (.tuple #[.bool false], σ)
    | _ => none
  | _ => none

/-- Maps with whole numbers as keys. -/
def findA (k : IntKind) (n : Int) : List (Value × Value) → Option (Option Value)
  | [] => some none
  | (.int j m, v) :: es => if j = k then (if n = m then some (some v) else findA k n es) else none
  | _ :: _ => none
def lookupA (zero : Value) (ok : Bool) (m i : Value) : AM Value := fun σ => match i with
  | .int k n =>
    let r : Option (Option Value) := match m with
      | .map none => some none
      | .map (some r) => match σ.get r with
        | some (.map es) => findA k n es
        | _ => none
      | _ => none
    match r with
    | some (some v) => some (if ok then .tuple #[v, .bool true] else v, σ)
    | some none => some (if ok then .tuple #[zero, .bool false] else zero, σ)
    | none => none
  | _ => none
def setA (k : IntKind) (n : Int) (v : Value) : List (Value × Value) → List (Value × Value)
  | [] => [(.int k n, v)]
  | (x, y) :: es => match x with
    | .int _ m => if n = m then (.int k n, v) :: es else (x, y) :: setA k n v es
    | _ => (x, y) :: setA k n v es
def mapSetA (m i v : Value) : AM Value := fun σ => match m, i with
  | .map (some r), .int k n => match σ.get r with
    | some (.map es) => match findA k n es with
      | some _ => if isCell v || isAggV v then some (.tuple #[], σ.put r (some (.map (setA k n v es)))) else none
      | none => none
    | _ => none
  | _, _ => none
def newMapA : AM Value := fun σ => some (.map (some σ.next), σ.push (.map []))

def callA (call : FuncId → List Value → AM Value) (f : Value) (args : List Value) : AM Value := match f with
  | .func (.func g) ⟨first⟩ ⟨cap⟩ => call g (first ++ args ++ cap)
  | _ => fail

/-! ### an operation -/
abbrev Env := List (Nat × Value)
def Env.get : Env → Nat → Value
  | [], _ => unk
  | (k, v) :: e, t => if k = t then v else Env.get e t
def Env.eval (e : Env) : Operand → Value
  | .tmp t => e.get t
  | .const v => if flat v then v else unk
  | .global _ => unk
  | .func f => .func (.func f) #[] #[]
def Env.put (e : Env) (d : Option Tmp) (v : Value) : Env := match d with
  | some d => (d, v) :: e
  | none => e

/-- Of an aggregate's type: how many cells. -/
def aggOf (P : Program) (t : TypeId) : Option (Option Nat) := match P.underlying t, P.info? t with
  | some (.struct _), some i => some (some i.size)
  | some (.array _ _), some i => some (some i.size)
  | some _, some _ => some none
  | _, _ => none
def sizeA (P : Program) (t : TypeId) : Option Nat := (P.info? t).map (·.size)
def zeroA (P : Program) (t : TypeId) : Option Value := match P.info? t with
  | some i => match i.zero with
    | some z => if flat z && z.cells.toList.all isCell then some z else none
    | none => none
  | none => none
/-- 'none' fails. -/
def need {α β : Type} (o : Option α) (f : α → AM β) : AM β := match o with
  | some a => f a
  | none => fail

def builtinA (P : Program) (b : Builtin) (ts : Array TypeId) (args : List Value) : AM Value := match b, args with
  | .len, [v] => match (ts[0]?).bind P.underlying with
    | some .string => lenStrA v
    | some (.slice _) => lenA v
    | _ => fail
  | .append, [s, x] => match (ts[0]?).bind P.underlying, (ts[1]?).bind P.underlying with
    | some (.slice e), some (.slice _) | some (.slice e), some .string => need (P.info? e) fun i => need i.zero fun z => if z.cells.size = i.size ∧ 0 < i.size then appendA e i.size i.bytes s x else fail
    | _, _ => fail
  | .copy, [d, x] => match (ts[0]?).bind P.underlying with
    | some (.slice e) => need (sizeA P e) fun n => if 0 < n then copyA n d x else fail
    | _ => fail
  | .min, [x, y] => min2A x y
  | .max, [x, y] => max2A x y
  | .unsafeString, [p, x] => match (ts[0]?).bind P.underlying with
    | some (.pointer e) => need (sizeA P e) fun n => if n = 1 then bytesStrA e p x else fail
    | _ => fail
  | _, _ => fail

def execA (P : Program) (call : FuncId → List Value → AM Value) (o : Oper) (ρ : Operand → Value) : AM Value := match o.op with
  | .move x | .assign x => ret (ρ x)
  | .pick c a b => pickA (ρ c) (ρ a) (ρ b)
  | .alloc e => need (zeroA P e) fun z => newA z.cells.toList e
  | .box e x => boxA e (ρ x)
  | .build t parts => match P.underlying t with
    | some (.struct fs) => need (fs.toList.mapM fun f => (sizeA P f.type).map fun n => (f.offset, n)) fun places => need (zeroA P t) fun z => buildA places z.cells.toList (parts.toList.map fun x => (x.1, ρ x.2))
    | some (.array _ e) => need (sizeA P e) fun n => need (zeroA P t) fun z => buildArrA n z.cells.toList (parts.toList.map fun x => (x.1, ρ x.2))
    | _ => fail
  | .buildSlice t len parts => match P.underlying t with
    | some (.slice e) => need (sizeA P e) fun n => need (zeroA P e) fun z => buildSliceA e n len z.cells.toList (parts.toList.map fun x => (x.1, ρ x.2))
    | _ => fail
  | .load t a => need (aggOf P t) fun k => loadA k (ρ a)
  | .store t a x => need (sizeA P t) fun n => storeA n (ρ a) (ρ x)
  | .nilCheck x => nilCheckA (ρ x)
  | .binOp op t x y _ => binA P op t (ρ x) (ρ y)
  | .unOp op _ x => unA op (ρ x)
  | .convert s d x => match P.underlying s, P.underlying d with
    | some (.int _), some (.int k) => convIntA k (ρ x)
    | some .string, some .string => convStrA (ρ x)
    | some .string, some (.slice e) => match P.underlying e with
      | some (.int .u8) => toBytesA e (ρ x)
      | _ => fail
    | some (.slice e), some .string => match P.underlying e with
      | some (.int .u8) => toStrA (ρ x)
      | _ => fail
    | _, _ => fail
  | .makeInterface t x => match P.underlying t with
    | some (.interface _) => fail
    | some _ => ifaceA t (ρ x)
    | none => fail
  | .makeFunc fn first cap => match fn with
    | .func _ => ret (.func fn (first.toList.map ρ).toArray (cap.toList.map ρ).toArray)
    | _ => fail
  | .makeSlice t l c => match P.underlying t with
    | some (.slice e) => need (P.info? e) fun i => need (zeroA P e) fun z => makeSliceA e i.size i.bytes z.cells.toList (ρ l) (ρ c)
    | _ => fail
  | .slice t x lo hi none => match P.underlying t with
    | some .string => sliceStrA (ρ x) (lo.map ρ) (hi.map ρ)
    | some (.slice e) => need (sizeA P e) fun n => sliceA n (ρ x) (lo.map ρ) (hi.map ρ)
    | _ => fail
  | .fieldAddr s x f => match P.underlying s with
    | some (.struct fs) => need fs[f]? fun fl => match sizeA P fl.type with
      | some 0 | none => fail
      | some _ => fieldAddrA fl.offset (ρ x)
    | _ => fail
  | .field t x f => match P.underlying t with
    | some (.struct fs) => need fs[f]? fun fl => need (aggOf P fl.type) fun k => fieldA k fl.offset (ρ x)
    | _ => fail
  | .indexAddr t x i => match P.underlying t with
    | some (.slice e) => need (sizeA P e) fun n => indexAddrA n (ρ x) (ρ i)
    | some (.array len e) => need (sizeA P e) fun n => indexArrAddrA len n (ρ x) (ρ i)
    | _ => fail
  | .index t x i => match P.underlying t with
    | some (.array len e) => need (sizeA P e) fun n => need (aggOf P e) fun k => indexA len n k (ρ x) (ρ i)
    | some .string => indexStrA (ρ x) (ρ i)
    | _ => fail
  | .lookup t x i ok => match P.underlying t with
    | some (.map kt e) => match P.underlying kt with
      | some (.int _) => need (zeroA P e) fun z => lookupA z ok (ρ x) (ρ i)
      | _ => fail
    | _ => fail
  | .mapUpdate t m k v | .insert t m k v => match P.underlying t with
    | some (.map kt _) => match P.underlying kt with
      | some (.int _) => mapSetA (ρ m) (ρ k) (ρ v)
      | _ => fail
    | _ => fail
  | .makeMap _ none => newMapA
  | .range t x => match P.underlying t with
    | some .string => rangeA (ρ x)
    | _ => fail
  | .next it true => nextA (ρ it)
  | .extract t i => extractA (ρ t) i
  | .call c => match c.callee with
    | .value f => callA call (ρ f) (c.args.toList.map ρ)
    | .builtin b => builtinA P b c.argTypes (c.args.toList.map ρ)
    | _ => fail
  | _ => fail

/-! ### code: what is live, what is written -/
def ins (t : Nat) : List Nat → List Nat
  | [] => [t]
  | x :: l => if t < x then t :: x :: l else if t = x then x :: l else x :: ins t l
def insAll (l m : List Nat) : List Nat := l.foldl (fun m t => ins t m) m
def inter (l m : List Nat) : List Nat := l.filter fun t => m.contains t
def drop1 (d : Option Tmp) (l : List Nat) : List Nat := match d with
  | some d => l.filter fun t => !(t == d)
  | none => l
def tmpsOf (l : List Operand) : List Nat := l.filterMap fun | .tmp t => some t | _ => none
def slotOf (ops : Array Oper) (j : Nat) : Option Tmp := (ops[j]?).bind (·.dst)
def useOps (ops : Array Oper) : List Oper → List Nat → List Nat
  | [], lo => lo
  | o :: l, lo => insAll (tmpsOf o.op.operands.toList ++ (match o.guard with | some g => (slotOf ops g.1).toList | none => [])) (drop1 o.dst (useOps ops l lo))
def writesOps (l : List Oper) : List Nat := l.foldr (fun o m => match o.dst with | some d => ins d m | none => m) []

def gotosOf : Code → List Nat
  | .seq a b | .cond _ a b => insAll (gotosOf a) (gotosOf b)
  | .block _ c | .loop c | .scope c => gotosOf c
  | .goto l => [l]
  | _ => []

structure Live where
  exits : List (Nat × List Nat)
  gotos : List (Nat × List Nat)
  ret : List Nat
def findL (l : List (Nat × List Nat)) (id : Nat) : List Nat := match l with
  | [] => []
  | (k, m) :: r => if k = id then m else findL r id

/-- Live ahead of a code; 'from': only what follows that label. -/
def useFrom : Code → Option Nat → Live → List Nat → List Nat
  | .seq a b, st, c, lo => match st with
    | none => useFrom a none c (useFrom b none c lo)
    | some l => if (findLabel a l).isSome then useFrom a st c (useFrom b none c lo) else useFrom b st c lo
  | .region _ ops _, _, _, lo => useOps ops ops.toList lo
  | .cond x a b, _, c, lo => insAll (tmpsOf [x]) (insAll (useFrom a none c lo) (useFrom b none c lo))
  | .block id b, _, c, lo => useFrom b none { c with exits := (id, lo) :: c.exits } lo
  | .loop b, _, c, _ => useFrom b none c []
  | .scope b, _, c, lo => useFrom b none { c with gotos := (gotosOf b).map (fun l => (l, useFrom b (some l) c lo)) ++ c.gotos } lo
  | .exit id, _, c, _ => findL c.exits id
  | .goto l, _, c, _ => findL c.gotos l
  | .ret, _, c, _ => c.ret
  | _, _, _, lo => lo

def writes : Code → List Nat
  | .seq a b | .cond _ a b => insAll (writes a) (writes b)
  | .region _ ops _ => writesOps ops.toList
  | .block _ c | .loop c | .scope c => writes c
  | _ => []

/-- No ways meet behind it. -/
def simple : Code → Bool
  | .seq a b => simple a && simple b
  | .region _ ops _ => ops.toList.all fun o => o.guard.isNone
  | .skip | .label _ => true
  | .exit _ | .goto _ | .ret => true
  | _ => false

/-! ### joins -/
def Fn : Nat → Type → Type
  | 0, β => β
  | n + 1, β => Value → Fn n β
def lam {β : Type} : (ks : List Nat) → Env → (Env → β) → Fn ks.length β
  | [], e, f => f e
  | k :: ks, e, f => fun v => lam ks ((k, v) :: e) f
def app {β : Type} : (ks : List Nat) → Fn ks.length β → Env → β
  | [], g, _ => g
  | k :: ks, g, e => app ks (g (e.get k)) e
def kill (ks : List Nat) (e : Env) : Env := ks.foldr (fun k e => (k, unk) :: e) e
def join {γ β : Type} (g : γ) (body : γ → β) : β := body g
def failN {β : Type} : (n : Nat) → Fn n (AM β)
  | 0 => fail
  | n + 1 => fun _ => failN n
def loopK {β : Type} (n : Nat) (F : Fn n (AM β) → Fn n (AM β)) : Nat → Fn n (AM β)
  | 0 => failN n
  | k + 1 => F (loopK n F k)
def condA {β : Type} (c : Value) (a b : AM β) : AM β := match c with
  | .bool true => a
  | .bool false => b
  | _ => fail
/-- Is a guarded operation wanted? -/
def guardA {β : Type} (want : Bool) (c : Value) (a b : AM β) : AM β := match c with
  | .bool x => if x = want then a else b
  | .tuple _ => b
  | _ => fail

/-! ### regions -/
abbrev IOp := Nat × Oper
def sameGuard (g h : Option (Nat × Bool)) : Bool := decide (g = h)
/-- Consecutive operations under one guard. -/
def groups : List IOp → List (Option (Nat × Bool) × List IOp)
  | [] => []
  | x :: l => match groups l with
    | (g, m) :: r => if sameGuard x.2.guard g then (g, x :: m) :: r else (x.2.guard, [x]) :: (g, m) :: r
    | [] => [(x.2.guard, [x])]
def indexed (ops : Array Oper) : List IOp := (List.range ops.size).zip ops.toList

def seqA {β : Type} (P : Program) (call : FuncId → List Value → AM Value) : List IOp → Env → (Env → AM β) → AM β
  | [], e, K => K e
  | x :: l, e, K => bind (execA P call x.2 e.eval) fun v => seqA P call l (e.put x.2.dst v) K
def skipE : List IOp → Env → Env
  | [], e => e
  | x :: l, e => skipE l (e.put x.2.dst (.tuple #[]))

def runG {β : Type} (P : Program) (call : FuncId → List Value → AM Value) (ops : Array Oper) (lo : List Nat) : List (Option (Nat × Bool) × List IOp) → Env → (Env → AM β) → AM β
  | [], e, K => K e
  | (none, l) :: gs, e, K => seqA P call l e fun e' => runG P call ops lo gs e' K
  | (some g, l) :: gs, e, K => match slotOf ops g.1 with
    | none => fail
    | some s =>
      let w := writesOps (l.map (·.2))
      if w.contains s then fail else
      let js := inter w (useOps ops (gs.flatMap fun x => x.2.map (·.2)) lo)
      join (lam js (kill w e) fun e' => runG P call ops lo gs e' K) fun j =>
        guardA g.2 (e.get s) (seqA P call l e fun e' => app js j e') (app js j (skipE l e))

/-! ### regions that draw -/
inductive Class where
  | pure | read | heavy
  deriving DecidableEq
def classOf (P : Program) (o : Op) : Class := match o with
  | .move _ | .assign _ | .pick .. | .build .. | .nilCheck _ | .binOp .. | .unOp .. | .makeInterface .. | .makeFunc .. | .slice .. | .fieldAddr .. | .field .. | .indexAddr .. | .index .. | .extract .. => .pure
  | .load .. | .lookup .. => .read
  | .convert s d _ => match P.underlying s, P.underlying d with
    | some (.slice _), _ => .read
    | _, some (.slice _) => .heavy
    | _, _ => .pure
  | .call { callee := .builtin .len, .. } | .call { callee := .builtin .min, .. } | .call { callee := .builtin .max, .. } => .pure
  | _ => .heavy

def getS : AM AW := fun σ => some (σ, σ)
/-- There, too, it yields this. -/
def there (s : AW) (m : AM Value) (v : Value) : AM Unit := fun σ => match m s with
  | some (u, _) => if same u v then some ((), σ) else none
  | none => none
def here (m : AM Value) (v : Value) : AM Unit := fun σ => there σ m v σ
def thereAll {β : Type} (l : List AW) (m : AM Value) (v : Value) (K : AM β) : AM β := match l with
  | [] => K
  | s :: l => bind (there s m v) fun _ => thereAll l m v K
def hereAll {β : Type} (l : List (AM Value × Value)) (K : AM β) : AM β := match l with
  | [] => K
  | x :: l => bind (here x.1 x.2) fun _ => hereAll l K

def isBefore (bf : Array Nat) (i j : Nat) : Bool := (bf.getD j 0).testBit i

def drawA {β : Type} (P : Program) (call : FuncId → List Value → AM Value) (bf : Array Nat) : List IOp → Env → List (Nat × AW) → List (Nat × AM Value × Value) → (Env → List (Nat × AW) → List (Nat × AM Value × Value) → AM β) → AM β
  | [], e, hs, rs, K => K e hs rs
  | x :: l, e, hs, rs, K => match classOf P x.2.op with
    | .pure => bind (execA P call x.2 e.eval) fun v => drawA P call bf l (e.put x.2.dst v) hs rs K
    | .read => bind (execA P call x.2 e.eval) fun v =>
        thereAll ((hs.filter fun h => !isBefore bf h.1 x.1).map (·.2)) (execA P call x.2 e.eval) v (drawA P call bf l (e.put x.2.dst v) hs ((x.1, execA P call x.2 e.eval, v) :: rs) K)
    | .heavy => bind getS fun s => bind (execA P call x.2 e.eval) fun v =>
        hereAll ((rs.filter fun r => !isBefore bf r.1 x.1).map (·.2)) (drawA P call bf l (e.put x.2.dst v) ((x.1, s) :: hs) rs K)

def runD {β : Type} (P : Program) (call : FuncId → List Value → AM Value) (ops : Array Oper) (bf : Array Nat) : List (Option (Nat × Bool) × List IOp) → Env → List (Nat × AW) → List (Nat × AM Value × Value) → (Env → AM β) → AM β
  | [], e, _, _, K => K e
  | (none, l) :: gs, e, hs, rs, K => drawA P call bf l e hs rs fun e hs rs => runD P call ops bf gs e hs rs K
  | (some g, l) :: gs, e, hs, rs, K => match slotOf ops g.1 with
    | none => fail
    | some s =>
      if (writesOps (l.map (·.2))).contains s then fail else
      guardA g.2 (e.get s) (drawA P call bf l e hs rs fun e hs rs => runD P call ops bf gs e hs rs K) (runD P call ops bf gs (skipE l e) hs rs K)

/-- What a region that draws must be, by its text alone. -/
def namesOf (ops : Array Oper) (o : Oper) : List Nat := tmpsOf o.op.operands.toList ++ (match o.guard with | some g => (slotOf ops g.1).toList | none => []) ++ o.dst.toList
def drawOk (P : Program) (ops : Array Oper) (bf : Array Nat) : Bool :=
  (indexed ops).all fun y =>
    (y.2.after.all fun e => !Region.binds .any e || decide (e.on < y.1)) &&
    (match y.2.guard with | some g => isBefore bf g.1 y.1 | none => true) &&
    (indexed ops).all fun x => decide (x.1 = y.1) ||
      ((match x.2.dst with
        | some d => !(namesOf ops y.2).contains d || isBefore bf x.1 y.1 || isBefore bf y.1 x.1
        | none => true) &&
       (decide (classOf P x.2.op ≠ .heavy) || decide (classOf P y.2.op ≠ .heavy) || isBefore bf x.1 y.1 || isBefore bf y.1 x.1))

/-! ### code -/
structure Ctx extends Live where
  lo : List Nat
def Ctx.use (c : Ctx) (b : Code) : List Nat := useFrom b none c.toLive c.lo

def runC {β : Type} (P : Program) (call : FuncId → List Value → AM Value) (k : Nat) : Code → Option Nat → Ctx → Env → (Exit → Env → AM β) → AM β
  | .skip, _, _, e, K => K .normal e
  | .label _, _, _, e, K => K .normal e
  | .region _ ops draw, none, c, e, K =>
    if draw then
      let bf := Region.before ops
      let w := writesOps ops.toList
      let js := inter w c.lo
      if drawOk P ops bf then
        join (lam js (kill w e) fun e' => K .normal e') fun j => runD P call ops bf (groups (indexed ops)) e [] [] fun e' => app js j e'
      else fail
    else runG P call ops c.lo (groups (indexed ops)) e fun e' => K .normal e'
  | .seq a b, st, c, e, K => match st with
    | some l =>
      if (findLabel a l).isSome then runC P call k a st { c with lo := c.use b } e fun x e' => match x with
        | .normal => runC P call k b none c e' K
        | x => K x e'
      else runC P call k b st c e K
    | none =>
      if simple a then runC P call k a none { c with lo := c.use b } e fun x e' => match x with
        | .normal => runC P call k b none c e' K
        | x => K x e'
      else
        let lb := c.use b
        let w := writes a
        let js := inter w lb
        join (lam js (kill w e) fun e' => runC P call k b none c e' K) fun j =>
          runC P call k a none { c with lo := lb } e fun x e' => match x with
            | .normal => app js j e'
            | x => K x e'
  | .cond x a b, none, c, e, K => condA (e.eval x) (runC P call k a none c e K) (runC P call k b none c e K)
  | .block id b, none, c, e, K => runC P call k b none { c with exits := (id, c.lo) :: c.exits } e fun x e' => match x with
    | .exit id' => if id' = id then K .normal e' else K (.exit id') e'
    | x => K x e'
  | .loop b, none, c, e, K =>
    let hd := useFrom b none c.toLive []
    let w := writes b
    let js := inter w hd
    app js (loopK js.length (fun rec => lam js (kill w e) fun e' => runC P call k b none { c with lo := hd } e' fun x e'' => match x with
      | .normal => app js rec e''
      | x => K x e'') k) e
  | .scope b, none, c, e, K => match gotosOf b with
    | [] => runC P call k b none c e fun x e' => match x with
        | .goto _ => fail
        | x => K x e'
    | [l] =>
      if (findLabel b l).isSome then
        let lb := useFrom b (some l) c.toLive c.lo
        let w := writes b
        let js := inter w lb
        join (lam js (kill w e) fun e' => runC P call k b (some l) c e' fun x e'' => match x with
            | .goto _ => fail
            | x => K x e'') fun j =>
          runC P call k b none { c with gotos := (l, lb) :: c.gotos } e fun x e' => match x with
            | .goto l' => if l' = l then app js j e' else fail
            | x => K x e'
      else fail
    | _ => fail
  | .exit id, none, _, e, K => K (.exit id) e
  | .goto l, none, _, e, K => K (.goto l) e
  | .ret, none, _, e, K => K .ret e
  | _, _, _, _, _ => fail

def dstOk (n : Nat) : Code → Bool
  | .seq a b | .cond _ a b => dstOk n a && dstOk n b
  | .region _ ops _ => ops.toList.all fun o => match o.dst with | some d => decide (d < n) | none => true
  | .block _ c | .loop c | .scope c => dstOk n c
  | _ => true

def collect (P : Program) : List ResultVar → Env → (List Value → AM Value) → AM Value
  | [], _, K => K []
  | .tmp t :: r, e, K => collect P r e fun vs => K (e.get t :: vs)
  | .cell a t :: r, e, K => need (aggOf P t) fun k => bind (loadA k (e.get a)) fun v => collect P r e fun vs => K (v :: vs)
def tupleOf : List Value → AM Value
  | [v] => ret v
  | vs => ret (.tuple vs.toArray)
def resultSlots (l : List ResultVar) : List Nat := l.foldr (fun r m => match r with | .tmp t => ins t m | .cell a _ => ins a m) []

def argsEnv : Nat → List Value → Env → Env
  | _, [], e => e
  | i, v :: vs, e => argsEnv (i + 1) vs ((i, v) :: e)

def funcA (P : Program) (call : FuncId → List Value → AM Value) (k : Nat) (f : FuncId) (args : List Value) : AM Value :=
  match P.funcs[f]? with
  | none => fail
  | some fn => match fn.body with
    | none => fail
    | some body =>
      if dstOk fn.ntmps body && !(fn.name == "runtime.NumGoroutine") then
        runC P call k body none { exits := [], gotos := [], ret := resultSlots fn.results.toList, lo := resultSlots fn.results.toList } (argsEnv 0 args []) fun x e => match x with
          | .normal | .ret => collect P fn.results.toList e tupleOf
          | _ => fail
      else fail

def callN (P : Program) : Nat → FuncId → List Value → AM Value
  | 0, _, _ => fail
  | n + 1, f, args => funcA P (callN P n) n f args

end Go.Proofs.Ytjmafbiklebjcaa.Eng
