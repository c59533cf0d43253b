/-
  THE ABSTRACT MACHINE: a deterministic evaluator of the model's Code over values without addresses, capacities or draws. This text: values, store, operations.
  THE ABSTRACT MACHINE, its operations: what each operation but a call of a function comes to.
  THE ABSTRACT MACHINE: regions, code, calls.
  THE ABSTRACT MACHINE AND THE MODEL: when a value of the machine is a value of the model, and a store a world.
-/
import GoSem.Dispatch
import GoSem.Machine.Return
import Derived.Orders
import Derived.Below
namespace Go.Ab

/-- Values: a slice is its elements ('ex': no spare room behind them), or a part of an array that is owned ('oslice': object, first cell, elements); 'hid': a slice that stands for a list of the environment's; 'hint': a number of the environment's, of kind int. -/
inductive AVal where
  | bool (b : Bool)
  | int (k : IntKind) (n : Int)
  | str (s : ByteArray)
  | nilptr
  | ptr (id off : Nat)
  | rptr (cs : List AVal) (off : Nat)
  | nils
  | slice (xs : List AVal) (ex : Bool)
  | oslice (id off len : Nat) (ex : Bool)
  | nilmap
  | map (id : Nat)
  | func (f : FuncId) (first captured : List AVal)
  | nilfunc
  | iface (t : TypeId) (v : AVal)
  | niliface
  | agg (cs : List AVal)
  | tuple (vs : List AVal)
  | yield (id : Nat)
  | hid (i : Nat)
  | hint (i : Nat)
  deriving Inhabited

mutual
def AVal.beq : AVal → AVal → Bool
  | .bool a, .bool b => a == b
  | .int j a, .int k b => j == k && a == b
  | .str a, .str b => a.data.toList == b.data.toList
  | .nilptr, .nilptr => true
  | .ptr i a, .ptr j b => i == j && a == b
  | .rptr xs a, .rptr ys b => AVal.beqL xs ys && a == b
  | .slice xs a, .slice ys b => AVal.beqL xs ys && a == b
  | .oslice i a m x, .oslice j b n y => i == j && a == b && m == n && x == y
  | .nilmap, .nilmap => true
  | .map i, .map j => i == j
  | .func f xs us, .func g ys vs => f == g && AVal.beqL xs ys && AVal.beqL us vs
  | .nilfunc, .nilfunc => true
  | .iface t v, .iface u w => t == u && AVal.beq v w
  | .niliface, .niliface => true
  | .agg xs, .agg ys => AVal.beqL xs ys
  | .tuple xs, .tuple ys => AVal.beqL xs ys
  | .nils, .nils => true
  | .yield i, .yield j => i == j
  | .hid i, .hid j => i == j
  | .hint i, .hint j => i == j
  | _, _ => false
def AVal.beqL : List AVal → List AVal → Bool
  | [], [] => true
  | a :: as, b :: bs => AVal.beq a b && AVal.beqL as bs
  | _, _ => false
end
mutual
theorem AVal.eq_of_beq : ∀ a b : AVal, AVal.beq a b = true → a = b
  | .bool _, b => by cases b <;> simp [AVal.beq]
  | .int _ _, b => by cases b <;> simp [AVal.beq]
  | .str _, b => by cases b <;> simp [AVal.beq]; exact ByteArray.ext
  | .nilptr, b => by cases b <;> simp [AVal.beq]
  | .ptr _ _, b => by cases b <;> simp [AVal.beq]
  | .rptr xs _, b => by cases b <;> simp [AVal.beq]; intro h e; exact ⟨AVal.eq_of_beqL _ _ h, e⟩
  | .slice xs _, b => by cases b <;> simp [AVal.beq]; intro h e; exact ⟨AVal.eq_of_beqL _ _ h, e⟩
  | .oslice _ _ _ _, b => by cases b <;> simp [AVal.beq]; intro a b c d; exact ⟨a, b, c, d⟩
  | .nilmap, b => by cases b <;> simp [AVal.beq]
  | .map _, b => by cases b <;> simp [AVal.beq]
  | .func _ _ _, b => by cases b <;> simp [AVal.beq]; intro e h k; exact ⟨e, AVal.eq_of_beqL _ _ h, AVal.eq_of_beqL _ _ k⟩
  | .nilfunc, b => by cases b <;> simp [AVal.beq]
  | .iface _ v, b => by cases b <;> simp [AVal.beq]; intro e h; exact ⟨e, AVal.eq_of_beq _ _ h⟩
  | .niliface, b => by cases b <;> simp [AVal.beq]
  | .agg xs, b => by cases b <;> simp [AVal.beq]; exact AVal.eq_of_beqL _ _
  | .tuple xs, b => by cases b <;> simp [AVal.beq]; exact AVal.eq_of_beqL _ _
  | .nils, b => by cases b <;> simp [AVal.beq]
  | .yield _, b => by cases b <;> simp [AVal.beq]
  | .hid _, b => by cases b <;> simp [AVal.beq]
  | .hint _, b => by cases b <;> simp [AVal.beq]
theorem AVal.eq_of_beqL : ∀ as bs : List AVal, AVal.beqL as bs = true → as = bs
  | [], bs => by cases bs <;> simp [AVal.beqL]
  | a :: as, bs => by cases bs <;> simp [AVal.beqL]; intro h k; exact ⟨AVal.eq_of_beq _ _ h, AVal.eq_of_beqL _ _ k⟩
end
mutual
theorem AVal.beq_self : ∀ a : AVal, AVal.beq a a = true
  | .bool _ => by simp [AVal.beq]
  | .int _ _ => by simp [AVal.beq]
  | .str _ => by simp [AVal.beq]
  | .nilptr => by simp [AVal.beq]
  | .ptr _ _ => by simp [AVal.beq]
  | .rptr xs _ => by simp [AVal.beq, AVal.beqL_self xs]
  | .slice xs _ => by simp [AVal.beq, AVal.beqL_self xs]
  | .oslice _ _ _ _ => by simp [AVal.beq]
  | .nilmap => by simp [AVal.beq]
  | .map _ => by simp [AVal.beq]
  | .func _ xs ys => by simp [AVal.beq, AVal.beqL_self xs, AVal.beqL_self ys]
  | .nilfunc => by simp [AVal.beq]
  | .iface _ v => by simp [AVal.beq, AVal.beq_self v]
  | .niliface => by simp [AVal.beq]
  | .agg xs => by simp [AVal.beq, AVal.beqL_self xs]
  | .tuple xs => by simp [AVal.beq, AVal.beqL_self xs]
  | .nils => by simp [AVal.beq]
  | .yield _ => by simp [AVal.beq]
  | .hid _ => by simp [AVal.beq]
  | .hint _ => by simp [AVal.beq]
theorem AVal.beqL_self : ∀ as : List AVal, AVal.beqL as as = true
  | [] => by simp [AVal.beqL]
  | a :: as => by simp [AVal.beqL, AVal.beq_self a, AVal.beqL_self as]
end
instance : DecidableEq AVal := fun a b =>
  if h : AVal.beq a b = true then .isTrue (AVal.eq_of_beq a b h) else .isFalse (fun e => h (e ▸ AVal.beq_self a))

def AVal.undef : AVal := .tuple []
def AVal.cells : AVal → List AVal
  | .agg cs => cs
  | v => [v]
def AVal.one : AVal → Bool
  | .agg _ | .tuple _ => false
  | _ => true

/-- The kind of a cell that is compared: a bool, a number, a text. -/
def AVal.knd : AVal → Nat
  | .bool _ => 0
  | .int _ _ => 1
  | .hint _ => 1
  | .str _ => 2
  | _ => 3

/-- Where a round of a range over a function is left: not at all, by an exit, by a return. -/
inductive Jump where
  | none
  | exit (id : Nat)
  | ret
/-- A range over a function, under way: its function, its frame, its code; is it in a round? -/
structure ALoop where
  fn : FuncId
  tm : List AVal
  ps : Array Tmp
  assign : Code
  body : Code
  busy : Bool
  jump : Jump

/-- Objects: the cells of a variable; an owned array (the cells that are known); a map's entries in their order; a string's iterator; a map that is ranged over (its iterator's number, how many steps); an iterator (its map's number); a range over a function. -/
inductive AObj where
  | cells (cs : List AVal)
  | arr (ag : Bool) (size : Nat) (cs : List AVal)
  | map (es : List (AVal × AVal))
  | iter (s : ByteArray) (pos : Nat)
  | rmap (es : List (AVal × AVal)) (it : Nat) (n : Nat)
  | itof (m : Nat)
  | loop (l : ALoop)
  deriving Inhabited

/-- A tree over numbers: 0 at the root, odd ones to the left, even ones to the right. -/
inductive Tree (α : Type) where
  | leaf
  | node (v : Option α) (l r : Tree α)
namespace Tree
variable {α : Type}
def get : Tree α → Nat → Option α
  | .leaf, _ => none
  | .node v l r, n => if n = 0 then v else if n % 2 = 1 then l.get (n / 2) else r.get (n / 2 - 1)
def single : Nat → Nat → Option α → Tree α
  | 0, _, v => .node v .leaf .leaf
  | d + 1, n, v => if n = 0 then .node v .leaf .leaf else if n % 2 = 1 then .node none (single d (n / 2) v) .leaf else .node none .leaf (single d (n / 2 - 1) v)
def set : Tree α → Nat → Option α → Tree α
  | .leaf, n, v => single n n v
  | .node u l r, n, v => if n = 0 then .node v l r else if n % 2 = 1 then .node u (l.set (n / 2) v) r else .node u l (r.set (n / 2 - 1) v)
theorem get_single (d : Nat) : ∀ (n m : Nat) (v : Option α), n ≤ d → (single d n v).get m = if m = n then v else none := by
  induction d with
  | zero =>
    intro n m v h
    have : n = 0 := by omega
    subst this
    simp only [single, get]
    split
    · rfl
    · split <;> rfl
  | succ d ih =>
    intro n m v h
    simp only [single]
    by_cases h0 : n = 0
    · subst h0
      simp only [if_true, get]
      split
      · rfl
      · split <;> rfl
    · rw [if_neg h0]
      by_cases h1 : n % 2 = 1
      · rw [if_pos h1]
        simp only [get]
        by_cases m0 : m = 0
        · subst m0; rw [if_pos rfl, if_neg (by omega)]
        · rw [if_neg m0]
          by_cases m1 : m % 2 = 1
          · rw [if_pos m1, ih _ _ _ (by omega)]
            by_cases e : m = n
            · subst e; simp
            · rw [if_neg e, if_neg (by omega)]
          · rw [if_neg m1, if_neg (by omega)]
      · rw [if_neg h1]
        simp only [get]
        by_cases m0 : m = 0
        · subst m0; rw [if_pos rfl, if_neg (by omega)]
        · rw [if_neg m0]
          by_cases m1 : m % 2 = 1
          · rw [if_pos m1, if_neg (by omega)]
          · rw [if_neg m1, ih _ _ _ (by omega)]
            by_cases e : m = n
            · subst e; simp
            · rw [if_neg e, if_neg (by omega)]
theorem get_set (t : Tree α) : ∀ (n m : Nat) (v : Option α), (t.set n v).get m = if m = n then v else t.get m := by
  induction t with
  | leaf => intro n m v; simp only [set]; rw [get_single n n m v (Nat.le_refl _)]; rfl
  | node u l r ihl ihr =>
    intro n m v
    simp only [set]
    by_cases h0 : n = 0
    · subst h0
      simp only [if_true, get]
      split <;> rfl
    · rw [if_neg h0]
      by_cases h1 : n % 2 = 1
      · rw [if_pos h1]
        simp only [get]
        by_cases m0 : m = 0
        · subst m0; rw [if_pos rfl, if_neg (by omega)]; rfl
        · rw [if_neg m0]
          by_cases m1 : m % 2 = 1
          · simp only [if_pos m1, if_neg m0, ihl]
            by_cases e : m = n
            · subst e; simp
            · rw [if_neg e, if_neg (by omega)]
          · simp only [if_neg m1, if_neg m0]
            rw [if_neg (by omega)]
      · rw [if_neg h1]
        simp only [get]
        by_cases m0 : m = 0
        · subst m0; rw [if_pos rfl, if_neg (by omega)]; rfl
        · rw [if_neg m0]
          by_cases m1 : m % 2 = 1
          · simp only [if_pos m1, if_neg m0]
            rw [if_neg (by omega)]
          · simp only [if_neg m1, if_neg m0, ihr]
            by_cases e : m = n
            · subst e; simp
            · rw [if_neg e, if_neg (by omega)]
end Tree

structure Store where
  objs : Tree AObj
  next : Nat
namespace Store
def get (σ : Store) (i : Nat) : Option AObj := σ.objs.get i
def put (σ : Store) (i : Nat) (o : AObj) : Store := { σ with objs := σ.objs.set i (some o) }
def del (σ : Store) (i : Nat) : Store := { σ with objs := σ.objs.set i none }
def new (σ : Store) (o : AObj) : Store := { objs := σ.objs.set σ.next (some o), next := σ.next + 1 }
def empty : Store := { objs := .leaf, next := 0 }
@[simp] theorem get_put (σ : Store) (i j : Nat) (o : AObj) : (σ.put i o).get j = if j = i then some o else σ.get j := Tree.get_set _ _ _ _
@[simp] theorem get_del (σ : Store) (i j : Nat) : (σ.del i).get j = if j = i then none else σ.get j := Tree.get_set _ _ _ _
@[simp] theorem get_new (σ : Store) (o : AObj) (j : Nat) : (σ.new o).get j = if j = σ.next then some o else σ.get j := Tree.get_set _ _ _ _
@[simp] theorem next_put (σ : Store) (i : Nat) (o : AObj) : (σ.put i o).next = σ.next := rfl
@[simp] theorem next_del (σ : Store) (i : Nat) : (σ.del i).next = σ.next := rfl
@[simp] theorem next_new (σ : Store) (o : AObj) : (σ.new o).next = σ.next + 1 := rfl
@[simp] theorem get_empty (j : Nat) : empty.get j = none := rfl
@[simp] theorem next_empty : empty.next = 0 := rfl
end Store

/-- What the machine knows of types. -/
structure Tab where
  und : TypeId → Option TypeDesc
  size : TypeId → Nat
  bytes : TypeId → Nat
  zero : TypeId → Option (List AVal)
  eqs : TypeId → Option (List Nat)

/-- How a call hands over slices: are the arguments, is the result, left as owned arrays? -/
structure Pol where
  args : Bool
  res : Bool

/-- How a region that draws its order is run: the operations, effect by effect; 'checks': a read, and between which effects its value must stay. 'allocs': the operations that make an object, each with its number. -/
structure Plan where
  order : List Nat
  effs : List Nat
  allocs : List Nat
  checks : List (Nat × Nat × Nat)
  anc : List (List Nat)

structure Env where
  T : Tab
  fn : FuncId → Option Func
  prim : FuncId → Option (List AVal → Store → Option (AVal × Store))
  glob : Nat → Option (List AVal)
  pol : FuncId → FuncId → Pol
  plan : FuncId → Nat → Option Plan
  hid : Nat → List AVal
  hint : Nat → Int
  orc : BinOp → AVal → AVal → Option AVal
  hlen : Nat → Option Nat
  hidx : Nat → Int → Option Nat
  hidh : Nat → Nat → Option Nat

def isAgg : TypeDesc → Bool
  | .struct _ | .array _ _ => true
  | _ => false

/-- A constant of the code: one cell; a constant. -/
def ofCell : Value → Option AVal
  | .bool b => some (.bool b)
  | .int k n => some (.int k n)
  | .string s => some (.str s)
  | .pointer none => some .nilptr
  | .slice none 0 0 => some .nils
  | .map none => some .nilmap
  | .nilFunc => some .nilfunc
  | .nilIface => some .niliface
  | _ => none
def ofCellList : List Value → Option (List AVal)
  | [] => some []
  | v :: vs => do
    let a ← ofCell v
    let l ← ofCellList vs
    some (a :: l)
def ofConst : Value → Option AVal
  | .agg cs => (ofCellList cs.toList).map .agg
  | v => ofCell v

def eval (E : Env) (tm : List AVal) : Operand → Option AVal
  | .tmp t => some (tm.getD t .undef)
  | .const v => ofConst v
  | .global g => (E.glob g).map fun cs => .rptr cs 0
  | .func f => some (.func f [] [])

/-- The cells of an object. -/
def AObj.cells? : AObj → Option (List AVal)
  | .cells cs | .arr _ _ cs => some cs
  | _ => none
def AObj.withCells : AObj → List AVal → AObj
  | .arr g n _, cs => .arr g n cs
  | _, cs => .cells cs

def setRange (cs : List AVal) (off : Nat) (vs : List AVal) : List AVal := cs.take off ++ vs ++ cs.drop (off + vs.length)

/-- What a variable of a type holds, from cells. -/
def ofCells (E : Env) (t : TypeId) (cs : List AVal) (off : Nat) : Option AVal := do
  let d ← E.T.und t
  if isAgg d then
    if off + E.T.size t ≤ cs.length then some (.agg ((cs.drop off).take (E.T.size t))) else none
  else cs[off]?

def load (E : Env) (σ : Store) (t : TypeId) : AVal → Option AVal
  | .ptr id off => do
    let o ← σ.get id
    let cs ← o.cells?
    ofCells E t cs off
  | .rptr cs off => ofCells E t cs off
  | _ => none

def store (E : Env) (σ : Store) (t : TypeId) (p v : AVal) : Option Store :=
  match p with
  | .ptr id off => do
    let o ← σ.get id
    let cs ← o.cells?
    let vs := v.cells
    if vs.length = E.T.size t ∧ vs.length ≠ 0 ∧ off + vs.length ≤ cs.length ∧ vs.all AVal.one = true then some (σ.put id (o.withCells (setRange cs off vs))) else none
  | _ => none

/-- The first element has so many cells (so have all, then). -/
def headSize (size : Nat) : List AVal → Bool
  | [] => true
  | x :: _ => x.cells.length == size

/-- The elements of a slice (or the bytes of a string) as cells, 'n' of them. -/
def elemCells0 (E : Env) (σ : Store) (size n : Nat) : AVal → Option (List AVal)
  | .slice xs _ => if n ≤ xs.length ∧ headSize size xs = true then some ((xs.take n).flatMap AVal.cells) else none
  | .oslice id off len _ => do
    let o ← σ.get id
    let .arr _ sz cs := o | none
    if n ≤ len ∧ off + n * size ≤ cs.length ∧ sz = size then some ((cs.drop off).take (n * size)) else none
  | .str s => if n ≤ s.size ∧ size = 1 then some ((s.data.toList.take n).map fun b => .int .u8 b.toNat) else none
  | .nils => if n = 0 then some [] else none
  | _ => none

def elemCells (E : Env) (σ : Store) (size n : Nat) (x : AVal) : Option (List AVal) := (elemCells0 E σ size n x).bind fun cs => if cs.all AVal.one then some cs else none

def lenOf : AVal → Option Nat
  | .slice xs _ => some xs.length
  | .oslice _ _ len _ => some len
  | .str s => some s.size
  | .nils => some 0
  | _ => none

end Go.Ab

namespace Go.Ab

/-! numbers, bools, texts -/
def binInt (op : BinOp) (k : IntKind) (a b : Int) : Option AVal :=
  match op with
  | .add => some (.int k (k.wrap (a + b)))
  | .sub => some (.int k (k.wrap (a - b)))
  | .mul => some (.int k (k.wrap (a * b)))
  | .quo => if b = 0 then none else some (.int k (k.wrap (a.tdiv b)))
  | .rem => if b = 0 then none else some (.int k (a.tmod b))
  | .and => some (.int k (k.wrap ((BitVec.ofInt k.bits a &&& BitVec.ofInt k.bits b).toNat)))
  | .or => some (.int k (k.wrap ((BitVec.ofInt k.bits a ||| BitVec.ofInt k.bits b).toNat)))
  | .xor => some (.int k (k.wrap ((BitVec.ofInt k.bits a ^^^ BitVec.ofInt k.bits b).toNat)))
  | .andNot => some (.int k (k.wrap ((BitVec.ofInt k.bits a &&& ~~~(BitVec.ofInt k.bits b)).toNat)))
  | .eql => some (.bool (a == b))
  | .neq => some (.bool (a != b))
  | .lss => some (.bool (a < b))
  | .leq => some (.bool (a ≤ b))
  | .gtr => some (.bool (a > b))
  | .geq => some (.bool (a ≥ b))
  | _ => none
def binShift (op : BinOp) (k : IntKind) (a b : Int) : Option AVal :=
  if b < 0 then none else
  match op with
  | .shl => some (.int k (k.wrap (a * 2 ^ (min b.toNat k.bits))))
  | .shr => some (.int k (a.fdiv (2 ^ (min b.toNat k.bits))))
  | _ => none
def binStr (op : BinOp) (a b : ByteArray) : Option AVal :=
  match op with
  | .add => if ((a.size + b.size : Nat) : Int) > IntKind.i64.max then none else some (.str (a ++ b))
  | .eql => some (.bool (a.toList == b.toList))
  | .neq => some (.bool !(a.toList == b.toList))
  | .lss => some (.bool (Op.bytesLess a.toList b.toList))
  | .leq => some (.bool (Op.bytesLess a.toList b.toList || a.toList == b.toList))
  | .gtr => some (.bool !(Op.bytesLess a.toList b.toList || a.toList == b.toList))
  | .geq => some (.bool !(Op.bytesLess a.toList b.toList))
  | _ => none

/-- Are two cells equal? Of numbers, bools, texts. -/
def eqCell : AVal → AVal → Option Bool
  | .bool a, .bool b => some (a == b)
  | .int j a, .int k b => if j = k then some (a == b) else none
  | .str a, .str b => some (a.toList == b.toList)
  | _, _ => none
/-- All cells of two structures are equal: both lists hold numbers, bools and texts alone, of the same kinds. -/
def eqCells : List AVal → List AVal → Option Bool
  | [], [] => some true
  | a :: as, b :: bs => do
    let x ← eqCell a b
    let y ← eqCells as bs
    some (x && y)
  | _, _ => none

def isNils : AVal → Option Bool
  | .nils => some true
  | .slice _ _ | .oslice _ _ _ _ | .hid _ => some false
  | _ => none
/-- A slice against nil. -/
def nilEq (a b : AVal) : Option Bool :=
  match isNils a, isNils b with
  | some true, some y => some y
  | some x, some true => some x
  | _, _ => none
def isSliceD : Option TypeDesc → Bool
  | some (.slice _) => true
  | _ => false
def binEq0 (E : Env) (neg : Bool) (t : TypeId) (a b : AVal) : Option AVal :=
  match E.T.und t, a, b with
  | some .bool, .bool x, .bool y => some (.bool ((x == y) != neg))
  | some (.pointer _), .nilptr, .nilptr => some (.bool (true != neg))
  | some (.pointer _), .nilptr, .ptr _ _ | some (.pointer _), .ptr _ _, .nilptr | some (.pointer _), .nilptr, .rptr _ _ | some (.pointer _), .rptr _ _, .nilptr => some (.bool (false != neg))
  | some (.func _ _ _), .nilfunc, .nilfunc => some (.bool (true != neg))
  | some (.func _ _ _), .nilfunc, .func _ _ _ | some (.func _ _ _), .func _ _ _, .nilfunc => some (.bool (false != neg))
  | some (.map _ _), .nilmap, .nilmap => some (.bool (true != neg))
  | some (.map _ _), .nilmap, .map _ | some (.map _ _), .map _, .nilmap => some (.bool (false != neg))
  | _, .agg xs, .agg ys => if E.T.eqs t = some (xs.map AVal.knd) ∧ xs.length = E.T.size t ∧ ys.length = E.T.size t then (eqCells xs ys).map fun r => .bool (r != neg) else none
  | _, _, _ => none

def binEq (E : Env) (neg : Bool) (t : TypeId) (a b : AVal) : Option AVal :=
  if isSliceD (E.T.und t) then (nilEq a b).map fun r => .bool (r != neg) else binEq0 E neg t a b

def binOp (E : Env) (op : BinOp) (t : TypeId) (a b : AVal) : Option AVal :=
  match a, b with
  | .int k x, .int k' y =>
    match op with
    | .shl | .shr => binShift op k x y
    | _ => if k = k' then binInt op k x y else none
  | .str x, .str y => binStr op x y
  | .hint _, .hint _ => E.orc op a b
  | .hint _, .int .i64 _ => E.orc op a b
  | .int .i64 _, .hint _ => E.orc op a b
  | _, _ =>
    match op with
    | .eql => binEq E false t a b
    | .neq => binEq E true t a b
    | _ => none

def unOp (op : UnOp) : AVal → Option AVal
  | .bool b => match op with | .not => some (.bool !b) | _ => none
  | .int k n => match op with
    | .neg => binInt .sub k 0 n
    | .xor => binInt .xor k (if k.signed then -1 else k.max) n
    | _ => none
  | _ => none

/-! cells, fields, elements -/
def alloc (E : Env) (σ : Store) (t : TypeId) : Option (AVal × Store) := do
  let z ← E.T.zero t
  some (.ptr σ.next 0, σ.new (.cells z))
def box (σ : Store) (v : AVal) : Option (AVal × Store) :=
  if v.cells.all AVal.one then some (.ptr σ.next 0, σ.new (.cells v.cells)) else none

def fieldsOf (T : Tab) (t : TypeId) : Option (Array Field) :=
  match T.und t with
  | some (.struct fs) => some fs
  | _ => none

def fieldAddr (E : Env) (t : TypeId) (i : Nat) (p : AVal) : Option AVal := do
  let fs ← fieldsOf E.T t
  let f ← fs[i]?
  if E.T.size f.type = 0 then none else
  match p with
  | .ptr id off => some (.ptr id (off + f.offset))
  | .rptr cs off => some (.rptr cs (off + f.offset))
  | _ => none

def field (E : Env) (t : TypeId) (i : Nat) : AVal → Option AVal
  | .agg cs => do
    let fs ← fieldsOf E.T t
    let f ← fs[i]?
    ofCells E f.type cs f.offset
  | _ => none

/-- 'fill' of the model, over lists. -/
def fillA (place : Nat → Option (Nat × Nat)) (cells : List AVal) : List (Nat × AVal) → Option (List AVal)
  | [] => some cells
  | (i, v) :: rest => do
    let (off, size) ← place i
    if v.cells.length = size ∧ off + v.cells.length ≤ cells.length ∧ v.cells.all AVal.one = true then fillA place (setRange cells off v.cells) rest else none

def build (E : Env) (t : TypeId) (parts : List (Nat × AVal)) : Option AVal := do
  let z ← E.T.zero t
  match E.T.und t with
  | some (.struct fs) => (fillA (fun i => (fs[i]?).map fun f => (f.offset, E.T.size f.type)) z parts).map .agg
  | some (.array _ e) => (fillA (fun i => some (i * E.T.size e, E.T.size e)) z parts).map .agg
  | _ => none

/-- Cells in pieces of a size: the elements of a slice of a type. -/
def pieces (ag : Bool) (size : Nat) : Nat → List AVal → List AVal
  | 0, _ => []
  | n + 1, cs => (if ag then .agg (cs.take size) else cs.headD .undef) :: pieces ag size n (cs.drop size)

def buildSlice (E : Env) (t : TypeId) (len : Nat) (parts : List (Nat × AVal)) : Option AVal := do
  let some (.slice e) := E.T.und t | none
  let d ← E.T.und e
  let size := E.T.size e
  if len * size > 2 ^ 20 ∨ size = 0 then none else
  let z ← if len = 0 then some [] else E.T.zero e
  let zs := (List.replicate len z).flatten
  let cs ← fillA (fun i => some (i * size, size)) zs parts
  if zs.length = len * size ∧ (isAgg d = true ∨ size = 1) then some (.slice (pieces (isAgg d) size len cs) true) else none

def indexAddr (E : Env) (σ : Store) (t : TypeId) (x : AVal) (i : Int) : Option AVal :=
  match E.T.und t, x with
  | some (.slice e), .slice xs _ => do
    if 0 ≤ i then
      let v ← xs[i.toNat]?
      if v.cells.length = E.T.size e ∧ E.T.size e ≠ 0 then some (.rptr v.cells 0) else none
    else none
  | some (.slice e), .hid h => if E.T.size e = 1 then (E.hidx h i).map fun j => .rptr [.hint j] 0 else none
  | some (.slice e), .oslice id off len _ => if 0 ≤ i ∧ i < len ∧ E.T.size e ≠ 0 then some (.ptr id (off + i.toNat * E.T.size e)) else none
  | some (.array n e), .ptr id off => if 0 ≤ i ∧ i < n ∧ E.T.size e ≠ 0 then some (.ptr id (off + i.toNat * E.T.size e)) else none
  | some (.array n e), .rptr cs off => if 0 ≤ i ∧ i < n ∧ E.T.size e ≠ 0 then some (.rptr cs (off + i.toNat * E.T.size e)) else none
  | _, _ => none

def indexHint (E : Env) (t : TypeId) (x : AVal) (j : Nat) : Option AVal :=
  match E.T.und t, x with
  | some (.slice e), .hid h => if E.T.size e = 1 then (E.hidh h j).map fun m => .rptr [.hint m] 0 else none
  | _, _ => none
def index (E : Env) (t : TypeId) (x : AVal) (i : Int) : Option AVal :=
  match E.T.und t, x with
  | some (.array n e), .agg cs => if 0 ≤ i ∧ i < n then ofCells E e cs (i.toNat * E.T.size e) else none
  | some .string, .str s => if 0 ≤ i then (s[i.toNat]?).map fun b => .int .u8 b.toNat else none
  | _, _ => none

def intOf : AVal → Option Int
  | .int _ n => some n
  | _ => none
/-- A bound of a slice expression that is there. -/
def bnd (x : AVal) (y : Nat) : Option Nat := do
  let i ← intOf x
  if 0 ≤ i ∧ i ≤ y then some i.toNat else none

/-- An element's address, at a number that may be the environment's. -/
def indexAny (E : Env) (σ : Store) (t : TypeId) (x iv : AVal) : Option AVal :=
  match iv with
  | .hint j => indexHint E t x j
  | iv => (intOf iv).bind (indexAddr E σ t x)

def hiB (hi : Option AVal) (y : Nat) (d : Option Nat) : Option Nat :=
  match hi with
  | some v => bnd v y
  | none => d
def loB (lo : Option AVal) (h : Nat) : Option Nat :=
  match lo with
  | some v => bnd v h
  | none => some 0
/-- The bounds of a slice expression: low, high, and the max if it is there. -/
def bounds (lo hi mx : Option AVal) (len : Nat) : Option (Nat × Nat × Option Nat) :=
  match mx with
  | some v => (bnd v len).bind fun m => (hiB hi m none).bind fun h => (loB lo h).map fun l => (l, h, some m)
  | none => (hiB hi len (some len)).bind fun h => (loB lo h).map fun l => (l, h, none)
def exactOf (ex : Bool) (len h : Nat) : Option Nat → Bool
  | some m => h == m
  | none => ex && h == len
def arrSize (σ : Store) (id : Nat) : Option Nat :=
  match σ.get id with
  | some (.arr _ s _) => some s
  | _ => none

def slice (E : Env) (σ : Store) (t : TypeId) (x : AVal) (lo hi mx : Option AVal) : Option AVal :=
  match E.T.und t, x with
  | some .string, .str s => if mx.isSome then none else (bounds lo hi none s.size).map fun b => .str (s.extract b.1 b.2.1)
  | some (.slice _), .nils => (bounds lo hi mx 0).map fun _ => .nils
  | some (.slice e), .slice xs ex =>
    if headSize (E.T.size e) xs = true ∧ E.T.size e ≠ 0 then
      (bounds lo hi mx xs.length).map fun b => .slice ((xs.take b.2.1).drop b.1) (exactOf ex xs.length b.2.1 b.2.2)
    else none
  | some (.slice e), .oslice id off len ex =>
    if arrSize σ id = some (E.T.size e) ∧ E.T.size e ≠ 0 then
      (bounds lo hi mx len).bind fun b =>
        if exactOf ex len b.2.1 b.2.2 = false ∧ (ex = true ∨ b.2.2.isSome) then none
        else if b.2.1 = b.1 ∧ b.1 ≠ 0 then some (.slice [] (exactOf ex len b.2.1 b.2.2))
        else some (.oslice id (off + b.1 * E.T.size e) (b.2.1 - b.1) (exactOf ex len b.2.1 b.2.2))
    else none
  | _, _ => none

def convert (E : Env) (σ : Store) (src dst : TypeId) (x : AVal) : Option (AVal × Store) :=
  match E.T.und src, E.T.und dst, x with
  | some (.int _), some (.int k), .int _ n => some (.int k (k.wrap n), σ)
  | some .string, some .string, .str s => some (.str s, σ)
  | some .string, some (.slice e), .str s =>
    match E.T.und e with
    | some (.int .u8) => some (.oslice σ.next 0 s.size false, σ.new (.arr false 1 (s.data.toList.map fun b => .int .u8 b.toNat)))
    | _ => none
  | some (.slice e), some .string, x =>
    match E.T.und e, lenOf x with
    | some (.int .u8), some n => do
      let cs ← elemCells E σ 1 n x
      let bs ← bytesOf cs
      some (.str ⟨bs.toArray⟩, σ)
    | _, _ => none
  | _, _, _ => none
where
  bytesOf : List AVal → Option (List UInt8)
    | [] => some []
    | .int .u8 n :: r => (bytesOf r).map (UInt8.ofNat n.toNat :: ·)
    | _ => none

def zeroOf (T : Tab) (t : TypeId) : Option AVal := do
  let z ← T.zero t
  let d ← T.und t
  if isAgg d then some (.agg z) else z[0]?
/-- An assertion that does not hold. -/
def assertNo (E : Env) (t : TypeId) (ok : Bool) : Option AVal := if ok then (zeroOf E.T t).map fun z => .tuple [z, .bool false] else none
def typeAssert (E : Env) (x : AVal) (t : TypeId) (ok : Bool) : Option AVal :=
  match E.T.und t with
  | none | some (.interface _) => none
  | some _ =>
    match x with
    | .iface u v => if u = t then some (if ok then .tuple [v, .bool true] else v) else assertNo E t ok
    | .niliface => assertNo E t ok
    | _ => none

def makeInterface (E : Env) (t : TypeId) (x : AVal) : Option AVal :=
  match E.T.und t with
  | none | some (.interface _) => none
  | _ => some (.iface t x)

/-! maps: keys are numbers or texts -/
def keyEq : AVal → AVal → Option Bool
  | .int j a, .int k b => if j = k then some (a == b) else none
  | .str a, .str b => some (a == b)
  | _, _ => none
def findKey (k : AVal) : List (AVal × AVal) → Nat → Option (Option (Nat × AVal))
  | [], _ => some none
  | e :: es, i =>
    match keyEq k e.1 with
    | some true => some (some (i, e.2))
    | some false => findKey k es (i + 1)
    | none => none
def plainKey (T : Tab) (t : TypeId) (k : AVal) : Bool :=
  match T.und t, k with
  | some (.int _), .int _ _ => true
  | some .string, .str _ => true
  | _, _ => false
def mapEntries (σ : Store) : AVal → Option (List (AVal × AVal))
  | .nilmap => some []
  | .map id => do
    let o ← σ.get id
    match o with
    | .map es => some es
    | .rmap es _ _ => some es
    | _ => none
  | _ => none
def lookup (E : Env) (σ : Store) (t : TypeId) (m k : AVal) (ok : Bool) : Option AVal := do
  let some (.map kt et) := E.T.und t | none
  if plainKey E.T kt k then
    let es ← mapEntries σ m
    let r ← findKey k es 0
    match r with
    | some (_, v) => some (if ok then .tuple [v, .bool true] else v)
    | none =>
      let z ← zeroOf E.T et
      some (if ok then .tuple [z, .bool false] else z)
  else none
def mapUpdate (E : Env) (σ : Store) (t : TypeId) (m k v : AVal) : Option Store := do
  let some (.map kt _) := E.T.und t | none
  if plainKey E.T kt k then
    match m with
    | .map id =>
      let es ← mapEntries σ m
      let r ← findKey k es 0
      match r with
      | some (i, _) => some (σ.put id (.map (es.set i (k, v))))
      | none => some (σ.put id (.map (es ++ [(k, v)])))
    | _ => none
  else none
def mapDelete (E : Env) (σ : Store) (t : TypeId) (m k : AVal) : Option Store := do
  let some (.map kt _) := E.T.und t | none
  if plainKey E.T kt k then
    match m with
    | .nilmap => some σ
    | .map id =>
      let es ← mapEntries σ m
      let r ← findKey k es 0
      match r with
      | some (i, _) => some (σ.put id (.map (es.eraseIdx i)))
      | none => some σ
    | _ => none
  else none

/-! make, append, copy, clear -/
def makeSlice (E : Env) (σ : Store) (t : TypeId) (l c : AVal) : Option (AVal × Store) := do
  let some (.slice e) := E.T.und t | none
  let l ← intOf l
  let c ← intOf c
  if 0 ≤ l ∧ l = c ∧ c ≤ 2 ^ 24 ∧ E.T.bytes e ≤ 2 ^ 20 ∧ E.T.size e ≠ 0 then
    let z ← E.T.zero e
    let d ← E.T.und e
    if z.length = E.T.size e ∧ (isAgg d = true ∨ E.T.size e = 1) then some (.oslice σ.next 0 c.toNat true, σ.new (.arr (isAgg d) (E.T.size e) ((List.replicate c.toNat z).flatten))) else none
  else none

/-- Zeros behind nil: 'append(nil, make(.., l)...)'. -/
def appendMake (E : Env) (σ : Store) (e : TypeId) (s x : AVal) : Option (AVal × Store) := do
  let d ← E.T.und e
  let z ← E.T.zero e
  match s, x with
  | .nils, .int _ l =>
    if E.T.size e = 0 ∨ (isAgg d = false ∧ E.T.size e ≠ 1) ∨ IntKind.i64.wrap l ≠ l ∨ l ≤ 0 ∨ l.toNat * E.T.bytes e > 2 ^ 40 ∨ l.toNat > 2 ^ 40 then none
    else some (.oslice σ.next 0 l.toNat false, σ.new (.arr (isAgg d) (E.T.size e) ((List.replicate l.toNat z).flatten)))
  | _, _ => none
def append (E : Env) (σ : Store) (argTypes : Array TypeId) (s x : AVal) : Option (AVal × Store) := do
  let some st := argTypes[0]? | none
  let some (.slice e) := E.T.und st | none
  let some xt := argTypes[1]? | none
  match E.T.und xt with
  | none => none
  | some (.int _) => appendMake E σ e s x
  | _ =>
  let size := E.T.size e
  let d ← E.T.und e
  if size = 0 ∨ (isAgg d = false ∧ size ≠ 1) then none else
  let n ← lenOf x
  let m ← lenOf s
  let new ← elemCells E σ size n x
  if (m + n) * E.T.bytes e > 2 ^ 40 ∨ m + n > 2 ^ 40 ∨ (E.T.zero e).isNone then none else
  if n = 0 then
    match s with
    | .slice _ _ | .oslice _ _ _ _ | .nils => some (s, σ)
    | _ => none
  else
  match s with
  | .nils => some (.oslice σ.next 0 (m + n) false, σ.new (.arr (isAgg d) size ([] ++ new)))
  | .slice _ ex =>
    if ex then
      let old ← elemCells E σ size m s
      some (.oslice σ.next 0 (m + n) false, σ.new (.arr (isAgg d) size (old ++ new)))
    else none
  | .oslice id off len ex => do
    let o ← σ.get id
    match o with
    | .arr g sz cs =>
      if off + len * size > cs.length ∨ sz ≠ size then none else
      if ex then some (.oslice σ.next 0 (m + n) false, σ.new (.arr (isAgg d) size ((cs.drop off).take (len * size) ++ new)))
      else if off + len * size = cs.length then some (.oslice σ.next 0 (m + n) false, (σ.del id).new (.arr (isAgg d) size (cs.drop off ++ new)))
      else if off + (len + n) * size ≤ cs.length then some (.oslice id off (len + n) false, σ.put id (.arr g sz (setRange cs (off + len * size) new)))
      else none
    | _ => none
  | _ => none

def copy (E : Env) (σ : Store) (argTypes : Array TypeId) (d s : AVal) : Option (AVal × Store) := do
  let some dt := argTypes[0]? | none
  let some (.slice e) := E.T.und dt | none
  let size := E.T.size e
  if size = 0 then none else
  let n ← lenOf s
  let m ← lenOf d
  let k := min n m
  let new ← elemCells E σ size k s
  match d with
  | .slice _ _ | .nils => if k = 0 then some (.int .i64 0, σ) else none
  | .oslice id off _ _ => do
    let o ← σ.get id
    match o with
    | .arr g sz cs => if off + k * size ≤ cs.length ∧ sz = size then some (.int .i64 k, σ.put id (.arr g sz (setRange cs off new))) else none
    | _ => none
  | _ => none

def clear (E : Env) (σ : Store) (argTypes : Array TypeId) (x : AVal) : Option Store := do
  let some t := argTypes[0]? | none
  match E.T.und t, x with
  | some (.slice e), .slice [] _ => some σ
  | some (.slice e), .nils => some σ
  | some (.slice e), .oslice id off len _ => do
    let size := E.T.size e
    if size = 0 then none else
    let o ← σ.get id
    let z ← E.T.zero e
    match o with
    | .arr g sz cs => if off + len * size ≤ cs.length ∧ z.length = size ∧ sz = size then some (σ.put id (.arr g sz (setRange cs off ((List.replicate len z).flatten)))) else none
    | _ => none
  | _, _ => none

def maxMin (mx : Bool) : List AVal → Option AVal
  | [.int k a, .int k' b] => if k = k' then some (.int k (if mx then (if b > a then b else a) else (if b < a then b else a))) else none
  | [.int k a, .int k' b, .int k'' c] => if k = k' ∧ k = k'' then
      let d := if mx then (if b > a then b else a) else (if b < a then b else a)
      some (.int k (if mx then (if c > d then c else d) else (if c < d then c else d))) else none
  | _ => none

def len (E : Env) (σ : Store) (argTypes : Array TypeId) (x : AVal) : Option AVal := do
  let some t := argTypes[0]? | none
  match E.T.und t, x with
  | some .string, .str s => some (.int .i64 s.size)
  | some (.slice _), .slice xs _ => some (.int .i64 xs.length)
  | some (.slice _), .oslice _ _ n _ => some (.int .i64 n)
  | some (.slice _), .nils => some (.int .i64 0)
  | some (.slice _), .hid i => (E.hlen i).map .hint
  | some (.array n _), _ => some (.int .i64 n)
  | some (.map _ _), m => (mapEntries σ m).map fun es => .int .i64 es.length
  | _, _ => none

/-- What is known of a slice's capacity: it is its length. -/
def cap (E : Env) (argTypes : Array TypeId) (x : AVal) : Option AVal := do
  let some t := argTypes[0]? | none
  match E.T.und t, x with
  | some (.slice _), .slice xs true => some (.int .i64 xs.length)
  | some (.slice _), .oslice _ _ n true => some (.int .i64 n)
  | some (.slice _), .nils => some (.int .i64 0)
  | _, _ => none

/-- It is known that a hidden slice has at most forty elements. -/
def short (E : Env) (i : Nat) : Bool :=
  match E.hlen i with
  | some j => match E.orc .gtr (.hint j) (.int .i64 40) with
    | some (.bool false) => true
    | _ => false
  | none => false
/-- A hidden slice behind an empty one: a new slice, that stands for the same. -/
def hidAppend (E : Env) (σ : Store) (argTypes : Array TypeId) (i : Nat) : Option (AVal × Store) := do
  let some st := argTypes[0]? | none
  let some (.slice e) := E.T.und st | none
  let some xt := argTypes[1]? | none
  match E.T.und xt with
  | none => none
  | some (.int _) => none
  | _ =>
  let d ← E.T.und e
  if short E i = false ∨ E.T.size e ≠ 1 ∨ isAgg d = true ∨ E.T.bytes e > 256 ∨ (E.T.zero e).isNone = true then none else some (.hid i, { σ with next := σ.next + 1 })

def builtin (E : Env) (σ : Store) (b : Builtin) (argTypes : Array TypeId) (args : List AVal) : Option (AVal × Store) :=
  match b, args with
  | .len, x :: _ => (len E σ argTypes x).map (·, σ)
  | .cap, x :: _ => (cap E argTypes x).map (·, σ)
  | .append, [.slice [] true, .hid i] => hidAppend E σ argTypes i
  | .append, s :: x :: _ => append E σ argTypes s x
  | .copy, d :: s :: _ => copy E σ argTypes d s
  | .clear, x :: _ => (clear E σ argTypes x).map (AVal.tuple [], ·)
  | .delete, m :: k :: _ => do
    let some t := argTypes[0]? | none
    let σ ← mapDelete E σ t m k
    some (AVal.tuple [], σ)
  | .max, l => (maxMin true l).map (·, σ)
  | .min, l => (maxMin false l).map (·, σ)
  | _, _ => none

def nilCheck : AVal → Option AVal
  | .nilptr | .niliface | .nilfunc => none
  | x => some x

def evals (E : Env) (tm : List AVal) : List Operand → Option (List AVal)
  | [] => some []
  | x :: xs => do
    let v ← eval E tm x
    let vs ← evals E tm xs
    some (v :: vs)
def evalParts (E : Env) (tm : List AVal) : List (Nat × Operand) → Option (List (Nat × AVal))
  | [] => some []
  | (i, x) :: xs => do
    let v ← eval E tm x
    let vs ← evalParts E tm xs
    some ((i, v) :: vs)
def evalOpt (E : Env) (tm : List AVal) : Option Operand → Option (Option AVal)
  | none => some none
  | some x => (eval E tm x).map some

/-- Iterators over strings. -/
def next (σ : Store) (it : AVal) (isString : Bool) : Option (AVal × Store) :=
  match it, isString with
  | .ptr id 0, true => do
    let o ← σ.get id
    match o with
    | .iter s pos =>
      if pos < s.size then
        let (c, w) := Utf8.decode s pos
        some (.tuple [.bool true, .int .i64 pos, .int .i32 c], σ.put id (.iter s (pos + w)))
      else some (.tuple [.bool false], σ)
    | _ => none
  | .ptr id 0, false => do
    let .itof m ← σ.get id | none
    let .rmap es it n ← σ.get m | none
    if it ≠ id then none else
    match es, n with
    | [], 0 => some (.tuple [.bool false], σ.put m (.map []))
    | [e], 0 => some (.tuple [.bool true, e.1, e.2], σ.put m (.rmap [e] it 1))
    | [e], 1 => some (.tuple [.bool false], σ.put m (.map [e]))
    | _, _ => none
  | _, _ => none

/-- The entry that an iterator came to. -/
def entry (σ : Store) (it : AVal) : Option AVal :=
  match it with
  | .ptr id 0 => do
    let .itof m ← σ.get id | none
    let .rmap es i n ← σ.get m | none
    if i ≠ id then none else
    match es, n with
    | [e], 1 => some (.tuple [e.1, e.2])
    | _, _ => none
  | _ => none

/-- An operation that is no call of a function. -/
def aop (E : Env) (tm : List AVal) (σ : Store) (op : Op) : Option (AVal × Store) :=
  match op with
  | .move x | .assign x => (eval E tm x).map (·, σ)
  | .pick c a b => do
    let .bool t ← eval E tm c | none
    let v ← eval E tm (if t then a else b)
    some (v, σ)
  | .alloc t => alloc E σ t
  | .box _ x => do box σ (← eval E tm x)
  | .build t ps => do
    let l ← evalParts E tm ps.toList
    (build E t l).map (·, σ)
  | .buildSlice t n ps => do
    let l ← evalParts E tm ps.toList
    (buildSlice E t n l).map (·, σ)
  | .load t a => do (load E σ t (← eval E tm a)).map (·, σ)
  | .store t a x => do (store E σ t (← eval E tm a) (← eval E tm x)).map (AVal.undef, ·)
  | .nilCheck x => do (nilCheck (← eval E tm x)).map (·, σ)
  | .binOp o t x y _ => do (binOp E o t (← eval E tm x) (← eval E tm y)).map (·, σ)
  | .unOp o _ x => do (unOp o (← eval E tm x)).map (·, σ)
  | .convert a b x => do convert E σ a b (← eval E tm x)
  | .makeInterface t x => do (makeInterface E t (← eval E tm x)).map (·, σ)
  | .makeFunc (.func f) first caps => do
    let a ← evals E tm first.toList
    let b ← evals E tm caps.toList
    some (.func f a b, σ)
  | .makeMap _ none => some (.map σ.next, σ.new (.map []))
  | .makeSlice t l c => do makeSlice E σ t (← eval E tm l) (← eval E tm c)
  | .slice t x lo hi mx => do (slice E σ t (← eval E tm x) (← evalOpt E tm lo) (← evalOpt E tm hi) (← evalOpt E tm mx)).map (·, σ)
  | .fieldAddr t x i => do (fieldAddr E t i (← eval E tm x)).map (·, σ)
  | .field t x i => do (field E t i (← eval E tm x)).map (·, σ)
  | .indexAddr t x i => do (indexAny E σ t (← eval E tm x) (← eval E tm i)).map (·, σ)
  | .index t x i => do (index E t (← eval E tm x) (← intOf (← eval E tm i))).map (·, σ)
  | .lookup t x k ok => do (lookup E σ t (← eval E tm x) (← eval E tm k) ok).map (·, σ)
  | .mapUpdate t m k v => do (mapUpdate E σ t (← eval E tm m) (← eval E tm k) (← eval E tm v)).map (AVal.undef, ·)
  | .range t x => do
    match E.T.und t, (← eval E tm x) with
    | some .string, .str s => some (.ptr σ.next 0, σ.new (.iter s 0))
    | some (.map _ _), .map m => do
      let es ← mapEntries σ (.map m)
      some (.ptr σ.next 0, (σ.put m (.rmap es σ.next 0)).new (.itof m))
    | _, _ => none
  | .next it b => do next σ (← eval E tm it) b
  | .entry it => do (entry σ (← eval E tm it)).map (·, σ)
  | .typeAssert x _ t ok => do (typeAssert E (← eval E tm x) t ok).map (·, σ)
  | .extract x i => do
    match (← eval E tm x) with
    | .tuple vs => (vs[i]?).map (·, σ)
    | _ => none
  | .call { callee := .builtin b, args, argTypes } => do builtin E σ b argTypes (← evals E tm args.toList)
  | _ => none

end Go.Ab

namespace Go.Ab

/-! slices that are handed on as values: an owned array becomes its elements, and is owned no more -/
def sealL (s : Store → AVal → Option (AVal × Store)) : Store → List AVal → Option (List AVal × Store)
  | σ, [] => some ([], σ)
  | σ, v :: vs => do
    let (a, σ) ← s σ v
    let (l, σ) ← sealL s σ vs
    some (a :: l, σ)
def sealV : Nat → Store → AVal → Option (AVal × Store)
  | 0, _, _ => none
  | d + 1, σ, v =>
    match v with
    | .slice xs ex =>
      if ex then do
        let (l, σ) ← sealL (sealV d) σ xs
        some (.slice l false, σ)
      else some (.slice xs false, σ)
    | .oslice id off len _ => do
      let o ← σ.get id
      match o with
      | .arr g size cs =>
        if off + len * size ≤ cs.length ∧ size ≠ 0 ∧ (g = true ∨ size = 1) ∧ cs.all AVal.one = true then do
          let (l, σ) ← sealL (sealV d) (σ.del id) (pieces g size len (cs.drop off))
          some (.slice l false, σ)
        else none
      | _ => none
    | .agg cs => do
      let (l, σ) ← sealL (sealV d) σ cs
      some (.agg l, σ)
    | .tuple vs => do
      let (l, σ) ← sealL (sealV d) σ vs
      some (.tuple l, σ)
    | .iface t x => do
      let (y, σ) ← sealV d σ x
      some (.iface t y, σ)
    | v => some (v, σ)
theorem sealV_zero (σ : Store) (v : AVal) : sealV 0 σ v = none := by unfold sealV; rfl
def sealArgs (σ : Store) (vs : List AVal) : Option (List AVal × Store) := sealL (sealV 8) σ vs

/-! one operation, in a region -/
/-- Who is called: a function; the loop's body of a range over a function. -/
inductive Callee where
  | fn (g : FuncId)
  | yield (id : Nat)
abbrev Caller := Callee → List AVal → Store → Option (AVal × Store)

def wantedA (o : Oper) (ops : Array Oper) (tm : List AVal) : Option Bool :=
  match o.guard with
  | none => some true
  | some (j, want) =>
    match (ops[j]?).bind (·.dst) with
    | some d =>
      match tm[d]? with
      | some (.bool b) => some (b == want)
      | _ => some false
    | none => some false

def stepOp (E : Env) (call : Caller) (o : Oper) (tm : List AVal) (σ : Store) : Option (AVal × Store) :=
  match o.op with
  | .call { callee := .value f, args, argTypes := _ } => do
    let fv ← eval E tm f
    match fv with
    | .func g first caps =>
      let l ← evals E tm args.toList
      call (.fn g) (first ++ l ++ caps) σ
    | .yield id =>
      let l ← evals E tm args.toList
      call (.yield id) l σ
    | _ => none
  | op => aop E tm σ op

def putTm (tm : List AVal) (dst : Option Tmp) (v : AVal) : List AVal :=
  match dst with
  | some d => tm.set d v
  | none => tm

def runOps (E : Env) (call : Caller) (ops : Array Oper) : List Nat → List AVal → Store → Option (List AVal × Store)
  | [], tm, σ => some (tm, σ)
  | i :: l, tm, σ =>
    match ops[i]? with
    | none => none
    | some o => do
      let w ← wantedA o ops tm
      if w then
        let (v, σ) ← stepOp E call o tm σ
        runOps E call ops l (putTm tm o.dst v) σ
      else runOps E call ops l (putTm tm o.dst .undef) σ

/-! a region that draws its order: by its plan -/
/-- What an operation makes, and how it is named. -/
def birth (E : Env) (tm : List AVal) : Op → Option ((Nat → AVal) × AObj)
  | .alloc t => (E.T.zero t).map fun z => (fun i => .ptr i 0, .cells z)
  | .box _ x => (eval E tm x).bind fun v => if v.cells.all AVal.one then some (fun i => .ptr i 0, .cells v.cells) else none
  | .makeMap _ none => some (.map, .map [])
  | _ => none
/-- An operation that makes an object, at a number that was set aside. -/
def stepAt (E : Env) (call : Caller) (o : Oper) (tm : List AVal) (σ : Store) (id : Option Nat) : Option (AVal × Store) :=
  match id with
  | none => stepOp E call o tm σ
  | some id => (birth E tm o.op).map fun b => (b.1 id, σ.put id b.2)
/-- What a run by a plan notes: each operation's frame and value, and the stores behind each effect. -/
structure Log where
  seen : List (Nat × List AVal × AVal)
  stores : List Store
def runPlan (E : Env) (call : Caller) (ops : Array Oper) (effs allocs : List Nat) (base : Nat) : List Nat → List AVal → Store → Log → Option (List AVal × Store × Log)
  | [], tm, σ, lg => some (tm, σ, lg)
  | i :: l, tm, σ, lg =>
    match ops[i]? with
    | none => none
    | some o => do
      let w ← wantedA o ops tm
      let (v, σ') ← if w then stepAt E call o tm σ ((allocs.idxOf? i).map (base + ·)) else some (.undef, σ)
      let lg := if effs.contains i then { lg with stores := lg.stores ++ [σ'] } else lg
      let lg := { lg with seen := (i, tm, v) :: lg.seen }
      runPlan E call ops effs allocs base l (putTm tm o.dst v) σ' lg

/-- Does a read keep its value, in the stores behind the effects lo to hi? -/
def checkRead (E : Env) (ops : Array Oper) (lg : Log) (c : Nat × Nat × Nat) : Bool :=
  match lg.seen.find? (fun x => x.1 == c.1), ops[c.1]? with
  | some (_, tm, v), some o => wantedA o ops tm == some false || (List.range (c.2.2 + 1)).all fun j => j < c.2.1 ||
      (match lg.stores[j]? with
       | some σ => decide ((aop E tm σ o.op).map (·.1) = some v)
       | none => false)
  | _, _ => false

def runRegion (E : Env) (call : Caller) (f : FuncId) (id : Nat) (ops : Array Oper) (draw : Bool) (tm : List AVal) (σ : Store) : Option (List AVal × Store) :=
  if draw then do
    let p ← E.plan f id
    let base := σ.next
    let σ := { σ with next := σ.next + p.allocs.length }
    let (tm, σ', lg) ← runPlan E call ops p.effs p.allocs base p.order tm σ { seen := [], stores := [σ] }
    if p.checks.all (checkRead E ops lg) then some (tm, σ') else none
  else runOps E call ops (List.range ops.size) tm σ

/-! code -/
inductive Ex where
  | normal
  | exit (id : Nat)
  | ret
  deriving DecidableEq

abbrev Exec := FuncId → Code → List AVal → Store → Option (Ex × List AVal × Store)

def resultsA (E : Env) (rs : List ResultVar) (tm : List AVal) (σ : Store) : Option (List AVal) :=
  match rs with
  | [] => some []
  | .tmp t :: r => do
    let l ← resultsA E r tm σ
    some (tm.getD t .undef :: l)
  | .cell a t :: r => do
    let v ← load E σ t (tm.getD a .undef)
    let l ← resultsA E r tm σ
    some (v :: l)
def oneOf : List AVal → AVal
  | [v] => v
  | l => .tuple l

/-- A call of a function that has a body. -/
def enter (E : Env) (ex : Exec) (g : FuncId) (args : List AVal) (σ : Store) : Option (AVal × Store) := do
  let fn ← E.fn g
  let c ← fn.body
  let (e, tm, σ) ← ex g c (args ++ List.replicate (fn.ntmps - args.length) .undef) σ
  match e with
  | .exit _ => none
  | _ =>
    let l ← resultsA E fn.results.toList tm σ
    some (oneOf l, σ)

/-- The frame of a round. -/
def roundTm (tm : List AVal) : List (Tmp × AVal) → List AVal
  | [] => tm
  | (t, v) :: l => roundTm (tm.set t v) l
def jumpOf : Ex → Jump
  | .normal => .none
  | .exit id => .exit id
  | .ret => .ret
def Jump.isNone : Jump → Bool
  | .none => true
  | _ => false
def getLoop (σ : Store) (id : Nat) : Option ALoop :=
  match σ.get id with
  | some (.loop l) => some l
  | _ => none
/-- A round of a range over a function. -/
def roundA (ex : Exec) (id : Nat) (args : List AVal) (σ : Store) : Option (AVal × Store) := do
  let l ← getLoop σ id
  if l.ps.size ≠ args.length then none else
  let (e1, tm1, σ1) ← ex l.fn l.assign (roundTm l.tm (l.ps.toList.zip args)) σ
  match e1 with
  | .normal =>
    let l1 ← getLoop σ1 id
    if l1.busy || !l1.jump.isNone then none else
    let (e2, _, σ2) ← ex l.fn l.body tm1 (σ1.put id (.loop { l1 with busy := true }))
    let l2 ← getLoop σ2 id
    some (.bool (jumpOf e2).isNone, σ2.put id (.loop { l2 with busy := false, jump := jumpOf e2 }))
  | _ => none

/-- A call: how its slices are handed over goes by who calls whom. -/
def callF (E : Env) (ex : Exec) (f : FuncId) : Caller := fun c args σ =>
  match c with
  | .yield id => roundA ex id args σ
  | .fn g => do
  let p := E.pol f g
  let (args, σ) ← if p.args then some (args, σ) else sealArgs σ args
  let (v, σ) ← match E.prim g with
    | some pr => pr args σ
    | none => enter E ex g args σ
  if p.res then some (v, σ) else sealV 8 σ v

/-- A range over a function: what is left of it. -/
def afterLoop (tm : List AVal) (id : Nat) (σ : Store) : Option (Ex × List AVal × Store) := do
  let l ← getLoop σ id
  if l.busy then none else
  match l.jump with
  | .none => some (.normal, tm, σ.del id)
  | .exit j => some (.exit j, tm, σ.del id)
  | .ret => some (.ret, tm, σ.del id)

def stepCode (E : Env) (ex : Exec) : Exec := fun f c tm σ =>
  match c with
  | .skip | .label _ => some (.normal, tm, σ)
  | .region id ops draw => (runRegion E (callF E ex f) f id ops draw tm σ).map fun r => (.normal, r.1, r.2)
  | .seq a b => do
    let (e, tm, σ) ← ex f a tm σ
    match e with
    | .normal => ex f b tm σ
    | e => some (e, tm, σ)
  | .cond x a b => do
    let .bool t ← eval E tm x | none
    ex f (if t then a else b) tm σ
  | .block id b => do
    let (e, tm, σ) ← ex f b tm σ
    some (if e = .exit id then .normal else e, tm, σ)
  | .loop b => do
    let (e, tm, σ) ← ex f b tm σ
    match e with
    | .normal => ex f (.loop b) tm σ
    | e => some (e, tm, σ)
  | .scope b => ex f b tm σ
  | .exit id => some (.exit id, tm, σ)
  | .ret => some (.ret, tm, σ)
  | .rangeFunc g ps assign body => do
    let .func h first caps ← eval E tm g | none
    if (E.prim h).isSome then none else
    let (_, σ1) ← callF E ex f (.fn h) (first ++ [.yield σ.next] ++ caps) (σ.new (.loop { fn := f, tm, ps, assign, body, busy := false, jump := .none }))
    afterLoop tm σ.next σ1
  | _ => none

def exec (E : Env) (k : Nat) : Exec := Nat.rec (fun _ _ _ _ => none) (fun _ ex => stepCode E ex) k
theorem exec_zero (E : Env) : exec E 0 = fun _ _ _ _ => none := rfl
theorem exec_succ (E : Env) (k : Nat) : exec E (k + 1) = stepCode E (exec E k) := rfl

/-- A call of function g by f, with k levels of code. -/
def acall (E : Env) (k : Nat) (f g : FuncId) (args : List AVal) (σ : Store) : Option (AVal × Store) := callF E (exec E k) f (.fn g) args σ

/-! plans that may be run in any order -/
/-- Operations that leave the store, and do not look at it. -/
def pureOp (T : Tab) : Op → Bool
  | .move _ | .assign _ | .pick .. | .build .. | .buildSlice .. | .nilCheck _ | .binOp .. | .unOp .. | .makeInterface .. | .makeFunc .. | .fieldAddr .. | .field .. | .indexAddr .. | .index .. | .typeAssert .. | .extract .. => true
  | .call { callee := .builtin .max, .. } | .call { callee := .builtin .min, .. } => true
  | .convert s d _ => match T.und s, T.und d with
    | some (.int _), some (.int _) => true
    | some .string, some .string => true
    | _, _ => false
  | _ => false
/-- Operations that leave the store. -/
def stillOp (T : Tab) (op : Op) : Bool :=
  pureOp T op || match op with
  | .load .. | .slice .. | .lookup .. => true
  | .call { callee := .builtin .len, .. } => true
  | .convert s d _ => match T.und s, T.und d with
    | some (.slice _), some .string => true
    | _, _ => false
  | _ => false

def Plan.ancs (p : Plan) (i : Nat) : List Nat := p.anc.getD i []
def birthOp : Op → Bool
  | .alloc _ | .box .. | .makeMap _ none => true
  | _ => false
def nodupB : List Nat → Bool
  | [] => true
  | i :: l => !l.contains i && nodupB l
/-- The ancestors of an operation are ancestors. -/
def ancB (ops : Array Oper) (p : Plan) (i : Nat) : Bool :=
  (p.ancs i).all fun j => match ops[i]? with
    | some o => o.after.any fun e => Region.binds .any e && (e.on == j || (p.ancs e.on).contains j)
    | none => false
/-- The order keeps the edges, and the ancestors; an effect's ancestors are all effects, and all new objects, ahead of it. -/
def orderB (ops : Array Oper) (p : Plan) : List Nat → List Nat → Bool
  | _, [] => true
  | ahead, i :: l =>
    (p.ancs i).all ahead.contains &&
    (match ops[i]? with
     | some o => o.after.all fun e => !Region.binds .any e || ahead.contains e.on
     | none => false) &&
    (!p.effs.contains i || ahead.all fun j => !(p.effs.contains j || p.allocs.contains j) || (p.ancs i).contains j) &&
    orderB ops p (i :: ahead) l
/-- Two operations write different temporaries; what one looks at and the other writes is ordered. -/
def apartB (ops : Array Oper) (p : Plan) (i j : Nat) : Bool :=
  i == j || match ops[i]?, ops[j]? with
    | some x, some y => match y.dst with
      | some t => x.dst != some t && (!(x.looksAt ops).contains t || (p.ancs i).contains j || (p.ancs j).contains i)
      | none => true
    | _, _ => true
/-- Each operation is of a kind that the plan knows. -/
def kindB (T : Tab) (ops : Array Oper) (p : Plan) (i : Nat) : Bool :=
  match ops[i]? with
  | some o =>
    if p.effs.contains i then !p.allocs.contains i
    else if p.allocs.contains i then birthOp o.op
    else pureOp T o.op || (stillOp T o.op && p.checks.any fun c => c.1 == i &&
      (c.2.1 == 0 || match p.effs[c.2.1 - 1]? with | some j => (p.ancs i).contains j | none => false) &&
      (decide (p.effs.length ≤ c.2.2) || match p.effs[c.2.2]? with | some j => (p.ancs j).contains i | none => false))
  | none => false
def planOk (T : Tab) (ops : Array Oper) (p : Plan) : Bool :=
  (List.range ops.size).all p.order.contains && p.order.all (fun i => decide (i < ops.size)) && nodupB p.order &&
  ((List.range ops.size).all (ancB ops p)) && orderB ops p [] p.order &&
  ((List.range ops.size).all fun i => (List.range ops.size).all (apartB ops p i)) &&
  ((List.range ops.size).all (kindB T ops p)) && (p.order.filter p.effs.contains == p.effs)

/-- No range over a function in it. -/
def noRange : Code → Bool
  | .seq a b | .cond _ a b => noRange a && noRange b
  | .block _ b | .loop b | .scope b => noRange b
  | .rangeFunc .. => false
  | _ => true
/-- Every region of a code that draws its order has a good plan; ranges over functions are not nested. -/
def codeOk (E : Env) (f : FuncId) : Code → Bool
  | .region id ops true => match E.plan f id with | some p => planOk E.T ops p | none => false
  | .seq a b | .cond _ a b => codeOk E f a && codeOk E f b
  | .block _ b | .loop b | .scope b => codeOk E f b
  | .rangeFunc _ _ a b => codeOk E f a && codeOk E f b && noRange a && noRange b
  | _ => true

end Go.Ab

namespace Go.Ab
open Go.RowKit (Below)

/-- Where an object lies: its block, its first cell, how many cells, the size of an element. -/
structure Place where
  block : Nat
  off : Nat
  lim : Nat
  size : Nat

/-- What is known: where objects lie; cells that stay as they are. -/
structure Kn where
  base : Nat → Option Place
  imm : Nat → Nat → Option Value
  mark : Nat → Bool
  ok : FuncId → Code → Prop
  hid : Nat → List AVal
  hint : Nat → Int
  lim : Nat

inductive VR (κ : Kn) : AVal → Value → Prop
  | bool (b : Bool) : VR κ (.bool b) (.bool b)
  | int (k : IntKind) (n : Int) : VR κ (.int k n) (.int k n)
  | str (s : ByteArray) : VR κ (.str s) (.string s)
  | nilptr : VR κ .nilptr (.pointer none)
  | ptr (id off : Nat) (p : Place) (h : κ.base id = some p) : VR κ (.ptr id off) (.pointer (some ⟨p.block, p.off + off, none⟩))
  | rptr (cs : List AVal) (off b o : Nat) (f : Nat → Value) (h1 : ∀ j, j < cs.length → κ.imm b (o + j) = some (f j)) (h2 : ∀ (j : Nat) (y : AVal), cs[j]? = some y → VR κ y (f j)) :
      VR κ (.rptr cs off) (.pointer (some ⟨b, o + off, none⟩))
  | nils : VR κ .nils (.slice none 0 0)
  | yield (id : Nat) (p : Place) (h : κ.base id = some p) : VR κ (.yield id) (.func (.yield p.block) #[] #[])
  | hid (i : Nat) (a : Option Addr) (n cap : Nat) (h : VR κ (.slice (κ.hid i) false) (.slice a n cap)) : VR κ (.hid i) (.slice a n cap)
  | hint (i : Nat) : VR κ (.hint i) (.int .i64 (κ.hint i))
  | nilslice (ex : Bool) (a : Addr) (cap : Nat) (h : ex = true → cap = 0) : VR κ (.slice [] ex) (.slice (some a) 0 cap)
  | slice (xs : List AVal) (ex : Bool) (b o s cap : Nat) (f : Nat → Nat → Value) (hx : xs ≠ []) (hc : xs.length ≤ cap) (he : ex = true → cap = xs.length)
      (hs : ∀ (i : Nat) (x : AVal), xs[i]? = some x → x.cells.length = s) (h1 : ∀ i j, i < xs.length → j < s → κ.imm b (o + i * s + j) = some (f i j))
      (h2 : ∀ (i : Nat) (x : AVal) (j : Nat) (y : AVal), xs[i]? = some x → x.cells[j]? = some y → VR κ y (f i j)) : VR κ (.slice xs ex) (.slice (some ⟨b, o, none⟩) xs.length cap)
  | oslice (id off len : Nat) (ex : Bool) (p : Place) (cap : Nat) (h : κ.base id = some p) (hc : len ≤ cap) (he : ex = true → cap = len) (hl : off + cap * p.size ≤ p.lim) (hn : ex = false → off + cap * p.size = p.lim) :
      VR κ (.oslice id off len ex) (.slice (some ⟨p.block, p.off + off, none⟩) len cap)
  | nilmap : VR κ .nilmap (.map none)
  | map (id : Nat) (p : Place) (h : κ.base id = some p) : VR κ (.map id) (.map (some p.block))
  | func (f : FuncId) (xs ys : List AVal) (us vs : Array Value) (hu : us.size = xs.length) (hv : vs.size = ys.length)
      (h1 : ∀ (j : Nat) (y : AVal), xs[j]? = some y → VR κ y (us.getD j undef)) (h2 : ∀ (j : Nat) (y : AVal), ys[j]? = some y → VR κ y (vs.getD j undef)) : VR κ (.func f xs ys) (.func (.func f) us vs)
  | nilfunc : VR κ .nilfunc .nilFunc
  | iface (t : TypeId) (x : AVal) (v : Value) (h : VR κ x v) : VR κ (.iface t x) (.iface t v)
  | niliface : VR κ .niliface .nilIface
  | agg (cs : List AVal) (vs : Array Value) (hv : vs.size = cs.length) (h : ∀ (j : Nat) (y : AVal), cs[j]? = some y → VR κ y (vs.getD j undef)) : VR κ (.agg cs) (.agg vs)
  | tuple (cs : List AVal) (vs : Array Value) (hv : vs.size = cs.length) (h : ∀ (j : Nat) (y : AVal), cs[j]? = some y → VR κ y (vs.getD j undef)) : VR κ (.tuple cs) (.tuple vs)

/-- More is known. -/
structure Kn.Le (κ κ' : Kn) : Prop where
  base : ∀ i p, κ.base i = some p → κ'.base i = some p
  imm : ∀ b o v, κ.imm b o = some v → κ'.imm b o = some v
  ok : κ'.ok = κ.ok
  hid : κ'.hid = κ.hid
  hint : κ'.hint = κ.hint
  lim : κ'.lim = κ.lim
  news : ∀ b o v, κ'.imm b o = some v → κ.imm b o = some v ∨ κ.lim ≤ b

theorem Kn.Le.refl (κ : Kn) : κ.Le κ := ⟨fun _ _ h => h, fun _ _ _ h => h, rfl, rfl, rfl, rfl, fun _ _ _ h => .inl h⟩
theorem Kn.Le.trans {a b c : Kn} (h : a.Le b) (k : b.Le c) : a.Le c := ⟨fun i p x => k.base i p (h.base i p x), fun b o v x => k.imm b o v (h.imm b o v x), k.ok.trans h.ok, k.hid.trans h.hid, k.hint.trans h.hint, k.lim.trans h.lim, fun b o v x => (k.news b o v x).elim (h.news b o v) fun h1 => .inr (by rw [← h.lim]; exact h1)⟩

theorem VR.mono {κ κ' : Kn} (hk : κ.Le κ') {x : AVal} {v : Value} (h : VR κ x v) : VR κ' x v := by
  induction h with
  | bool b => exact .bool b
  | int k n => exact .int k n
  | str s => exact .str s
  | nilptr => exact .nilptr
  | ptr id off p h => exact .ptr id off p (hk.base _ _ h)
  | rptr cs off b o f h1 h2 ih => exact .rptr cs off b o f (fun j hj => hk.imm _ _ _ (h1 j hj)) ih
  | nils => exact .nils
  | yield id p h => exact .yield id p (hk.base _ _ h)
  | hint i => rw [← hk.hint]; exact .hint i
  | hid i a n cap h ih => exact .hid i a n cap (by rw [hk.hid]; exact ih)
  | nilslice ex a cap h => exact .nilslice ex a cap h
  | slice xs ex b o s cap f hx hc he hs h1 h2 ih => exact .slice xs ex b o s cap f hx hc he hs (fun i j hi hj => hk.imm _ _ _ (h1 i j hi hj)) ih
  | oslice id off len ex p cap h hc he hl hn => exact .oslice id off len ex p cap (hk.base _ _ h) hc he hl hn
  | nilmap => exact .nilmap
  | map id p h => exact .map id p (hk.base _ _ h)
  | func f xs ys us vs hu hv h1 h2 i1 i2 => exact .func f xs ys us vs hu hv i1 i2
  | nilfunc => exact .nilfunc
  | iface t x v h ih => exact .iface t x v ih
  | niliface => exact .niliface
  | agg cs vs hv h ih => exact .agg cs vs hv ih
  | tuple cs vs hv h ih => exact .tuple cs vs hv ih

/-- Lists against arrays. -/
def LR (κ : Kn) (xs : List AVal) (vs : Array Value) : Prop := vs.size = xs.length ∧ ∀ (j : Nat) (y : AVal), xs[j]? = some y → VR κ y (vs.getD j undef)
theorem LR.mono {κ κ' : Kn} (hk : κ.Le κ') {xs : List AVal} {vs : Array Value} (h : LR κ xs vs) : LR κ' xs vs := ⟨h.1, fun j y e => (h.2 j y e).mono hk⟩

theorem VR.cells {κ : Kn} {x : AVal} {v : Value} (h : VR κ x v) : LR κ x.cells v.cells := by
  cases h with
  | agg cs vs hv h => exact ⟨hv, h⟩
  | bool b => exact ⟨rfl, fun j y e => by cases j <;> simp [AVal.cells, Value.cells] at e ⊢; subst e; exact .bool b⟩
  | int k n => exact ⟨rfl, fun j y e => by cases j <;> simp [AVal.cells, Value.cells] at e ⊢; subst e; exact .int k n⟩
  | str s => exact ⟨rfl, fun j y e => by cases j <;> simp [AVal.cells, Value.cells] at e ⊢; subst e; exact .str s⟩
  | nilptr => exact ⟨rfl, fun j y e => by cases j <;> simp [AVal.cells, Value.cells] at e ⊢; subst e; exact .nilptr⟩
  | ptr id off p h => exact ⟨rfl, fun j y e => by cases j <;> simp [AVal.cells, Value.cells] at e ⊢; subst e; exact .ptr id off p h⟩
  | rptr cs off b o f h1 h2 => exact ⟨rfl, fun j y e => by cases j <;> simp [AVal.cells, Value.cells] at e ⊢; subst e; exact .rptr cs off b o f h1 h2⟩
  | nils => exact ⟨rfl, fun j y e => by cases j <;> simp [AVal.cells, Value.cells] at e ⊢; subst e; exact .nils⟩
  | hint i => exact ⟨rfl, fun j y e => by cases j <;> simp [AVal.cells, Value.cells] at e ⊢; subst e; exact .hint i⟩
  | hid i a n cap h => exact ⟨rfl, fun j y e => by cases j <;> simp [AVal.cells, Value.cells] at e ⊢; subst e; exact .hid i a n cap h⟩
  | yield id p h => exact ⟨rfl, fun j y e => by cases j <;> simp [AVal.cells, Value.cells] at e ⊢; subst e; exact .yield id p h⟩
  | nilslice ex a cap h => exact ⟨rfl, fun j y e => by cases j <;> simp [AVal.cells, Value.cells] at e ⊢; subst e; exact .nilslice ex a cap h⟩
  | slice xs ex b o s cap f hx hc he hs h1 h2 => exact ⟨rfl, fun j y e => by cases j <;> simp [AVal.cells, Value.cells] at e ⊢; subst e; exact .slice xs ex b o s cap f hx hc he hs h1 h2⟩
  | oslice id off len ex p cap h hc he hl hn => exact ⟨rfl, fun j y e => by cases j <;> simp [AVal.cells, Value.cells] at e ⊢; subst e; exact .oslice id off len ex p cap h hc he hl hn⟩
  | nilmap => exact ⟨rfl, fun j y e => by cases j <;> simp [AVal.cells, Value.cells] at e ⊢; subst e; exact .nilmap⟩
  | map id p h => exact ⟨rfl, fun j y e => by cases j <;> simp [AVal.cells, Value.cells] at e ⊢; subst e; exact .map id p h⟩
  | func f xs ys us vs hu hv h1 h2 => exact ⟨rfl, fun j y e => by cases j <;> simp [AVal.cells, Value.cells] at e ⊢; subst e; exact .func f xs ys us vs hu hv h1 h2⟩
  | nilfunc => exact ⟨rfl, fun j y e => by cases j <;> simp [AVal.cells, Value.cells] at e ⊢; subst e; exact .nilfunc⟩
  | iface t x v h => exact ⟨rfl, fun j y e => by cases j <;> simp [AVal.cells, Value.cells] at e ⊢; subst e; exact .iface t x v h⟩
  | niliface => exact ⟨rfl, fun j y e => by cases j <;> simp [AVal.cells, Value.cells] at e ⊢; subst e; exact .niliface⟩
  | tuple cs vs hv h => exact ⟨rfl, fun j y e => by cases j <;> simp [AVal.cells, Value.cells] at e ⊢; subst e; exact .tuple cs vs hv h⟩

theorem VR.one {κ : Kn} {x : AVal} {v : Value} (h : VR κ x v) (ho : x.one = true) : v.oneCell' = true := by
  cases h <;> first | rfl | cases ho

/-- The cells of a part of a world that belongs to an object. -/
def Cells (κ : Kn) (w : World) (own : Nat → Nat → Option Nat) (id b o : Nat) (cs : List AVal) : Prop :=
  ∀ (j : Nat) (y : AVal), cs[j]? = some y → own b (o + j) = some id ∧ w.frozen? ⟨b, o + j, none⟩ = false ∧ ∃ v, w.cell? ⟨b, o + j, none⟩ = some v ∧ VR κ y v

def EntriesR (κ : Kn) (es : List (AVal × AVal)) (ms : Array MapEntry) : Prop :=
  ms.size = es.length ∧ ∀ (j : Nat) (e : AVal × AVal) (m : MapEntry), es[j]? = some e → ms[j]? = some m → VR κ e.1 m.key ∧ VR κ e.2 m.val

/-- Entries were born one behind the other. -/
def BornOk (ms : Array MapEntry) (clock : Nat) : Prop :=
  (∀ (j : Nat) m, ms[j]? = some m → m.born < clock) ∧ ∀ (i j : Nat) (m n : MapEntry), i < j → ms[i]? = some m → ms[j]? = some n → m.born < n.born

/-- The record of a range over a function. -/
structure LoopR (κ : Kn) (l : ALoop) (r : Loop) : Prop where
  tm : LR κ l.tm r.tmps
  ps : r.params = l.ps
  assign : r.assign = l.assign
  body : r.body = l.body
  oka : κ.ok l.fn l.assign
  okb : κ.ok l.fn l.body
  busy : l.busy = true → r.state = .busy
  free : l.busy = false → match l.jump with
    | .none => r.state = .ready ∧ r.pending = none
    | .exit j => r.state = .done ∧ r.pending = some (.exit j)
    | .ret => r.state = .done ∧ r.pending = some .ret

/-- An iterator over a map under way: no entry came to the map since. -/
def StepOk (ms : Array MapEntry) (clock since : Nat) (seen : Array Nat) (last n : Nat) : Prop :=
  since = clock ∧ last = clock ∧ ((n = 0 ∧ seen = #[]) ∨ (n = 1 ∧ ∃ m : MapEntry, ms = #[m] ∧ seen = #[m.born]))

/-- An object in a world. -/
inductive OR (κ : Kn) (w : World) (own : Nat → Nat → Option Nat) (id : Nat) : AObj → Prop
  | cells (cs : List AVal) (p : Place) (h : κ.base id = some p) (hc : Cells κ w own id p.block p.off cs) : OR κ w own id (.cells cs)
  | arr (g : Bool) (s : Nat) (cs : List AVal) (p : Place) (h : κ.base id = some p) (hz : p.size = s) (hc : Cells κ w own id p.block p.off cs) (hl : cs.length ≤ p.lim)
      (hr : ∀ j, cs.length ≤ j → j < p.lim → own p.block (p.off + j) = some id ∧ w.frozen? ⟨p.block, p.off + j, none⟩ = false ∧ (w.cell? ⟨p.block, p.off + j, none⟩).isSome = true) : OR κ w own id (.arr g s cs)
  | map (es : List (AVal × AVal)) (p : Place) (ms : Array MapEntry) (clock : Nat) (h : κ.base id = some p) (hb : w.heap[p.block]? = some (.map ms clock)) (he : EntriesR κ es ms) (hn : BornOk ms clock) (ho : own p.block 0 = some id) : OR κ w own id (.map es)
  | iter (s : ByteArray) (pos : Nat) (p : Place) (h : κ.base id = some p) (h0 : p.off = 0) (hb : w.heap[p.block]? = some (.stringIter s pos)) (ho : own p.block 0 = some id) : OR κ w own id (.iter s pos)
  | rmap (es : List (AVal × AVal)) (it n : Nat) (p q : Place) (ms : Array MapEntry) (clock since : Nat) (seen : Array Nat) (last : Nat) (h : κ.base id = some p) (hq : κ.base it = some q) (h0 : q.off = 0) (hb : w.heap[p.block]? = some (.map ms clock))
      (hi : w.heap[q.block]? = some (.mapIter (some p.block) since seen last)) (he : EntriesR κ es ms) (hn : BornOk ms clock) (hs : StepOk ms clock since seen last n) (ho : own p.block 0 = some id) (hoq : own q.block 0 = some id) : OR κ w own id (.rmap es it n)
  | itof (m : Nat) : OR κ w own id (.itof m)
  | loop (l : ALoop) (r : Loop) (p : Place) (h : κ.base id = some p) (hb : w.heap[p.block]? = some (.loop r)) (hl : LoopR κ l r) (ho : own p.block 0 = some id) : OR κ w own id (.loop l)

/-- A store in a world, behind w0 (whose blocks stay as they were). -/
structure WRo (w0 : World) (κ : Kn) (own : Nat → Nat → Option Nat) (σ : Store) (w : World) : Prop where
  below : Below w0.heap.size w0 w
  imm : ∀ b o v, κ.imm b o = some v → w.cell? ⟨b, o, none⟩ = some v
  ownd : ∀ b o id, own b o = some id → κ.imm b o = none ∧ w0.heap.size ≤ b ∧ b < w.heap.size
  objs : ∀ id ob, σ.get id = some ob → id < σ.next ∧ OR κ w own id ob
  fresh : ∀ id, σ.next ≤ id → κ.base id = none
  marks : ∀ b, κ.mark b = true → w.heap[b]? = some (.deferred (some [])) ∧ w0.heap.size ≤ b ∧ ∀ o, own b o = none
  lim : κ.lim ≤ w0.heap.size
def WR (w0 : World) (κ : Kn) (σ : Store) (w : World) : Prop := ∃ own, WRo w0 κ own σ w

/-- What is known grows, and objects below n stay where they are. -/
structure Ext (n : Nat) (κ κ' : Kn) : Prop where
  le : κ.Le κ'
  base : ∀ id, id < n → κ'.base id = κ.base id
  mark : ∀ b, κ.mark b = true → κ'.mark b = true
theorem Ext.refl (n : Nat) (κ : Kn) : Ext n κ κ := ⟨Kn.Le.refl κ, fun _ _ => rfl, fun _ h => h⟩
theorem Ext.trans {n m : Nat} {a b c : Kn} (h : Ext n a b) (k : Ext m b c) (hm : n ≤ m) : Ext n a c :=
  ⟨h.le.trans k.le, fun id hi => (k.base id (by omega)).trans (h.base id hi), fun x hx => k.mark x (h.mark x hx)⟩

/-- A frame. -/
def FR (κ : Kn) (tm : List AVal) (a : Act) : Prop := LR κ tm a.tmps
theorem FR.mono {κ κ' : Kn} (hk : κ.Le κ') {tm : List AVal} {a : Act} (h : FR κ tm a) : FR κ' tm a := LR.mono hk h

/-- Cells of the model, one by one: numbers, bools, texts. -/
def eqCellV : Value → Value → Option Bool
  | .bool a, .bool b => some (a == b)
  | .int j a, .int k b => if j = k then some (a == b) else none
  | .string a, .string b => some (a.toList == b.toList)
  | _, _ => none
def eqCellsV : List Value → List Value → Option Bool
  | [], [] => some true
  | a :: as, b :: bs => do
    let x ← eqCellV a b
    let y ← eqCellsV as bs
    some (x && y)
  | _, _ => none

def valueKnd : Value → Nat
  | .bool _ => 0
  | .int _ _ => 1
  | .string _ => 2
  | _ => 3
theorem VR.knd {κ : Kn} {x : AVal} {v : Value} (h : VR κ x v) : valueKnd v = x.knd := by cases h <;> rfl
/-- The machine's tables are the program's. -/
structure TabOk (T : Tab) (P : Program) : Prop where
  und : ∀ t d, T.und t = some d → P.underlying t = some d ∧ ∃ i, P.info? t = some i ∧ i.size = T.size t ∧ i.bytes = T.bytes t
  tot : ∀ t, T.size t ≠ 0 → (T.und t).isSome = true
  cstruct : ∀ t fs, T.und t = some (.struct fs) → ∀ f ∈ fs.toList, (T.und f.type).isSome = true
  carr : ∀ t n e, T.und t = some (.array n e) → (T.und e).isSome = true
  cslice : ∀ t e, T.und t = some (.slice e) → (T.und e).isSome = true
  zero : ∀ t z, T.zero t = some z → ∃ i v d, P.info? t = some i ∧ i.zero = some v ∧ i.size = T.size t ∧ z.length = T.size t ∧ z.all AVal.one = true ∧ (∀ κ, LR κ z v.cells) ∧ T.und t = some d ∧ (isAgg d = true → v = .agg v.cells) ∧ (isAgg d = false → v.cells = #[v])
  eqs : ∀ t ks, T.eqs t = some ks → P.eqGuardType P.depth t = false ∧ ∀ (xs ys : Array Value) (r : Bool) (w : World), xs.toList.map valueKnd = ks → xs.size = T.size t → ys.size = T.size t → eqCellsV xs.toList ys.toList = some r → (Op.equalIn 10000 t (.agg xs) (.agg ys)).run P w = .ok r w

/-- The environment's numbers: what is said of them is so. -/
def ival (E : Env) : AVal → Option Int
  | .int .i64 n => some n
  | .hint i => some (E.hint i)
  | _ => none
structure OrcOk (E : Env) : Prop where
  orc : ∀ op a b r, E.orc op a b = some r → op ≠ .shl ∧ op ≠ .shr ∧ ∃ x y, ival E a = some x ∧ ival E b = some y ∧ ((∃ c, r = .bool c ∧ binInt op .i64 x y = some (.bool c)) ∨ ∃ j, r = .hint j ∧ binInt op .i64 x y = some (.int .i64 (E.hint j)))
  ints : ∀ i, ∀ x ∈ E.hid i, ∃ n, x = .int .i64 n
  len : ∀ i j, E.hlen i = some j → E.hint j = (E.hid i).length
  idx : ∀ h i j, E.hidx h i = some j → 0 ≤ i ∧ (E.hid h)[i.toNat]? = some (.int .i64 (E.hint j))
  idh : ∀ h i j, E.hidh h i = some j → 0 ≤ E.hint i ∧ (E.hid h)[(E.hint i).toNat]? = some (.int .i64 (E.hint j))
theorem OrcOk.short {E : Env} (h : OrcOk E) {i : Nat} (hs : short E i = true) : (E.hid i).length ≤ 40 := by
  unfold Ab.short at hs
  split at hs
  case h_2 => cases hs
  rename_i j hj
  split at hs
  case h_2 => cases hs
  rename_i ho
  obtain ⟨_, _, x, y, h1, h2, h3⟩ := h.orc _ _ _ _ ho
  cases h1; cases h2
  rcases h3 with ⟨c, e, h3⟩ | ⟨j, e, _⟩
  · cases e
    simp only [binInt, Option.some.injEq, AVal.bool.injEq, decide_eq_false_iff_not] at h3
    rw [h.len _ _ hj] at h3
    omega
  · cases e
/-- The machine's tables of functions and variables are the program's; the program's regions may be run in any order that their edges allow. -/
structure EnvOk (E : Env) (P : Program) : Prop where
  tab : TabOk E.T P
  fn : ∀ f F, E.fn f = some F → P.funcs[f]? = some F
  mixed : P.follows .mixedOrders = true
  orc : OrcOk E
/-- The listed variables are known. -/
structure GlobOk (E : Env) (κ : Kn) : Prop where
  glob : ∀ g cs, E.glob g = some cs → ∃ f : Nat → Value, (∀ j, j < cs.length → κ.imm g j = some (f j)) ∧ ∀ (j : Nat) (y : AVal), cs[j]? = some y → VR κ y (f j)
  hid : κ.hid = E.hid
  hint : κ.hint = E.hint
  code : ∀ f c, κ.ok f c ↔ (codeOk E f c = true ∧ noRange c = true)
theorem GlobOk.mono {E : Env} {κ κ' : Kn} (h : GlobOk E κ) (hk : κ.Le κ') : GlobOk E κ' := ⟨fun g cs e => let ⟨f, h1, h2⟩ := h.glob g cs e; ⟨f, fun j hj => hk.imm _ _ _ (h1 j hj), fun j y hy => (h2 j y hy).mono hk⟩, hk.hid.trans h.hid, hk.hint.trans h.hint, fun f c => by rw [hk.ok]; exact h.code f c⟩

end Go.Ab
