/-
  NodeBegins: what is said of its arguments (numbers and a list that are not written out).
-/
import Derived.Test.YtakinpjaklgacaaGreatDoorAbJ
namespace Go.Ab

/-- A comparison, a sum, of numbers that are not written out. -/
structure Fact where
  op : BinOp
  a : AVal
  b : AVal
  r : AVal
def factsOrc (fs : List Fact) : BinOp → AVal → AVal → Option AVal := fun op a b => (fs.find? fun f => decide (f.op = op) && AVal.beq f.a a && AVal.beq f.b b).map (·.r)
def hintOf (ms : List Int) (id nodes : Int) : Nat → Int
  | 0 => ms.length
  | 1 => ms.length - 1
  | 2 => ms.getD (ms.length - 1) 0
  | 3 => id
  | 4 => nodes
  | n => ms.getD (n - 100) 0
/-- The hidden things of NodeBegins: 'c' elements of the list are known to be there. -/
def hidN (ms : List Int) (id nodes : Int) (c : Nat) (fs : List Fact) : Hidden where
  hid := fun _ => ms.map (AVal.int .i64)
  hint := hintOf ms id nodes
  orc := factsOrc fs
  hlen := fun _ => some 0
  hidx := fun _ i => if 0 ≤ i ∧ i < c then some (100 + i.toNat) else none
  hidh := fun _ j => if j = 1 ∧ 0 < c then some 2 else none
def el (j : Nat) : AVal := .hint (100 + j)
def nn (n : Int) : AVal := .int .i64 n
/-- What is said of a good element at j. -/
def goodF (j : Nat) : List Fact :=
  [⟨.lss, nn j, .hint 0, .bool true⟩, ⟨.lss, el j, nn 1, .bool false⟩, ⟨.gtr, el j, nn 9, .bool false⟩] ++ if j = 0 then [] else [⟨.leq, el j, el (j - 1), .bool false⟩]
def goods : Nat → List Fact
  | 0 => []
  | j + 1 => goods j ++ goodF j
/-- A good list of n elements (or an empty one). -/
def endF (n : Nat) : List Fact := goods n ++ [⟨.lss, nn n, .hint 0, .bool false⟩, ⟨.gtr, .hint 0, nn 0, .bool (decide (0 < n))⟩, ⟨.eql, .hint 0, nn 0, .bool (decide (n = 0))⟩]
/-- The first bad element, at p: below, above, not behind the one ahead. -/
def badF (p : Nat) (c : Nat) : List Fact := goods p ++ [⟨.lss, nn p, .hint 0, .bool true⟩, ⟨.eql, .hint 0, nn 0, .bool false⟩, ⟨.lss, el p, nn 1, .bool (decide (c = 0))⟩] ++
  (if c = 0 then [] else [⟨.gtr, el p, nn 9, .bool (decide (c = 1))⟩]) ++ (if c = 2 then [⟨.leq, el p, el (p - 1), .bool true⟩] else [])

/-! calls on the hidden list -/
def pr127 (b : Bool) : Prim
  | [.hid 0], σ => some (.bool b, σ)
  | _, _ => none
def pr7 (b : Bool) : Prim
  | [.slice [.agg [.int .i64 1, .hid 0]] false], σ => some (.bool b, σ)
  | _, _ => none
def primN (b : Bool) (g : FuncId) : Option Prim := if g = 217 then some primClone else if g = 5 then some (primDone (.bool true)) else if g = 127 then some (pr127 b) else if g = 7 then some (pr7 b) else none
def primZ (g : FuncId) : Option Prim := if g = 217 then some primClone else if g = 5 then some (primDone (.bool true)) else none
def f40 (b : Bool) : Fact := ⟨.gtr, .hint 0, nn 40, .bool b⟩
def rangeF (b1 b2 b3 : Bool) : List Fact := [⟨.lss, .hint 3, nn 1, .bool b1⟩] ++ (if b1 then [] else [⟨.gtr, .hint 3, .hint 4, .bool b2⟩]) ++ if b1 || b2 then [] else [⟨.gtr, .hint 4, nn 9, .bool b3⟩]
def lastF (nodes : AVal) (b : Bool) : List Fact := [⟨.sub, .hint 0, nn 1, .hint 1⟩, ⟨.gtr, .hint 2, nodes, .bool b⟩]
end Go.Ab
