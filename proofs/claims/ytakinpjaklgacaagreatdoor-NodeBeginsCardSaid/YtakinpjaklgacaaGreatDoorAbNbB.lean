/-
  NodeBegins, run on numbers and a list that are not written out: one run a case.
  NodeBegins, run on numbers and a list that are not written out: one run a case.
-/
import Derived.Test.YtakinpjaklgacaaGreatDoorAbSeat
import Derived.Test.YtakinpjaklgacaaGreatDoorAbNbd
import Derived.KernelRfl
namespace Go.Ab
open Go.Proofs
set_option maxRecDepth 100000
/-- NodeBegins' run. -/
noncomputable def runN (prim : FuncId → Option Prim) (ms : List Int) (id nodes : Int) (c : Nat) (fs : List Fact) (args : List AVal) : Option (AVal × Store) := callF (sEnv prim (hidN ms id nodes c fs)) (execF (sEnv prim (hidN ms id nodes c fs)) 3000) 0 (.fn 3) args Store.empty
def isTrue (r : Option (AVal × Store)) : Bool := match r with
  | some (v, _) => AVal.beq v (.bool true)
  | none => false
theorem nbR1 (ms : List Int) (id nodes : Int) : isTrue (runN (primN true) ms id nodes 0 ([f40 true]) [.hint 3, .hint 4, .hid 0]) = true := by kernel_rfl
theorem nbR2 (ms : List Int) (id nodes : Int) : isTrue (runN (primN true) ms id nodes 0 (f40 false :: rangeF true false false) [.hint 3, .hint 4, .hid 0]) = true := by kernel_rfl
theorem nbR3 (ms : List Int) (id nodes : Int) : isTrue (runN (primN true) ms id nodes 0 (f40 false :: rangeF false true false) [.hint 3, .hint 4, .hid 0]) = true := by kernel_rfl
theorem nbR4 (ms : List Int) (id nodes : Int) : isTrue (runN (primN true) ms id nodes 0 (f40 false :: rangeF false false true) [.hint 3, .hint 4, .hid 0]) = true := by kernel_rfl
theorem nbR5 (ms : List Int) (id nodes : Int) : isTrue (runN (primN false) ms id nodes 0 (f40 false :: rangeF false false false) [.hint 3, .hint 4, .hid 0]) = true := by kernel_rfl
theorem nbR6 (ms : List Int) (id nodes : Int) : isTrue (runN (primN true) ms id nodes 1 (f40 false :: (rangeF false false false ++ lastF (.hint 4) true)) [.hint 3, .hint 4, .hid 0]) = true := by kernel_rfl
theorem nbZ2 (ms : List Int) (id nodes : Int) : isTrue (runN primZ ms id nodes 0 (rangeF true false false) [.hint 3, .hint 4, .nils]) = true := by kernel_rfl
theorem nbZ3 (ms : List Int) (id nodes : Int) : isTrue (runN primZ ms id nodes 0 (rangeF false true false) [.hint 3, .hint 4, .nils]) = true := by kernel_rfl
theorem nbZ4 (ms : List Int) (id nodes : Int) : isTrue (runN primZ ms id nodes 0 (rangeF false false true) [.hint 3, .hint 4, .nils]) = true := by kernel_rfl
theorem nbZ5 (ms : List Int) (id nodes : Int) : isTrue (runN primZ ms id nodes 0 (rangeF false false false) [.hint 3, .hint 4, .nils]) = true := by kernel_rfl
end Go.Ab

namespace Go.Ab
open Go.Proofs
set_option maxRecDepth 100000
theorem nbS1 (ms : List Int) (id nodes : Int) : isTrue (runN primZ ms id nodes 0 ([f40 true]) [.hint 3, .hint 4, .hid 0]) = true := by kernel_rfl
theorem nbS2 (ms : List Int) (id nodes : Int) : isTrue (runN primZ ms id nodes 0 (f40 false :: rangeF true false false) [.hint 3, .hint 4, .hid 0]) = true := by kernel_rfl
theorem nbS3 (ms : List Int) (id nodes : Int) : isTrue (runN primZ ms id nodes 0 (f40 false :: rangeF false true false) [.hint 3, .hint 4, .hid 0]) = true := by kernel_rfl
theorem nbS4 (ms : List Int) (id nodes : Int) : isTrue (runN primZ ms id nodes 0 (f40 false :: rangeF false false true) [.hint 3, .hint 4, .hid 0]) = true := by kernel_rfl
end Go.Ab
