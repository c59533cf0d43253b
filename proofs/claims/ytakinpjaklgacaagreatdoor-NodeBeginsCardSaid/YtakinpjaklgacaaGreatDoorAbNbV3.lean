/-
  NodeBegins, run at numbers that are written out.
-/
import Derived.Test.YtakinpjaklgacaaGreatDoorAbNbW
import Derived.KernelRfl
namespace Go.Ab
open Go.Proofs
set_option maxRecDepth 100000
theorem nbV9_3 (ms : List Int) (id nodes : Int) : isTrue (runN (primV 3) ms id nodes 1 (f40 false :: lastF (nn 9) false) [nn 3, nn 9, .hid 0]) = true := by kernel_rfl
theorem nbV9_7 (ms : List Int) (id nodes : Int) : isTrue (runN (primV 7) ms id nodes 1 (f40 false :: lastF (nn 9) false) [nn 7, nn 9, .hid 0]) = true := by kernel_rfl
theorem nbV8_2 (ms : List Int) (id nodes : Int) : isTrue (runN (primV 2) ms id nodes 1 (f40 false :: lastF (nn 8) false) [nn 2, nn 8, .hid 0]) = true := by kernel_rfl
theorem nbV8_5 (ms : List Int) (id nodes : Int) : isTrue (runN (primV 5) ms id nodes 1 (f40 false :: lastF (nn 8) false) [nn 5, nn 8, .hid 0]) = true := by kernel_rfl
theorem nbV7_1 (ms : List Int) (id nodes : Int) : isTrue (runN (primV 1) ms id nodes 1 (f40 false :: lastF (nn 7) false) [nn 1, nn 7, .hid 0]) = true := by kernel_rfl
theorem nbV7_4 (ms : List Int) (id nodes : Int) : isTrue (runN (primV 4) ms id nodes 1 (f40 false :: lastF (nn 7) false) [nn 4, nn 7, .hid 0]) = true := by kernel_rfl
theorem nbV6_1 (ms : List Int) (id nodes : Int) : isTrue (runN (primV 1) ms id nodes 1 (f40 false :: lastF (nn 6) false) [nn 1, nn 6, .hid 0]) = true := by kernel_rfl
theorem nbV6_5 (ms : List Int) (id nodes : Int) : isTrue (runN (primV 5) ms id nodes 1 (f40 false :: lastF (nn 6) false) [nn 5, nn 6, .hid 0]) = true := by kernel_rfl
theorem nbV5_5 (ms : List Int) (id nodes : Int) : isTrue (runN (primV 5) ms id nodes 1 (f40 false :: lastF (nn 5) false) [nn 5, nn 5, .hid 0]) = true := by kernel_rfl
theorem nbV3_1 (ms : List Int) (id nodes : Int) : isTrue (runN (primV 1) ms id nodes 1 (f40 false :: lastF (nn 3) false) [nn 1, nn 3, .hid 0]) = true := by kernel_rfl
theorem nbV3_2 (ms : List Int) (id nodes : Int) : isTrue (runN (primV 2) ms id nodes 1 (f40 false :: lastF (nn 3) false) [nn 2, nn 3, .hid 0]) = true := by kernel_rfl
end Go.Ab
