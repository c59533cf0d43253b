/-
  NodeBegins, run at numbers that are written out.
-/
import Derived.Test.YtakinpjaklgacaaGreatDoorAbNbW
import Derived.KernelRfl
namespace Go.Ab
open Go.Proofs
set_option maxRecDepth 100000
theorem nbV9_1 (ms : List Int) (id nodes : Int) : isTrue (runN (primV 1) ms id nodes 1 (f40 false :: lastF (nn 9) false) [nn 1, nn 9, .hid 0]) = true := by kernel_rfl
theorem nbV9_5 (ms : List Int) (id nodes : Int) : isTrue (runN (primV 5) ms id nodes 1 (f40 false :: lastF (nn 9) false) [nn 5, nn 9, .hid 0]) = true := by kernel_rfl
theorem nbV9_9 (ms : List Int) (id nodes : Int) : isTrue (runN (primV 9) ms id nodes 1 (f40 false :: lastF (nn 9) false) [nn 9, nn 9, .hid 0]) = true := by kernel_rfl
theorem nbV8_7 (ms : List Int) (id nodes : Int) : isTrue (runN (primV 7) ms id nodes 1 (f40 false :: lastF (nn 8) false) [nn 7, nn 8, .hid 0]) = true := by kernel_rfl
theorem nbV7_3 (ms : List Int) (id nodes : Int) : isTrue (runN (primV 3) ms id nodes 1 (f40 false :: lastF (nn 7) false) [nn 3, nn 7, .hid 0]) = true := by kernel_rfl
theorem nbV7_6 (ms : List Int) (id nodes : Int) : isTrue (runN (primV 6) ms id nodes 1 (f40 false :: lastF (nn 7) false) [nn 6, nn 7, .hid 0]) = true := by kernel_rfl
theorem nbV6_3 (ms : List Int) (id nodes : Int) : isTrue (runN (primV 3) ms id nodes 1 (f40 false :: lastF (nn 6) false) [nn 3, nn 6, .hid 0]) = true := by kernel_rfl
theorem nbV5_1 (ms : List Int) (id nodes : Int) : isTrue (runN (primV 1) ms id nodes 1 (f40 false :: lastF (nn 5) false) [nn 1, nn 5, .hid 0]) = true := by kernel_rfl
theorem nbV5_3 (ms : List Int) (id nodes : Int) : isTrue (runN (primV 3) ms id nodes 1 (f40 false :: lastF (nn 5) false) [nn 3, nn 5, .hid 0]) = true := by kernel_rfl
theorem nbV4_3 (ms : List Int) (id nodes : Int) : isTrue (runN (primV 3) ms id nodes 1 (f40 false :: lastF (nn 4) false) [nn 3, nn 4, .hid 0]) = true := by kernel_rfl
theorem nbV2_1 (ms : List Int) (id nodes : Int) : isTrue (runN (primV 1) ms id nodes 1 (f40 false :: lastF (nn 2) false) [nn 1, nn 2, .hid 0]) = true := by kernel_rfl
theorem nbV1_1 (ms : List Int) (id nodes : Int) : isTrue (runN (primV 1) ms id nodes 1 (f40 false :: lastF (nn 1) false) [nn 1, nn 1, .hid 0]) = true := by kernel_rfl
end Go.Ab
