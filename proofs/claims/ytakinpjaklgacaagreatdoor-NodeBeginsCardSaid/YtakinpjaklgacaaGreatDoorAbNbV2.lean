/-
  NodeBegins, run at numbers that are written out.
-/
import Derived.Test.YtakinpjaklgacaaGreatDoorAbNbW
import Derived.KernelRfl
namespace Go.Ab
open Go.Proofs
set_option maxRecDepth 100000
theorem nbV9_2 (ms : List Int) (id nodes : Int) : isTrue (runN (primV 2) ms id nodes 1 (f40 false :: lastF (nn 9) false) [nn 2, nn 9, .hid 0]) = true := by kernel_rfl
theorem nbV9_6 (ms : List Int) (id nodes : Int) : isTrue (runN (primV 6) ms id nodes 1 (f40 false :: lastF (nn 9) false) [nn 6, nn 9, .hid 0]) = true := by kernel_rfl
theorem nbV8_1 (ms : List Int) (id nodes : Int) : isTrue (runN (primV 1) ms id nodes 1 (f40 false :: lastF (nn 8) false) [nn 1, nn 8, .hid 0]) = true := by kernel_rfl
theorem nbV8_4 (ms : List Int) (id nodes : Int) : isTrue (runN (primV 4) ms id nodes 1 (f40 false :: lastF (nn 8) false) [nn 4, nn 8, .hid 0]) = true := by kernel_rfl
theorem nbV8_8 (ms : List Int) (id nodes : Int) : isTrue (runN (primV 8) ms id nodes 1 (f40 false :: lastF (nn 8) false) [nn 8, nn 8, .hid 0]) = true := by kernel_rfl
theorem nbV7_7 (ms : List Int) (id nodes : Int) : isTrue (runN (primV 7) ms id nodes 1 (f40 false :: lastF (nn 7) false) [nn 7, nn 7, .hid 0]) = true := by kernel_rfl
theorem nbV6_4 (ms : List Int) (id nodes : Int) : isTrue (runN (primV 4) ms id nodes 1 (f40 false :: lastF (nn 6) false) [nn 4, nn 6, .hid 0]) = true := by kernel_rfl
theorem nbV5_2 (ms : List Int) (id nodes : Int) : isTrue (runN (primV 2) ms id nodes 1 (f40 false :: lastF (nn 5) false) [nn 2, nn 5, .hid 0]) = true := by kernel_rfl
theorem nbV5_4 (ms : List Int) (id nodes : Int) : isTrue (runN (primV 4) ms id nodes 1 (f40 false :: lastF (nn 5) false) [nn 4, nn 5, .hid 0]) = true := by kernel_rfl
theorem nbV4_4 (ms : List Int) (id nodes : Int) : isTrue (runN (primV 4) ms id nodes 1 (f40 false :: lastF (nn 4) false) [nn 4, nn 4, .hid 0]) = true := by kernel_rfl
theorem nbV2_2 (ms : List Int) (id nodes : Int) : isTrue (runN (primV 2) ms id nodes 1 (f40 false :: lastF (nn 2) false) [nn 2, nn 2, .hid 0]) = true := by kernel_rfl
end Go.Ab
