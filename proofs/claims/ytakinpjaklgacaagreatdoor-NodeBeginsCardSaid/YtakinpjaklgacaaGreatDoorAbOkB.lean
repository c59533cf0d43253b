/-
  THE SEAT's PROGRAM: its tables, and the plans of its regions, are in order.
-/
import Derived.Test.YtakinpjaklgacaaGreatDoorAbSeat
namespace Go.Ab
open Go.Proofs
theorem s_tab : tabB Tryz.prog = true := by kernel_rfl
theorem s_fns0 : fnsB Tryz.prog planOf 0 65 = true := by kernel_rfl
theorem s_fns1 : fnsB Tryz.prog planOf 65 130 = true := by kernel_rfl
theorem s_fns2 : fnsB Tryz.prog planOf 130 195 = true := by kernel_rfl
theorem s_fns3 : fnsB Tryz.prog planOf 195 260 = true := by kernel_rfl
theorem s_fns4 : fnsB Tryz.prog planOf 260 325 = true := by kernel_rfl
theorem s_fns5 : fnsB Tryz.prog planOf 325 390 = true := by kernel_rfl
theorem s_fns6 : fnsB Tryz.prog planOf 390 455 = true := by kernel_rfl
theorem s_fns7 : fnsB Tryz.prog planOf 455 515 = true := by kernel_rfl
theorem s_mixed : Tryz.prog.follows .mixedOrders = true := by kernel_rfl
end Go.Ab
