/-
  NodeBegins: conf.members (127) and the document's Check (7), on a list that is not written out: by what is known of its elements.
-/
import Derived.Test.YtakinpjaklgacaaGreatDoorAbSeat
import Derived.Test.YtakinpjaklgacaaGreatDoorAbNbd
import Derived.KernelRfl
namespace Go.Ab
open Go.Proofs
set_option maxRecDepth 100000
noncomputable def runM (ms : List Int) (id nodes : Int) (c : Nat) (fs : List Fact) (σ : Store) : Option (AVal × Store) := callF (sEnv prim0 (hidN ms id nodes c fs)) (execF (sEnv prim0 (hidN ms id nodes c fs)) 400) 0 (.fn 127) [.hid 0] σ
noncomputable def runC (ms : List Int) (id nodes : Int) (c : Nat) (fs : List Fact) (σ : Store) : Option (AVal × Store) := callF (sEnv prim0 (hidN ms id nodes c fs)) (execF (sEnv prim0 (hidN ms id nodes c fs)) 400) 0 (.fn 7) [.slice [.agg [.int .i64 1, .hid 0]] false] σ
theorem goodM0 (ms : List Int) (id nodes : Int) (σ : Store) : runM ms id nodes 0 (f40 false :: endF 0) σ = some (.bool false, σ) := by kernel_rfl
theorem goodM1 (ms : List Int) (id nodes : Int) (σ : Store) : runM ms id nodes 1 (f40 false :: endF 1) σ = some (.bool true, σ) := by kernel_rfl
theorem goodM2 (ms : List Int) (id nodes : Int) (σ : Store) : runM ms id nodes 2 (f40 false :: endF 2) σ = some (.bool true, σ) := by kernel_rfl
theorem goodM3 (ms : List Int) (id nodes : Int) (σ : Store) : runM ms id nodes 3 (f40 false :: endF 3) σ = some (.bool true, σ) := by kernel_rfl
theorem goodM4 (ms : List Int) (id nodes : Int) (σ : Store) : runM ms id nodes 4 (f40 false :: endF 4) σ = some (.bool true, σ) := by kernel_rfl
theorem goodM5 (ms : List Int) (id nodes : Int) (σ : Store) : runM ms id nodes 5 (f40 false :: endF 5) σ = some (.bool true, σ) := by kernel_rfl
theorem goodM6 (ms : List Int) (id nodes : Int) (σ : Store) : runM ms id nodes 6 (f40 false :: endF 6) σ = some (.bool true, σ) := by kernel_rfl
theorem goodM7 (ms : List Int) (id nodes : Int) (σ : Store) : runM ms id nodes 7 (f40 false :: endF 7) σ = some (.bool true, σ) := by kernel_rfl
theorem goodM8 (ms : List Int) (id nodes : Int) (σ : Store) : runM ms id nodes 8 (f40 false :: endF 8) σ = some (.bool true, σ) := by kernel_rfl
theorem goodM9 (ms : List Int) (id nodes : Int) (σ : Store) : runM ms id nodes 9 (f40 false :: endF 9) σ = some (.bool true, σ) := by kernel_rfl
theorem badM0_0 (ms : List Int) (id nodes : Int) (σ : Store) : runM ms id nodes 1 (f40 false :: badF 0 0) σ = some (.bool false, σ) := by kernel_rfl
theorem badM0_1 (ms : List Int) (id nodes : Int) (σ : Store) : runM ms id nodes 1 (f40 false :: badF 0 1) σ = some (.bool false, σ) := by kernel_rfl
theorem badM1_0 (ms : List Int) (id nodes : Int) (σ : Store) : runM ms id nodes 2 (f40 false :: badF 1 0) σ = some (.bool false, σ) := by kernel_rfl
theorem badM1_1 (ms : List Int) (id nodes : Int) (σ : Store) : runM ms id nodes 2 (f40 false :: badF 1 1) σ = some (.bool false, σ) := by kernel_rfl
theorem badM1_2 (ms : List Int) (id nodes : Int) (σ : Store) : runM ms id nodes 2 (f40 false :: badF 1 2) σ = some (.bool false, σ) := by kernel_rfl
theorem badM2_0 (ms : List Int) (id nodes : Int) (σ : Store) : runM ms id nodes 3 (f40 false :: badF 2 0) σ = some (.bool false, σ) := by kernel_rfl
theorem badM2_1 (ms : List Int) (id nodes : Int) (σ : Store) : runM ms id nodes 3 (f40 false :: badF 2 1) σ = some (.bool false, σ) := by kernel_rfl
theorem badM2_2 (ms : List Int) (id nodes : Int) (σ : Store) : runM ms id nodes 3 (f40 false :: badF 2 2) σ = some (.bool false, σ) := by kernel_rfl
theorem badM3_0 (ms : List Int) (id nodes : Int) (σ : Store) : runM ms id nodes 4 (f40 false :: badF 3 0) σ = some (.bool false, σ) := by kernel_rfl
theorem badM3_1 (ms : List Int) (id nodes : Int) (σ : Store) : runM ms id nodes 4 (f40 false :: badF 3 1) σ = some (.bool false, σ) := by kernel_rfl
theorem badM3_2 (ms : List Int) (id nodes : Int) (σ : Store) : runM ms id nodes 4 (f40 false :: badF 3 2) σ = some (.bool false, σ) := by kernel_rfl
theorem badM4_0 (ms : List Int) (id nodes : Int) (σ : Store) : runM ms id nodes 5 (f40 false :: badF 4 0) σ = some (.bool false, σ) := by kernel_rfl
theorem badM4_1 (ms : List Int) (id nodes : Int) (σ : Store) : runM ms id nodes 5 (f40 false :: badF 4 1) σ = some (.bool false, σ) := by kernel_rfl
theorem badM4_2 (ms : List Int) (id nodes : Int) (σ : Store) : runM ms id nodes 5 (f40 false :: badF 4 2) σ = some (.bool false, σ) := by kernel_rfl
theorem badM5_0 (ms : List Int) (id nodes : Int) (σ : Store) : runM ms id nodes 6 (f40 false :: badF 5 0) σ = some (.bool false, σ) := by kernel_rfl
theorem badM5_1 (ms : List Int) (id nodes : Int) (σ : Store) : runM ms id nodes 6 (f40 false :: badF 5 1) σ = some (.bool false, σ) := by kernel_rfl
theorem badM5_2 (ms : List Int) (id nodes : Int) (σ : Store) : runM ms id nodes 6 (f40 false :: badF 5 2) σ = some (.bool false, σ) := by kernel_rfl
theorem badM6_0 (ms : List Int) (id nodes : Int) (σ : Store) : runM ms id nodes 7 (f40 false :: badF 6 0) σ = some (.bool false, σ) := by kernel_rfl
theorem badM6_1 (ms : List Int) (id nodes : Int) (σ : Store) : runM ms id nodes 7 (f40 false :: badF 6 1) σ = some (.bool false, σ) := by kernel_rfl
theorem badM6_2 (ms : List Int) (id nodes : Int) (σ : Store) : runM ms id nodes 7 (f40 false :: badF 6 2) σ = some (.bool false, σ) := by kernel_rfl
theorem badM7_0 (ms : List Int) (id nodes : Int) (σ : Store) : runM ms id nodes 8 (f40 false :: badF 7 0) σ = some (.bool false, σ) := by kernel_rfl
theorem badM7_1 (ms : List Int) (id nodes : Int) (σ : Store) : runM ms id nodes 8 (f40 false :: badF 7 1) σ = some (.bool false, σ) := by kernel_rfl
theorem badM7_2 (ms : List Int) (id nodes : Int) (σ : Store) : runM ms id nodes 8 (f40 false :: badF 7 2) σ = some (.bool false, σ) := by kernel_rfl
theorem badM8_0 (ms : List Int) (id nodes : Int) (σ : Store) : runM ms id nodes 9 (f40 false :: badF 8 0) σ = some (.bool false, σ) := by kernel_rfl
theorem badM8_1 (ms : List Int) (id nodes : Int) (σ : Store) : runM ms id nodes 9 (f40 false :: badF 8 1) σ = some (.bool false, σ) := by kernel_rfl
theorem badM8_2 (ms : List Int) (id nodes : Int) (σ : Store) : runM ms id nodes 9 (f40 false :: badF 8 2) σ = some (.bool false, σ) := by kernel_rfl
theorem badM9_0 (ms : List Int) (id nodes : Int) (σ : Store) : runM ms id nodes 10 (f40 false :: badF 9 0) σ = some (.bool false, σ) := by kernel_rfl
theorem badM9_1 (ms : List Int) (id nodes : Int) (σ : Store) : runM ms id nodes 10 (f40 false :: badF 9 1) σ = some (.bool false, σ) := by kernel_rfl
theorem badM9_2 (ms : List Int) (id nodes : Int) (σ : Store) : runM ms id nodes 10 (f40 false :: badF 9 2) σ = some (.bool false, σ) := by kernel_rfl
theorem goodM (ms : List Int) (id nodes : Int) (σ : Store) : ∀ n, n < 10 → runM ms id nodes n (f40 false :: endF n) σ = some (.bool (decide (0 < n)), σ)
  | 0, _ => goodM0 ms id nodes σ
  | 1, _ => goodM1 ms id nodes σ
  | 2, _ => goodM2 ms id nodes σ
  | 3, _ => goodM3 ms id nodes σ
  | 4, _ => goodM4 ms id nodes σ
  | 5, _ => goodM5 ms id nodes σ
  | 6, _ => goodM6 ms id nodes σ
  | 7, _ => goodM7 ms id nodes σ
  | 8, _ => goodM8 ms id nodes σ
  | 9, _ => goodM9 ms id nodes σ
  | n + 10, h => absurd h (by omega)
theorem badM (ms : List Int) (id nodes : Int) (σ : Store) : ∀ p c, p < 10 → c < 3 → (p = 0 → c < 2) → runM ms id nodes (p + 1) (f40 false :: badF p c) σ = some (.bool false, σ)
  | 0, 0, _, _, _ => badM0_0 ms id nodes σ
  | 0, 1, _, _, _ => badM0_1 ms id nodes σ
  | 0, 2, _, _, h => absurd (h rfl) (by omega)
  | 1, 0, _, _, _ => badM1_0 ms id nodes σ
  | 1, 1, _, _, _ => badM1_1 ms id nodes σ
  | 1, 2, _, _, _ => badM1_2 ms id nodes σ
  | 2, 0, _, _, _ => badM2_0 ms id nodes σ
  | 2, 1, _, _, _ => badM2_1 ms id nodes σ
  | 2, 2, _, _, _ => badM2_2 ms id nodes σ
  | 3, 0, _, _, _ => badM3_0 ms id nodes σ
  | 3, 1, _, _, _ => badM3_1 ms id nodes σ
  | 3, 2, _, _, _ => badM3_2 ms id nodes σ
  | 4, 0, _, _, _ => badM4_0 ms id nodes σ
  | 4, 1, _, _, _ => badM4_1 ms id nodes σ
  | 4, 2, _, _, _ => badM4_2 ms id nodes σ
  | 5, 0, _, _, _ => badM5_0 ms id nodes σ
  | 5, 1, _, _, _ => badM5_1 ms id nodes σ
  | 5, 2, _, _, _ => badM5_2 ms id nodes σ
  | 6, 0, _, _, _ => badM6_0 ms id nodes σ
  | 6, 1, _, _, _ => badM6_1 ms id nodes σ
  | 6, 2, _, _, _ => badM6_2 ms id nodes σ
  | 7, 0, _, _, _ => badM7_0 ms id nodes σ
  | 7, 1, _, _, _ => badM7_1 ms id nodes σ
  | 7, 2, _, _, _ => badM7_2 ms id nodes σ
  | 8, 0, _, _, _ => badM8_0 ms id nodes σ
  | 8, 1, _, _, _ => badM8_1 ms id nodes σ
  | 8, 2, _, _, _ => badM8_2 ms id nodes σ
  | 9, 0, _, _, _ => badM9_0 ms id nodes σ
  | 9, 1, _, _, _ => badM9_1 ms id nodes σ
  | 9, 2, _, _, _ => badM9_2 ms id nodes σ
  | p + 10, _, h, _, _ => absurd h (by omega)
  | _, c + 3, _, h, _ => absurd h (by omega)
theorem goodC0 (ms : List Int) (id nodes : Int) (σ : Store) : runC ms id nodes 0 (f40 false :: endF 0) σ = some (.bool false, σ) := by kernel_rfl
theorem goodC1 (ms : List Int) (id nodes : Int) (σ : Store) : runC ms id nodes 1 (f40 false :: endF 1) σ = some (.bool true, σ) := by kernel_rfl
theorem goodC2 (ms : List Int) (id nodes : Int) (σ : Store) : runC ms id nodes 2 (f40 false :: endF 2) σ = some (.bool true, σ) := by kernel_rfl
theorem goodC3 (ms : List Int) (id nodes : Int) (σ : Store) : runC ms id nodes 3 (f40 false :: endF 3) σ = some (.bool true, σ) := by kernel_rfl
theorem goodC4 (ms : List Int) (id nodes : Int) (σ : Store) : runC ms id nodes 4 (f40 false :: endF 4) σ = some (.bool true, σ) := by kernel_rfl
theorem goodC5 (ms : List Int) (id nodes : Int) (σ : Store) : runC ms id nodes 5 (f40 false :: endF 5) σ = some (.bool true, σ) := by kernel_rfl
theorem goodC6 (ms : List Int) (id nodes : Int) (σ : Store) : runC ms id nodes 6 (f40 false :: endF 6) σ = some (.bool true, σ) := by kernel_rfl
theorem goodC7 (ms : List Int) (id nodes : Int) (σ : Store) : runC ms id nodes 7 (f40 false :: endF 7) σ = some (.bool true, σ) := by kernel_rfl
theorem goodC8 (ms : List Int) (id nodes : Int) (σ : Store) : runC ms id nodes 8 (f40 false :: endF 8) σ = some (.bool true, σ) := by kernel_rfl
theorem goodC9 (ms : List Int) (id nodes : Int) (σ : Store) : runC ms id nodes 9 (f40 false :: endF 9) σ = some (.bool true, σ) := by kernel_rfl
theorem badC0_0 (ms : List Int) (id nodes : Int) (σ : Store) : runC ms id nodes 1 (f40 false :: badF 0 0) σ = some (.bool false, σ) := by kernel_rfl
theorem badC0_1 (ms : List Int) (id nodes : Int) (σ : Store) : runC ms id nodes 1 (f40 false :: badF 0 1) σ = some (.bool false, σ) := by kernel_rfl
theorem badC1_0 (ms : List Int) (id nodes : Int) (σ : Store) : runC ms id nodes 2 (f40 false :: badF 1 0) σ = some (.bool false, σ) := by kernel_rfl
theorem badC1_1 (ms : List Int) (id nodes : Int) (σ : Store) : runC ms id nodes 2 (f40 false :: badF 1 1) σ = some (.bool false, σ) := by kernel_rfl
theorem badC1_2 (ms : List Int) (id nodes : Int) (σ : Store) : runC ms id nodes 2 (f40 false :: badF 1 2) σ = some (.bool false, σ) := by kernel_rfl
theorem badC2_0 (ms : List Int) (id nodes : Int) (σ : Store) : runC ms id nodes 3 (f40 false :: badF 2 0) σ = some (.bool false, σ) := by kernel_rfl
theorem badC2_1 (ms : List Int) (id nodes : Int) (σ : Store) : runC ms id nodes 3 (f40 false :: badF 2 1) σ = some (.bool false, σ) := by kernel_rfl
theorem badC2_2 (ms : List Int) (id nodes : Int) (σ : Store) : runC ms id nodes 3 (f40 false :: badF 2 2) σ = some (.bool false, σ) := by kernel_rfl
theorem badC3_0 (ms : List Int) (id nodes : Int) (σ : Store) : runC ms id nodes 4 (f40 false :: badF 3 0) σ = some (.bool false, σ) := by kernel_rfl
theorem badC3_1 (ms : List Int) (id nodes : Int) (σ : Store) : runC ms id nodes 4 (f40 false :: badF 3 1) σ = some (.bool false, σ) := by kernel_rfl
theorem badC3_2 (ms : List Int) (id nodes : Int) (σ : Store) : runC ms id nodes 4 (f40 false :: badF 3 2) σ = some (.bool false, σ) := by kernel_rfl
theorem badC4_0 (ms : List Int) (id nodes : Int) (σ : Store) : runC ms id nodes 5 (f40 false :: badF 4 0) σ = some (.bool false, σ) := by kernel_rfl
theorem badC4_1 (ms : List Int) (id nodes : Int) (σ : Store) : runC ms id nodes 5 (f40 false :: badF 4 1) σ = some (.bool false, σ) := by kernel_rfl
theorem badC4_2 (ms : List Int) (id nodes : Int) (σ : Store) : runC ms id nodes 5 (f40 false :: badF 4 2) σ = some (.bool false, σ) := by kernel_rfl
theorem badC5_0 (ms : List Int) (id nodes : Int) (σ : Store) : runC ms id nodes 6 (f40 false :: badF 5 0) σ = some (.bool false, σ) := by kernel_rfl
theorem badC5_1 (ms : List Int) (id nodes : Int) (σ : Store) : runC ms id nodes 6 (f40 false :: badF 5 1) σ = some (.bool false, σ) := by kernel_rfl
theorem badC5_2 (ms : List Int) (id nodes : Int) (σ : Store) : runC ms id nodes 6 (f40 false :: badF 5 2) σ = some (.bool false, σ) := by kernel_rfl
theorem badC6_0 (ms : List Int) (id nodes : Int) (σ : Store) : runC ms id nodes 7 (f40 false :: badF 6 0) σ = some (.bool false, σ) := by kernel_rfl
theorem badC6_1 (ms : List Int) (id nodes : Int) (σ : Store) : runC ms id nodes 7 (f40 false :: badF 6 1) σ = some (.bool false, σ) := by kernel_rfl
theorem badC6_2 (ms : List Int) (id nodes : Int) (σ : Store) : runC ms id nodes 7 (f40 false :: badF 6 2) σ = some (.bool false, σ) := by kernel_rfl
theorem badC7_0 (ms : List Int) (id nodes : Int) (σ : Store) : runC ms id nodes 8 (f40 false :: badF 7 0) σ = some (.bool false, σ) := by kernel_rfl
theorem badC7_1 (ms : List Int) (id nodes : Int) (σ : Store) : runC ms id nodes 8 (f40 false :: badF 7 1) σ = some (.bool false, σ) := by kernel_rfl
theorem badC7_2 (ms : List Int) (id nodes : Int) (σ : Store) : runC ms id nodes 8 (f40 false :: badF 7 2) σ = some (.bool false, σ) := by kernel_rfl
theorem badC8_0 (ms : List Int) (id nodes : Int) (σ : Store) : runC ms id nodes 9 (f40 false :: badF 8 0) σ = some (.bool false, σ) := by kernel_rfl
theorem badC8_1 (ms : List Int) (id nodes : Int) (σ : Store) : runC ms id nodes 9 (f40 false :: badF 8 1) σ = some (.bool false, σ) := by kernel_rfl
theorem badC8_2 (ms : List Int) (id nodes : Int) (σ : Store) : runC ms id nodes 9 (f40 false :: badF 8 2) σ = some (.bool false, σ) := by kernel_rfl
theorem badC9_0 (ms : List Int) (id nodes : Int) (σ : Store) : runC ms id nodes 10 (f40 false :: badF 9 0) σ = some (.bool false, σ) := by kernel_rfl
theorem badC9_1 (ms : List Int) (id nodes : Int) (σ : Store) : runC ms id nodes 10 (f40 false :: badF 9 1) σ = some (.bool false, σ) := by kernel_rfl
theorem badC9_2 (ms : List Int) (id nodes : Int) (σ : Store) : runC ms id nodes 10 (f40 false :: badF 9 2) σ = some (.bool false, σ) := by kernel_rfl
theorem goodC (ms : List Int) (id nodes : Int) (σ : Store) : ∀ n, n < 10 → runC ms id nodes n (f40 false :: endF n) σ = some (.bool (decide (0 < n)), σ)
  | 0, _ => goodC0 ms id nodes σ
  | 1, _ => goodC1 ms id nodes σ
  | 2, _ => goodC2 ms id nodes σ
  | 3, _ => goodC3 ms id nodes σ
  | 4, _ => goodC4 ms id nodes σ
  | 5, _ => goodC5 ms id nodes σ
  | 6, _ => goodC6 ms id nodes σ
  | 7, _ => goodC7 ms id nodes σ
  | 8, _ => goodC8 ms id nodes σ
  | 9, _ => goodC9 ms id nodes σ
  | n + 10, h => absurd h (by omega)
theorem badC (ms : List Int) (id nodes : Int) (σ : Store) : ∀ p c, p < 10 → c < 3 → (p = 0 → c < 2) → runC ms id nodes (p + 1) (f40 false :: badF p c) σ = some (.bool false, σ)
  | 0, 0, _, _, _ => badC0_0 ms id nodes σ
  | 0, 1, _, _, _ => badC0_1 ms id nodes σ
  | 0, 2, _, _, h => absurd (h rfl) (by omega)
  | 1, 0, _, _, _ => badC1_0 ms id nodes σ
  | 1, 1, _, _, _ => badC1_1 ms id nodes σ
  | 1, 2, _, _, _ => badC1_2 ms id nodes σ
  | 2, 0, _, _, _ => badC2_0 ms id nodes σ
  | 2, 1, _, _, _ => badC2_1 ms id nodes σ
  | 2, 2, _, _, _ => badC2_2 ms id nodes σ
  | 3, 0, _, _, _ => badC3_0 ms id nodes σ
  | 3, 1, _, _, _ => badC3_1 ms id nodes σ
  | 3, 2, _, _, _ => badC3_2 ms id nodes σ
  | 4, 0, _, _, _ => badC4_0 ms id nodes σ
  | 4, 1, _, _, _ => badC4_1 ms id nodes σ
  | 4, 2, _, _, _ => badC4_2 ms id nodes σ
  | 5, 0, _, _, _ => badC5_0 ms id nodes σ
  | 5, 1, _, _, _ => badC5_1 ms id nodes σ
  | 5, 2, _, _, _ => badC5_2 ms id nodes σ
  | 6, 0, _, _, _ => badC6_0 ms id nodes σ
  | 6, 1, _, _, _ => badC6_1 ms id nodes σ
  | 6, 2, _, _, _ => badC6_2 ms id nodes σ
  | 7, 0, _, _, _ => badC7_0 ms id nodes σ
  | 7, 1, _, _, _ => badC7_1 ms id nodes σ
  | 7, 2, _, _, _ => badC7_2 ms id nodes σ
  | 8, 0, _, _, _ => badC8_0 ms id nodes σ
  | 8, 1, _, _, _ => badC8_1 ms id nodes σ
  | 8, 2, _, _, _ => badC8_2 ms id nodes σ
  | 9, 0, _, _, _ => badC9_0 ms id nodes σ
  | 9, 1, _, _, _ => badC9_1 ms id nodes σ
  | 9, 2, _, _, _ => badC9_2 ms id nodes σ
  | p + 10, _, h, _, _ => absurd h (by omega)
  | _, c + 3, _, h, _ => absurd h (by omega)
end Go.Ab
