/-
  NodeBegins returns true, whatever its arguments are.
  NodeBegins returns true, whatever its arguments are: the cases joined.
-/
import Derived.Test.YtakinpjaklgacaaGreatDoorAbNbC
import Derived.Test.YtakinpjaklgacaaGreatDoorAbNbW
import Derived.Test.YtakinpjaklgacaaGreatDoorAbNbB
import Derived.Test.YtakinpjaklgacaaGreatDoorAbNbV1
import Derived.Test.YtakinpjaklgacaaGreatDoorAbNbV2
import Derived.Test.YtakinpjaklgacaaGreatDoorAbNbV3
import Derived.Test.YtakinpjaklgacaaGreatDoorAbNbV4
namespace Go.Ab
open Go.Proofs
open Go.RowKit (Below)

section prims
variable {ms : List Int} {id nodes : Int}
/-- The bare machine, with hidden things. -/
theorem okM {c : Nat} {fs : List Fact} (ho : OrcOk (sEnv prim0 (hidN ms id nodes c fs))) : RunOk (sEnv prim0 (hidN ms id nodes c fs)) Tryz.prog := s_ok ho fun g pr h => by
  unfold prim0 at h
  split at h
  · rename_i e
    cases h
    subst e
    exact ⟨clone_is _, primClone_frame⟩
  · cases h
theorem pr127_frame (b : Bool) : PrimFrame (pr127 b) := by
  intro args σ x σ' h X τ hx
  unfold pr127 at h ⊢
  split at h
  case h_2 => cases h
  cases h
  exact .refl hx
theorem pr7_frame (b : Bool) : PrimFrame (pr7 b) := by
  intro args σ x σ' h X τ hx
  unfold pr7 at h ⊢
  split at h
  case h_2 => cases h
  cases h
  exact .refl hx
theorem pr127_is {prim : FuncId → Option Prim} {c c' : Nat} {fs fs' : List Fact} {b : Bool} (ho : OrcOk (sEnv prim0 (hidN ms id nodes c' fs'))) (hr : ∀ σ, runM ms id nodes c' fs' σ = some (.bool b, σ)) : PrimIs (sEnv prim (hidN ms id nodes c fs)) Tryz.prog 127 (pr127 b) := by
  intro args σ x σ' h w0 w κ vs hw hG hl
  unfold pr127 at h
  split at h
  case h_2 => cases h
  cases h
  have hrun := hr σ
  unfold runM at hrun
  rw [execF_eq] at hrun
  exact acall_sound (okM ho) hrun hw (glob_congr (E := sEnv prim (hidN ms id nodes c fs)) (E' := sEnv prim0 (hidN ms id nodes c' fs')) rfl rfl rfl rfl rfl hG) hl
theorem pr7_is {prim : FuncId → Option Prim} {c c' : Nat} {fs fs' : List Fact} {b : Bool} (ho : OrcOk (sEnv prim0 (hidN ms id nodes c' fs'))) (hr : ∀ σ, runC ms id nodes c' fs' σ = some (.bool b, σ)) : PrimIs (sEnv prim (hidN ms id nodes c fs)) Tryz.prog 7 (pr7 b) := by
  intro args σ x σ' h w0 w κ vs hw hG hl
  unfold pr7 at h
  split at h
  case h_2 => cases h
  cases h
  have hrun := hr σ
  unfold runC at hrun
  rw [execF_eq] at hrun
  exact acall_sound (okM ho) hrun hw (glob_congr (E := sEnv prim (hidN ms id nodes c fs)) (E' := sEnv prim0 (hidN ms id nodes c' fs')) rfl rfl rfl rfl rfl hG) hl
/-- What the program, and the document, say of a list. -/
theorem lists (ms : List Int) (id nodes : Int) (h40 : ms.length ≤ 40) : ∃ b : Bool, (b = true → ms ≠ []) ∧ ∀ (prim : FuncId → Option Prim) (c : Nat) (fs : List Fact), PrimIs (sEnv prim (hidN ms id nodes c fs)) Tryz.prog 127 (pr127 b) ∧ PrimIs (sEnv prim (hidN ms id nodes c fs)) Tryz.prog 7 (pr7 b) := by
  have hf40 : FactOk (hintOf ms id nodes) (f40 false) := f40_ok (by simp; omega)
  rcases first_bad ms ms.length with ho | ⟨p, h1, h2, h3⟩
  · have hn := at_most ho
    have hf : ∀ f ∈ f40 false :: endF ms.length, FactOk (hintOf ms id nodes) f := fun f hf => by
      rcases List.mem_cons.1 hf with rfl | hf
      · exact hf40
      · exact endF_ok ho f hf
    have hO : OrcOk (sEnv prim0 (hidN ms id nodes ms.length (f40 false :: endF ms.length))) := orcN (Nat.le_refl _) hf
    exact ⟨decide (0 < ms.length), fun h e => by subst e; simp at h, fun prim c fs => ⟨pr127_is hO fun σ => goodM ms id nodes σ _ hn, pr7_is hO fun σ => goodC ms id nodes σ _ hn⟩⟩
  · have hp := at_most h2
    obtain ⟨c', g1, g2, g3⟩ := bad_of h3
    have hf : ∀ f ∈ f40 false :: badF p c', FactOk (hintOf ms id nodes) f := fun f hf => by
      rcases List.mem_cons.1 hf with rfl | hf
      · exact hf40
      · exact badF_ok h1 h2 g3 f hf
    have hO : OrcOk (sEnv prim0 (hidN ms id nodes (p + 1) (f40 false :: badF p c'))) := orcN h1 hf
    exact ⟨false, fun h => (by cases h), fun prim c fs => ⟨pr127_is hO fun σ => badM ms id nodes σ p c' hp g1 g2, pr7_is hO fun σ => badC ms id nodes σ p c' hp g1 g2⟩⟩
/-- awake, as a primitive. -/
theorem glob_bare {prim prim' : FuncId → Option Prim} {H : Hidden} : ∀ κ n, GlobOk (sEnv prim H) κ → GlobOk (sEnv prim' {}) (κ.bare n) := fun κ n hG => by
  refine ⟨fun g cs e => ?_, rfl, rfl, fun f c => ?_⟩
  · have e' : sGlob g = some cs := e
    obtain ⟨f, h1, h2⟩ := hG.glob g cs e'
    refine ⟨f, h1, fun j y hy => ?_⟩
    have hall : cs.all (fun y => match y with | .int _ _ => true | _ => false) = true := by
      unfold sGlob at e'
      split at e'
      · cases e'; rfl
      · cases e'
    have hint := List.all_eq_true.1 hall y (List.mem_of_getElem? hy)
    have := h2 j y hy
    cases y with
    | int k n => generalize f j = v at this ⊢; cases this; exact .int k n
    | _ => cases hint
  · have := hG.code f c
    have e3 : codeOk (sEnv prim H) f c = codeOk (sEnv prim' {}) f c := codeOk_congr (E := sEnv prim H) (E' := sEnv prim' {}) rfl rfl f c
    rw [e3] at this
    exact this
theorem awake_is (prim : FuncId → Option Prim) (H : Hidden) : PrimIs (sEnv prim H) Tryz.prog 5 (primDone (.bool true)) := by
  obtain ⟨σ1, h⟩ := awake_done
  exact primDone_is s_okW (v := .bool true) rfl h glob_bare
theorem primsN {E : Env} {prim : FuncId → Option Prim} {H : Hidden} {b : Bool} (he : E = sEnv prim H) (hp : PrimIs E Tryz.prog 127 (pr127 b) ∧ PrimIs E Tryz.prog 7 (pr7 b)) {g : FuncId} {pr : Prim} (h : primN b g = some pr) : PrimIs E Tryz.prog g pr ∧ PrimFrame pr := by
  subst he
  unfold primN at h
  split at h
  · rename_i e
    cases h
    subst e
    exact ⟨clone_is _, primClone_frame⟩
  split at h
  · rename_i e
    cases h
    subst e
    exact ⟨awake_is _ _, primDone_frame _⟩
  split at h
  · rename_i e
    cases h
    subst e
    exact ⟨hp.1, pr127_frame b⟩
  split at h
  · rename_i e
    cases h
    subst e
    exact ⟨hp.2, pr7_frame b⟩
  · cases h
theorem okN {c : Nat} {fs : List Fact} {b : Bool} (ho : OrcOk (sEnv (primN b) (hidN ms id nodes c fs)))
    (hp : PrimIs (sEnv (primN b) (hidN ms id nodes c fs)) Tryz.prog 127 (pr127 b) ∧ PrimIs (sEnv (primN b) (hidN ms id nodes c fs)) Tryz.prog 7 (pr7 b)) : RunOk (sEnv (primN b) (hidN ms id nodes c fs)) Tryz.prog := s_ok ho fun g pr h => primsN rfl hp h
theorem okV {i : Nat} {c : Nat} {fs : List Fact} (ho : OrcOk (sEnv (primV i) (hidN ms id nodes c fs)))
    (hp : PrimIs (sEnv (primV i) (hidN ms id nodes c fs)) Tryz.prog 127 (pr127 true) ∧ PrimIs (sEnv (primV i) (hidN ms id nodes c fs)) Tryz.prog 7 (pr7 true)) : RunOk (sEnv (primV i) (hidN ms id nodes c fs)) Tryz.prog := s_ok ho fun g pr h => by
  unfold primV at h
  split at h
  · rename_i e
    cases h
    subst e
    exact ⟨primRows_is s_ok0 (fun r hr => by rw [← Row.okF_eq]; exact rows61_ok i r hr) (glob_bare (prim' := prim0)), primPure_frame _⟩
  split at h
  · rename_i e
    cases h
    subst e
    exact ⟨primRows_is s_ok0 (fun r hr => by rw [← Row.okF_eq]; exact rows153_ok i r hr) (glob_bare (prim' := prim0)), primPure_frame _⟩
  · exact primsN rfl hp h
theorem okZ {c : Nat} {fs : List Fact} (ho : OrcOk (sEnv primZ (hidN ms id nodes c fs))) : RunOk (sEnv primZ (hidN ms id nodes c fs)) Tryz.prog := s_ok ho fun g pr h => by
  unfold primZ at h
  split at h
  · rename_i e
    cases h
    subst e
    exact ⟨clone_is _, primClone_frame⟩
  split at h
  · rename_i e
    cases h
    subst e
    exact ⟨awake_is _ _, primDone_frame _⟩
  · cases h
end prims

/-! the call -/
/-- The table of sums is laid. -/
def Laid (W : World) : Prop := ∀ j y, sTable[j]? = some y → ∃ v, W.cell? ⟨0, j, none⟩ = some v ∧ ∀ k n, y = .int k n → v = .int k n
/-- What a world holds when the call begins. -/
def kn (E : Env) (W : World) : Kn where
  base := fun _ => none
  imm := fun b o => W.cell? ⟨b, o, none⟩
  mark := fun _ => false
  ok := fun f c => codeOk E f c = true ∧ noRange c = true
  hid := E.hid
  hint := E.hint
  lim := 0
theorem wr_begin (E : Env) (W : World) : WR W (kn E W) Store.empty W :=
  ⟨fun _ _ => none, Below.refl _ _, fun _ _ _ h => h, fun _ _ _ h => (by cases h), fun _ _ h => (by simp at h), fun _ _ => rfl, fun _ h => (by cases h), Nat.zero_le _⟩
theorem glob_begin {prim : FuncId → Option Prim} {H : Hidden} {W : World} (hL : Laid W) : GlobOk (sEnv prim H) (kn (sEnv prim H) W) := by
  refine ⟨fun g cs e => ?_, rfl, rfl, fun f c => Iff.rfl⟩
  have e' : sGlob g = some cs := e
  unfold sGlob at e'
  split at e'
  case isFalse => cases e'
  rename_i hg
  cases e'
  subst hg
  have hf : ∀ j, ∃ v, ∀ y, sTable[j]? = some y → W.cell? ⟨0, j, none⟩ = some v ∧ ∀ k n, y = .int k n → v = .int k n := fun j => by
    cases hy : sTable[j]? with
    | none => exact ⟨undef, fun y h => by cases h⟩
    | some y => obtain ⟨v, h1, h2⟩ := hL j y hy; exact ⟨v, fun y' h => by cases h; exact ⟨h1, h2⟩⟩
  refine ⟨fun j => Classical.choose (hf j), fun j hj => ((Classical.choose_spec (hf j)) _ (List.getElem?_eq_getElem hj)).1, fun j y hy => ?_⟩
  have := ((Classical.choose_spec (hf j)) y hy).2
  have hall : sTable.all (fun y => match y with | .int _ _ => true | _ => false) = true := rfl
  have hint := List.all_eq_true.1 hall y (List.mem_of_getElem? hy)
  cases y with
  | int k n => have e2 := this k n rfl; show VR _ _ (Classical.choose (hf j)); rw [e2]; exact .int k n
  | _ => cases hint
abbrev Says (W : World) : Ending → World → Prop
  | .returned v, W' => v = .bool true ∧ Below W.heap.size W W'
  | _, _ => False
theorem nb_of {prim : FuncId → Option Prim} {ms : List Int} {id nodes : Int} {c : Nat} {fs : List Fact} {args : List AVal} (hp : prim 3 = none) (hR : RunOk (sEnv prim (hidN ms id nodes c fs)) Tryz.prog) (hr : isTrue (runN prim ms id nodes c fs args) = true) {W : World} {vs : Array Value} (hL : Laid W)
    (hl : LR (kn (sEnv prim (hidN ms id nodes c fs)) W) args vs) : Calls Tryz.prog 3 vs W (Says W) := by
  unfold isTrue at hr
  split at hr
  case h_2 => cases hr
  rename_i v σ hrun
  have hv := AVal.eq_of_beq _ _ hr
  subst hv
  unfold runN at hrun
  rw [execF_eq] at hrun
  have key := (callFn_sound hR (exec_sound hR 3000) 0 hrun (wr_begin _ W) (glob_begin hL) hl).2 hp
  refine Calls.mono key.2 fun e W' he => ?_
  cases e with
  | returned rv =>
    obtain ⟨κ', h1, ⟨own, h2⟩, _⟩ := he
    cases h1
    exact ⟨rfl, h2.below⟩
  | panicked c => exact he.elim
  | outgrown => exact he.elim
end Go.Ab

namespace Go.Ab
open Go.Proofs
open Go.RowKit (Below)

theorem lr3 {κ : Kn} {a b c : AVal} {x y z : Value} (h1 : VR κ a x) (h2 : VR κ b y) (h3 : VR κ c z) : LR κ [a, b, c] #[x, y, z] := by
  refine ⟨rfl, fun j w h => ?_⟩
  match j with
  | 0 => cases h; exact h1
  | 1 => cases h; exact h2
  | 2 => cases h; exact h3
  | n + 3 => simp at h
theorem f40_all {ms : List Int} {id nodes : Int} {fs : List Fact} (h40 : ms.length ≤ 40) (h : ∀ f ∈ fs, FactOk (hintOf ms id nodes) f) : ∀ f ∈ f40 false :: fs, FactOk (hintOf ms id nodes) f := fun f hf => by
  rcases List.mem_cons.1 hf with rfl | hf
  · exact f40_ok (decide_eq_false (by omega))
  · exact h f hf
/-- Numbers that are good for a node are few. -/
theorem nbV_all (ms : List Int) (id nodes : Int) (h1 : 1 ≤ id) (h2 : id ≤ nodes) (h3 : nodes ≤ 9) : ∃ i, isTrue (runN (primV i) ms id nodes 1 (f40 false :: lastF (nn nodes) false) [nn id, nn nodes, .hid 0]) = true := by
  have hn : nodes = 1 ∨ nodes = 2 ∨ nodes = 3 ∨ nodes = 4 ∨ nodes = 5 ∨ nodes = 6 ∨ nodes = 7 ∨ nodes = 8 ∨ nodes = 9 := by omega
  have hi : id = 1 ∨ id = 2 ∨ id = 3 ∨ id = 4 ∨ id = 5 ∨ id = 6 ∨ id = 7 ∨ id = 8 ∨ id = 9 := by omega
  rcases hn with rfl | rfl | rfl | rfl | rfl | rfl | rfl | rfl | rfl
  · rcases hi with rfl | rfl | rfl | rfl | rfl | rfl | rfl | rfl | rfl <;> first | omega | skip
    · exact ⟨1, nbV1_1 ms _ _⟩
  · rcases hi with rfl | rfl | rfl | rfl | rfl | rfl | rfl | rfl | rfl <;> first | omega | skip
    · exact ⟨1, nbV2_1 ms _ _⟩
    · exact ⟨2, nbV2_2 ms _ _⟩
  · rcases hi with rfl | rfl | rfl | rfl | rfl | rfl | rfl | rfl | rfl <;> first | omega | skip
    · exact ⟨1, nbV3_1 ms _ _⟩
    · exact ⟨2, nbV3_2 ms _ _⟩
    · exact ⟨3, nbV3_3 ms _ _⟩
  · rcases hi with rfl | rfl | rfl | rfl | rfl | rfl | rfl | rfl | rfl <;> first | omega | skip
    · exact ⟨1, nbV4_1 ms _ _⟩
    · exact ⟨2, nbV4_2 ms _ _⟩
    · exact ⟨3, nbV4_3 ms _ _⟩
    · exact ⟨4, nbV4_4 ms _ _⟩
  · rcases hi with rfl | rfl | rfl | rfl | rfl | rfl | rfl | rfl | rfl <;> first | omega | skip
    · exact ⟨1, nbV5_1 ms _ _⟩
    · exact ⟨2, nbV5_2 ms _ _⟩
    · exact ⟨3, nbV5_3 ms _ _⟩
    · exact ⟨4, nbV5_4 ms _ _⟩
    · exact ⟨5, nbV5_5 ms _ _⟩
  · rcases hi with rfl | rfl | rfl | rfl | rfl | rfl | rfl | rfl | rfl <;> first | omega | skip
    · exact ⟨1, nbV6_1 ms _ _⟩
    · exact ⟨2, nbV6_2 ms _ _⟩
    · exact ⟨3, nbV6_3 ms _ _⟩
    · exact ⟨4, nbV6_4 ms _ _⟩
    · exact ⟨5, nbV6_5 ms _ _⟩
    · exact ⟨6, nbV6_6 ms _ _⟩
  · rcases hi with rfl | rfl | rfl | rfl | rfl | rfl | rfl | rfl | rfl <;> first | omega | skip
    · exact ⟨1, nbV7_1 ms _ _⟩
    · exact ⟨2, nbV7_2 ms _ _⟩
    · exact ⟨3, nbV7_3 ms _ _⟩
    · exact ⟨4, nbV7_4 ms _ _⟩
    · exact ⟨5, nbV7_5 ms _ _⟩
    · exact ⟨6, nbV7_6 ms _ _⟩
    · exact ⟨7, nbV7_7 ms _ _⟩
  · rcases hi with rfl | rfl | rfl | rfl | rfl | rfl | rfl | rfl | rfl <;> first | omega | skip
    · exact ⟨1, nbV8_1 ms _ _⟩
    · exact ⟨2, nbV8_2 ms _ _⟩
    · exact ⟨3, nbV8_3 ms _ _⟩
    · exact ⟨4, nbV8_4 ms _ _⟩
    · exact ⟨5, nbV8_5 ms _ _⟩
    · exact ⟨6, nbV8_6 ms _ _⟩
    · exact ⟨7, nbV8_7 ms _ _⟩
    · exact ⟨8, nbV8_8 ms _ _⟩
  · rcases hi with rfl | rfl | rfl | rfl | rfl | rfl | rfl | rfl | rfl <;> first | omega | skip
    · exact ⟨1, nbV9_1 ms _ _⟩
    · exact ⟨2, nbV9_2 ms _ _⟩
    · exact ⟨3, nbV9_3 ms _ _⟩
    · exact ⟨4, nbV9_4 ms _ _⟩
    · exact ⟨5, nbV9_5 ms _ _⟩
    · exact ⟨6, nbV9_6 ms _ _⟩
    · exact ⟨7, nbV9_7 ms _ _⟩
    · exact ⟨8, nbV9_8 ms _ _⟩
    · exact ⟨9, nbV9_9 ms _ _⟩
/-- No list is given. -/
theorem nb_nil {W : World} (hL : Laid W) (id nodes : Int) : Calls Tryz.prog 3 #[.int .i64 id, .int .i64 nodes, .slice none 0 0] W (Says W) := by
  have go : ∀ {b1 b2 b3 : Bool}, decide (id < 1) = b1 → (b1 = false → decide (nodes < id) = b2) → (b1 = false → b2 = false → decide (9 < nodes) = b3) → isTrue (runN primZ [] id nodes 0 (rangeF b1 b2 b3) [.hint 3, .hint 4, .nils]) = true → Calls Tryz.prog 3 #[.int .i64 id, .int .i64 nodes, .slice none 0 0] W (Says W) := fun h1 h2 h3 hr =>
    nb_of (by rfl) (okZ (orcN (Nat.zero_le _) (rangeF_ok h1 h2 h3))) hr hL (lr3 (.hint 3) (.hint 4) .nils)
  by_cases g1 : id < 1
  · exact go (b1 := true) (b2 := false) (b3 := false) (decide_eq_true g1) (fun h => by cases h) (fun h => by cases h) (nbZ2 _ _ _)
  by_cases g2 : nodes < id
  · exact go (b1 := false) (b2 := true) (b3 := false) (decide_eq_false g1) (fun _ => decide_eq_true g2) (fun _ h => by cases h) (nbZ3 _ _ _)
  by_cases g3 : 9 < nodes
  · exact go (b1 := false) (b2 := false) (b3 := true) (decide_eq_false g1) (fun _ => decide_eq_false g2) (fun _ _ => decide_eq_true g3) (nbZ4 _ _ _)
  · exact go (b1 := false) (b2 := false) (b3 := false) (decide_eq_false g1) (fun _ => decide_eq_false g2) (fun _ _ => decide_eq_false g3) (nbZ5 _ _ _)
/-- A list is given. -/
theorem nb_some {W : World} (hL : Laid W) (id nodes : Int) {a : Option Addr} {n cap : Nat} (ms : List Int) (hv : ∀ E, VR (kn E W) (.slice (ms.map (AVal.int .i64)) false) (.slice a n cap)) :
    Calls Tryz.prog 3 #[.int .i64 id, .int .i64 nodes, .slice a n cap] W (Says W) := by
  have hh : ∀ (prim : FuncId → Option Prim) (c : Nat) (fs : List Fact), VR (kn (sEnv prim (hidN ms id nodes c fs)) W) (.hid 0) (.slice a n cap) := fun prim c fs => .hid 0 a n cap (hv _)
  by_cases h40 : 40 < ms.length
  · have hf : ∀ f ∈ [f40 true], FactOk (hintOf ms id nodes) f := fun f hf => by
      simp only [List.mem_cons, List.not_mem_nil, or_false] at hf
      subst hf
      exact f40_ok (decide_eq_true (by omega))
    exact nb_of (by rfl) (okZ (orcN (Nat.zero_le _) hf)) (nbS1 ms id nodes) hL (lr3 (.hint 3) (.hint 4) (hh _ _ _))
  have h40' : ms.length ≤ 40 := by omega
  have go : ∀ {b1 b2 b3 : Bool}, decide (id < 1) = b1 → (b1 = false → decide (nodes < id) = b2) → (b1 = false → b2 = false → decide (9 < nodes) = b3) → isTrue (runN primZ ms id nodes 0 (f40 false :: rangeF b1 b2 b3) [.hint 3, .hint 4, .hid 0]) = true → Calls Tryz.prog 3 #[.int .i64 id, .int .i64 nodes, .slice a n cap] W (Says W) := fun h1 h2 h3 hr =>
    nb_of (by rfl) (okZ (orcN (Nat.zero_le _) (f40_all h40' (rangeF_ok h1 h2 h3)))) hr hL (lr3 (.hint 3) (.hint 4) (hh _ _ _))
  by_cases g1 : id < 1
  · exact go (b1 := true) (b2 := false) (b3 := false) (decide_eq_true g1) (fun h => by cases h) (fun h => by cases h) (nbS2 _ _ _)
  by_cases g2 : nodes < id
  · exact go (b1 := false) (b2 := true) (b3 := false) (decide_eq_false g1) (fun _ => decide_eq_true g2) (fun _ h => by cases h) (nbS3 _ _ _)
  by_cases g3 : 9 < nodes
  · exact go (b1 := false) (b2 := false) (b3 := true) (decide_eq_false g1) (fun _ => decide_eq_false g2) (fun _ _ => decide_eq_true g3) (nbS4 _ _ _)
  have hrng := rangeF_ok (ms := ms) (id := id) (nodes := nodes) (b1 := false) (b2 := false) (b3 := false) (decide_eq_false g1) (fun _ => decide_eq_false g2) (fun _ _ => decide_eq_false g3)
  obtain ⟨b, hb, hp⟩ := lists ms id nodes h40'
  cases b with
  | false =>
    exact nb_of (by rfl) (okN (orcN (Nat.zero_le _) (f40_all h40' hrng)) (hp _ _ _)) (nbR5 ms id nodes) hL (lr3 (.hint 3) (.hint 4) (hh _ _ _))
  | true =>
    have hne : 1 ≤ ms.length := List.length_pos_iff.2 (hb rfl)
    by_cases g4 : nodes < ms.getD (ms.length - 1) 0
    · have hf : ∀ f ∈ rangeF false false false ++ lastF (.hint 4) true, FactOk (hintOf ms id nodes) f := fun f hf => by
        rcases List.mem_append.1 hf with hf | hf
        · exact hrng f hf
        · exact lastF_ok h40' (n := nodes) rfl (decide_eq_true g4) f hf
      exact nb_of (by rfl) (okN (orcN hne (f40_all h40' hf)) (hp _ _ _)) (nbR6 ms id nodes) hL (lr3 (.hint 3) (.hint 4) (hh _ _ _))
    · obtain ⟨i, hi⟩ := nbV_all ms id nodes (by omega) (by omega) (by omega)
      exact nb_of (by rfl) (okV (orcN hne (f40_all h40' (lastF_ok h40' (n := nodes) rfl (decide_eq_false g4)))) (hp _ _ _)) hi hL (lr3 (.int _ _) (.int _ _) (hh _ _ _))
end Go.Ab
