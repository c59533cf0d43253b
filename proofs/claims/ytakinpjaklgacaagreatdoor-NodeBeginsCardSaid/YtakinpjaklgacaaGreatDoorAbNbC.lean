/-
  NodeBegins: what is said of its arguments is so; each case is met.
-/
import Derived.Test.YtakinpjaklgacaaGreatDoorAbAwk
import Derived.Test.YtakinpjaklgacaaGreatDoorAbNbA
import Derived.Test.YtakinpjaklgacaaGreatDoorAbNbB
namespace Go.Ab
open Go.Proofs

/-! facts -/
def ivh (h : Nat → Int) : AVal → Option Int
  | .int .i64 n => some n
  | .hint i => some (h i)
  | _ => none
structure FactOk (h : Nat → Int) (f : Fact) : Prop where
  sh : f.op ≠ .shl ∧ f.op ≠ .shr
  val : ∃ x y, ivh h f.a = some x ∧ ivh h f.b = some y ∧ ((∃ c, f.r = .bool c ∧ binInt f.op .i64 x y = some (.bool c)) ∨ ∃ j, f.r = .hint j ∧ binInt f.op .i64 x y = some (.int .i64 (h j)))
variable {h : Nat → Int} {a b : AVal} {x y : Int} {c : Bool}
theorem fLss (ha : ivh h a = some x) (hb : ivh h b = some y) (hc : decide (x < y) = c) : FactOk h ⟨.lss, a, b, .bool c⟩ := ⟨⟨by simp, by simp⟩, x, y, ha, hb, .inl ⟨c, rfl, by simp [binInt, hc]⟩⟩
theorem fGtr (ha : ivh h a = some x) (hb : ivh h b = some y) (hc : decide (y < x) = c) : FactOk h ⟨.gtr, a, b, .bool c⟩ := ⟨⟨by simp, by simp⟩, x, y, ha, hb, .inl ⟨c, rfl, by simp [binInt, hc]⟩⟩
theorem fLeq (ha : ivh h a = some x) (hb : ivh h b = some y) (hc : decide (x ≤ y) = c) : FactOk h ⟨.leq, a, b, .bool c⟩ := ⟨⟨by simp, by simp⟩, x, y, ha, hb, .inl ⟨c, rfl, by simp [binInt, hc]⟩⟩
theorem fEql (ha : ivh h a = some x) (hb : ivh h b = some y) (hc : decide (x = y) = c) : FactOk h ⟨.eql, a, b, .bool c⟩ := ⟨⟨by simp, by simp⟩, x, y, ha, hb, .inl ⟨c, rfl, by
  simp only [binInt, Option.some.injEq, AVal.bool.injEq]
  rw [← hc, Bool.eq_iff_iff]; simp⟩⟩
theorem fSub {j : Nat} (ha : ivh h a = some x) (hb : ivh h b = some y) (hc : IntKind.i64.wrap (x - y) = h j) : FactOk h ⟨.sub, a, b, .hint j⟩ := ⟨⟨by simp, by simp⟩, x, y, ha, hb, .inr ⟨j, rfl, by simp [binInt, hc]⟩⟩

theorem hint_el (ms : List Int) (id nodes : Int) (k : Nat) : hintOf ms id nodes (100 + k) = ms.getD k 0 := by
  have : hintOf ms id nodes (100 + k) = ms.getD (100 + k - 100) 0 := by
    unfold hintOf
    split <;> first | omega | rfl
  rw [this, Nat.add_sub_cancel_left]
theorem orcN {prim : FuncId → Option Prim} {ms : List Int} {id nodes : Int} {c : Nat} {fs : List Fact} (hc : c ≤ ms.length) (hf : ∀ f ∈ fs, FactOk (hintOf ms id nodes) f) : OrcOk (sEnv prim (hidN ms id nodes c fs)) := by
  have hiv : ∀ v, ival (sEnv prim (hidN ms id nodes c fs)) v = ivh (hintOf ms id nodes) v := fun v => by
    cases v <;> try rfl
  refine ⟨fun op a b r hr => ?_, fun i x hx => ?_, fun i j hj => ?_, fun g i j hj => ?_, fun g i j hj => ?_⟩
  · have hr : (fs.find? fun f => decide (f.op = op) && AVal.beq f.a a && AVal.beq f.b b).map (·.r) = some r := hr
    obtain ⟨f, h1, rfl⟩ := Option.map_eq_some_iff.1 hr
    have h2 := List.find?_some h1
    simp only [Bool.and_eq_true, decide_eq_true_eq] at h2
    obtain ⟨⟨rfl, h3⟩, h4⟩ := h2
    have h3 := AVal.eq_of_beq _ _ h3
    have h4 := AVal.eq_of_beq _ _ h4
    subst h3 h4
    obtain ⟨k1, x, y, k2, k3, k4⟩ := hf f (List.mem_of_find?_eq_some h1)
    exact ⟨k1.1, k1.2, x, y, by rw [hiv]; exact k2, by rw [hiv]; exact k3, k4⟩
  · have hx : x ∈ ms.map (AVal.int .i64) := hx
    obtain ⟨n, _, rfl⟩ := List.mem_map.1 hx
    exact ⟨n, rfl⟩
  · have hj : some 0 = some j := hj
    cases hj
    show ((ms.length : Nat) : Int) = ((ms.map (AVal.int .i64)).length : Nat)
    rw [List.length_map]
  · have hj : (if 0 ≤ i ∧ i < (c : Int) then some (100 + i.toNat) else none) = some j := hj
    split at hj
    case isFalse => cases hj
    rename_i hi
    cases hj
    refine ⟨hi.1, ?_⟩
    show (ms.map (AVal.int .i64))[i.toNat]? = some (.int .i64 (hintOf ms id nodes (100 + i.toNat)))
    have hlt : i.toNat < ms.length := by omega
    rw [hint_el, List.getElem?_map, List.getElem?_eq_getElem hlt, Option.map_some, List.getD_eq_getElem?_getD, List.getElem?_eq_getElem hlt]
    rfl
  · have hj : (if i = 1 ∧ 0 < c then some 2 else none) = some j := hj
    split at hj
    case isFalse => cases hj
    rename_i hi
    cases hj
    obtain ⟨rfl, hi⟩ := hi
    have h1 : (sEnv prim (hidN ms id nodes c fs)).hint 1 = (ms.length : Int) - 1 := rfl
    rw [h1]
    refine ⟨by omega, ?_⟩
    show (ms.map (AVal.int .i64))[((ms.length : Int) - 1).toNat]? = some (.int .i64 (ms.getD (ms.length - 1) 0))
    have e : ((ms.length : Int) - 1).toNat = ms.length - 1 := by omega
    have hlt : ms.length - 1 < ms.length := by omega
    rw [e, List.getElem?_map, List.getElem?_eq_getElem hlt, Option.map_some, List.getD_eq_getElem?_getD, List.getElem?_eq_getElem hlt]
    rfl

/-! lists -/
def okAt (ms : List Int) (j : Nat) : Prop := 1 ≤ ms.getD j 0 ∧ ms.getD j 0 ≤ 9 ∧ (0 < j → ms.getD (j - 1) 0 < ms.getD j 0)
theorem least_of {ms : List Int} : ∀ p, (∀ j, j < p → okAt ms j) → ∀ j, j < p → (j : Int) + 1 ≤ ms.getD j 0
  | p, hp, 0, hj => by have := (hp 0 hj).1; simpa using this
  | p, hp, j + 1, hj => by
    have h1 := least_of p hp j (by omega)
    have h2 := (hp (j + 1) hj).2.2 (by omega)
    simp only [Nat.add_sub_cancel] at h2
    push_cast
    omega
theorem at_most {ms : List Int} {p : Nat} (hp : ∀ j, j < p → okAt ms j) : p < 10 := by
  refine Classical.byContradiction fun hn => ?_
  have h1 := least_of p hp 9 (by omega)
  have h2 := (hp 9 (by omega)).2.1
  omega
theorem first_bad (ms : List Int) : ∀ k, (∀ j, j < k → okAt ms j) ∨ ∃ p, p < k ∧ (∀ j, j < p → okAt ms j) ∧ ¬ okAt ms p
  | 0 => .inl fun j hj => by omega
  | k + 1 => by
    rcases first_bad ms k with h | ⟨p, h1, h2, h3⟩
    · by_cases hk : okAt ms k
      · exact .inl fun j hj => by
          by_cases e : j = k
          · subst e; exact hk
          · exact h j (by omega)
      · exact .inr ⟨k, by omega, h, hk⟩
    · exact .inr ⟨p, by omega, h2, h3⟩
def badAt (ms : List Int) (p : Nat) (c : Nat) : Prop := (c = 0 ∧ ms.getD p 0 < 1) ∨ (c = 1 ∧ 1 ≤ ms.getD p 0 ∧ 9 < ms.getD p 0) ∨ (c = 2 ∧ 1 ≤ ms.getD p 0 ∧ ms.getD p 0 ≤ 9 ∧ 0 < p ∧ ms.getD p 0 ≤ ms.getD (p - 1) 0)
theorem bad_of {ms : List Int} {p : Nat} (hp : ¬ okAt ms p) : ∃ c, c < 3 ∧ (p = 0 → c < 2) ∧ badAt ms p c := by
  by_cases h1 : ms.getD p 0 < 1
  · exact ⟨0, by omega, by omega, .inl ⟨rfl, h1⟩⟩
  · by_cases h2 : 9 < ms.getD p 0
    · exact ⟨1, by omega, by omega, .inr (.inl ⟨rfl, by omega, h2⟩)⟩
    · have h3 : 0 < p ∧ ms.getD p 0 ≤ ms.getD (p - 1) 0 := by
        refine Classical.byContradiction fun hn => hp ⟨by omega, by omega, fun h0 => ?_⟩
        refine Classical.byContradiction fun hl => hn ⟨h0, by omega⟩
      exact ⟨2, by omega, by omega, .inr (.inr ⟨rfl, by omega, by omega, h3.1, h3.2⟩)⟩

section facts
variable {ms : List Int} {id nodes : Int}
theorem iv_int (n : Int) : ivh (hintOf ms id nodes) (nn n) = some n := rfl
theorem iv_len : ivh (hintOf ms id nodes) (.hint 0) = some (ms.length : Int) := rfl
theorem iv_el (j : Nat) : ivh (hintOf ms id nodes) (el j) = some (ms.getD j 0) := by
  show some (hintOf ms id nodes (100 + j)) = _
  rw [hint_el]
theorem goodF_ok {j : Nat} (hj : j < ms.length) (ho : okAt ms j) : ∀ f ∈ goodF j, FactOk (hintOf ms id nodes) f := by
  intro f hf
  obtain ⟨o1, o2, o3⟩ := ho
  unfold goodF at hf
  rcases List.mem_append.1 hf with hf | hf
  · simp only [List.mem_cons, List.not_mem_nil, or_false] at hf
    rcases hf with rfl | rfl | rfl
    · exact fLss (iv_int _) iv_len (by first | exact decide_eq_true (by omega) | exact decide_eq_false (by omega))
    · exact fLss (iv_el _) (iv_int _) (by first | exact decide_eq_true (by omega) | exact decide_eq_false (by omega))
    · exact fGtr (iv_el _) (iv_int _) (by first | exact decide_eq_true (by omega) | exact decide_eq_false (by omega))
  · split at hf
    · cases hf
    · rename_i h0
      simp only [List.mem_cons, List.not_mem_nil, or_false] at hf
      subst hf
      exact fLeq (iv_el _) (iv_el _) (by have := o3 (by omega); first | exact decide_eq_true (by omega) | exact decide_eq_false (by omega))
theorem goods_ok : ∀ p, p ≤ ms.length → (∀ j, j < p → okAt ms j) → ∀ f ∈ goods p, FactOk (hintOf ms id nodes) f
  | 0, _, _, f, hf => by cases hf
  | p + 1, hp, ho, f, hf => by
    rcases List.mem_append.1 hf with hf | hf
    · exact goods_ok p (by omega) (fun j hj => ho j (by omega)) f hf
    · exact goodF_ok (by omega) (ho p (by omega)) f hf
theorem endF_ok (ho : ∀ j, j < ms.length → okAt ms j) : ∀ f ∈ endF ms.length, FactOk (hintOf ms id nodes) f := by
  intro f hf
  rcases List.mem_append.1 hf with hf | hf
  · exact goods_ok _ (Nat.le_refl _) ho f hf
  · simp only [List.mem_cons, List.not_mem_nil, or_false] at hf
    rcases hf with rfl | rfl | rfl
    · exact fLss (iv_int _) iv_len (by first | exact decide_eq_true (by omega) | exact decide_eq_false (by omega))
    · exact fGtr iv_len (iv_int _) (by rw [Bool.eq_iff_iff]; simp only [decide_eq_true_eq]; omega)
    · exact fEql iv_len (iv_int _) (by rw [Bool.eq_iff_iff]; simp only [decide_eq_true_eq]; omega)
theorem badF_ok {p c : Nat} (hp : p < ms.length) (ho : ∀ j, j < p → okAt ms j) (hb : badAt ms p c) : ∀ f ∈ badF p c, FactOk (hintOf ms id nodes) f := by
  intro f hf
  unfold badF at hf
  rcases List.mem_append.1 hf with hf | hf
  · rcases List.mem_append.1 hf with hf | hf
    · rcases List.mem_append.1 hf with hf | hf
      · exact goods_ok _ (by omega) ho f hf
      · simp only [List.mem_cons, List.not_mem_nil, or_false] at hf
        rcases hf with rfl | rfl | rfl
        · exact fLss (iv_int _) iv_len (by first | exact decide_eq_true (by omega) | exact decide_eq_false (by omega))
        · exact fEql iv_len (iv_int _) (by first | exact decide_eq_true (by omega) | exact decide_eq_false (by omega))
        · exact fLss (iv_el _) (iv_int _) (by
            rw [Bool.eq_iff_iff]; simp only [decide_eq_true_eq]
            rcases hb with ⟨rfl, hb⟩ | ⟨rfl, hb⟩ | ⟨rfl, hb⟩ <;> omega)
    · split at hf
      · cases hf
      · rename_i h0
        simp only [List.mem_cons, List.not_mem_nil, or_false] at hf
        subst hf
        exact fGtr (iv_el _) (iv_int _) (by
          rw [Bool.eq_iff_iff]; simp only [decide_eq_true_eq]
          rcases hb with ⟨rfl, hb⟩ | ⟨rfl, hb⟩ | ⟨rfl, hb⟩ <;> omega)
  · split at hf
    · rename_i h2
      simp only [List.mem_cons, List.not_mem_nil, or_false] at hf
      subst hf
      refine fLeq (iv_el _) (iv_el _) ?_
      rcases hb with ⟨rfl, hb⟩ | ⟨rfl, hb⟩ | ⟨rfl, hb⟩
      · cases h2
      · cases h2
      · first | exact decide_eq_true (by omega) | exact decide_eq_false (by omega)
    · cases hf
theorem f40_ok {b : Bool} (hb : decide (40 < (ms.length : Int)) = b) : FactOk (hintOf ms id nodes) (f40 b) := fGtr iv_len (iv_int _) hb
theorem rangeF_ok {b1 b2 b3 : Bool} (h1 : decide (id < 1) = b1) (h2 : b1 = false → decide (nodes < id) = b2) (h3 : b1 = false → b2 = false → decide (9 < nodes) = b3) : ∀ f ∈ rangeF b1 b2 b3, FactOk (hintOf ms id nodes) f := by
  intro f hf
  unfold rangeF at hf
  rcases List.mem_append.1 hf with hf | hf
  · rcases List.mem_append.1 hf with hf | hf
    · simp only [List.mem_cons, List.not_mem_nil, or_false] at hf
      subst hf
      exact fLss (x := id) rfl (iv_int _) h1
    · split at hf
      · cases hf
      · rename_i e
        simp only [List.mem_cons, List.not_mem_nil, or_false] at hf
        subst hf
        exact fGtr (x := id) (y := nodes) rfl rfl (h2 (by simpa using e))
  · split at hf
    · cases hf
    · rename_i e
      simp only [Bool.or_eq_true, not_or, Bool.not_eq_true] at e
      simp only [List.mem_cons, List.not_mem_nil, or_false] at hf
      subst hf
      exact fGtr (x := nodes) rfl (iv_int _) (h3 e.1 e.2)
theorem lastF_ok {v : AVal} {n : Int} {b : Bool} (hl : ms.length ≤ 40) (hv : ivh (hintOf ms id nodes) v = some n) (hb : decide (n < ms.getD (ms.length - 1) 0) = b) : ∀ f ∈ lastF v b, FactOk (hintOf ms id nodes) f := by
  intro f hf
  simp only [lastF, List.mem_cons, List.not_mem_nil, or_false] at hf
  rcases hf with rfl | rfl
  · refine fSub iv_len (iv_int _) ?_
    show IntKind.i64.wrap ((ms.length : Int) - 1) = (ms.length : Int) - 1
    rw [IntKind.wrap_i64]; omega
  · exact fGtr (x := ms.getD (ms.length - 1) 0) rfl hv hb
end facts
end Go.Ab
