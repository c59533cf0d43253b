/-
  THE ABSTRACT MACHINE: objects that a run does not know of do not disturb it.
  THE ABSTRACT MACHINE: objects that a run does not know of do not disturb it: operations.
  THE ABSTRACT MACHINE: objects that a run does not know of do not disturb it: regions, code, calls.
-/
import Derived.Test.YtakinpjaklgacaaGreatDoorAbA
namespace Go.Ab

/-- The second store has more: at the numbers of X, where the first has nothing. -/
structure Sub (X : Nat → Prop) (σ τ : Store) : Prop where
  next : τ.next = σ.next
  same : ∀ id, ¬ X id → τ.get id = σ.get id
  none : ∀ id, X id → σ.get id = none ∧ id < σ.next

/-- A run from the first store, and one from the second: the same value, and what is more stays. -/
def Fr {α : Type} (X : Nat → Prop) (τ : Store) (x : α) (σ' : Store) (r : Option (α × Store)) : Prop := ∃ τ', r = some (x, τ') ∧ Sub X σ' τ' ∧ ∀ id, X id → τ'.get id = τ.get id

section
variable {X : Nat → Prop} {σ τ : Store}
theorem Sub.get (h : Sub X σ τ) {id : Nat} {o : AObj} (hg : σ.get id = some o) : τ.get id = some o := by
  rw [h.same id (fun hx => by rw [(h.none id hx).1] at hg; cases hg), hg]
theorem Sub.notX (h : Sub X σ τ) {id : Nat} {o : AObj} (hg : σ.get id = some o) : ¬ X id := fun hx => by rw [(h.none id hx).1] at hg; cases hg
theorem Sub.put (h : Sub X σ τ) {id : Nat} (hx : ¬ X id) (ob : AObj) : Sub X (σ.put id ob) (τ.put id ob) ∧ ∀ j, X j → (τ.put id ob).get j = τ.get j := by
  refine ⟨⟨h.next, fun j hj => ?_, fun j hj => ?_⟩, fun j hj => ?_⟩
  · rw [Store.get_put, Store.get_put]
    split
    · rfl
    · exact h.same j hj
  · rw [Store.get_put, if_neg (fun e => hx (by subst e; exact hj))]
    exact h.none j hj
  · rw [Store.get_put, if_neg (fun e => hx (by subst e; exact hj))]
theorem Sub.del (h : Sub X σ τ) {id : Nat} (hx : ¬ X id) : Sub X (σ.del id) (τ.del id) ∧ ∀ j, X j → (τ.del id).get j = τ.get j := by
  refine ⟨⟨h.next, fun j hj => ?_, fun j hj => ?_⟩, fun j hj => ?_⟩
  · rw [Store.get_del, Store.get_del]
    split
    · rfl
    · exact h.same j hj
  · rw [Store.get_del, if_neg (fun e => hx (by subst e; exact hj))]
    exact h.none j hj
  · rw [Store.get_del, if_neg (fun e => hx (by subst e; exact hj))]
theorem Sub.new (h : Sub X σ τ) (ob : AObj) : Sub X (σ.new ob) (τ.new ob) ∧ ∀ j, X j → (τ.new ob).get j = τ.get j := by
  have hn : ∀ j, X j → j ≠ σ.next := fun j hj => by have := (h.none j hj).2; omega
  refine ⟨⟨by simp [h.next], fun j hj => ?_, fun j hj => ?_⟩, fun j hj => ?_⟩
  · rw [Store.get_new, Store.get_new, h.next]
    split
    · rfl
    · exact h.same j hj
  · rw [Store.get_new, if_neg (hn j hj)]
    exact ⟨(h.none j hj).1, by have := (h.none j hj).2; simp; omega⟩
  · rw [Store.get_new, h.next, if_neg (hn j hj)]
theorem Fr.refl {α : Type} {x : α} (h : Sub X σ τ) : Fr X τ x σ (some (x, τ)) := ⟨τ, rfl, h, fun _ _ => rfl⟩
theorem Fr.put {α : Type} {x : α} (h : Sub X σ τ) {id : Nat} (hx : ¬ X id) (ob : AObj) : Fr X τ x (σ.put id ob) (some (x, τ.put id ob)) := ⟨_, rfl, (h.put hx ob).1, (h.put hx ob).2⟩
theorem Fr.new {α : Type} {x : α} (h : Sub X σ τ) (ob : AObj) : Fr X τ x (σ.new ob) (some (x, τ.new ob)) := ⟨_, rfl, (h.new ob).1, (h.new ob).2⟩
theorem Fr.delNew {α : Type} {x : α} (h : Sub X σ τ) {id : Nat} (hx : ¬ X id) (ob : AObj) : Fr X τ x ((σ.del id).new ob) (some (x, (τ.del id).new ob)) := by
  obtain ⟨h1, h2⟩ := h.del hx
  obtain ⟨h3, h4⟩ := h1.new ob
  exact ⟨_, rfl, h3, fun j hj => (h4 j hj).trans (h2 j hj)⟩
/-- A run behind a run. -/
theorem Fr.bind {α β : Type} {x : α} {σ1 : Store} {r : Option (α × Store)} (h : Fr X τ x σ1 r) {f : α × Store → Option (β × Store)} {y : β} {σ2 : Store} (k : ∀ τ1, Sub X σ1 τ1 → Fr X τ1 y σ2 (f (x, τ1))) : Fr X τ y σ2 (r.bind f) := by
  obtain ⟨τ1, rfl, h1, h2⟩ := h
  obtain ⟨τ2, e, k1, k2⟩ := k τ1 h1
  exact ⟨τ2, e, k1, fun j hj => (k2 j hj).trans (h2 j hj)⟩

/-! what reads the store -/
variable (h : Sub X σ τ)
include h
theorem load_frame {E : Env} {t : TypeId} {p x : AVal} (hl : load E σ t p = some x) : load E τ t p = some x := by
  unfold load at hl ⊢
  cases p <;> first | exact hl | skip
  rename_i id off
  simp only [Option.bind_eq_bind] at hl ⊢
  cases hg : σ.get id with
  | none => simp [hg] at hl
  | some o => rw [h.get hg]; simpa [hg] using hl
theorem elemCells0_frame {E : Env} {s n : Nat} {x : AVal} {cs : List AVal} (hl : elemCells0 E σ s n x = some cs) : elemCells0 E τ s n x = some cs := by
  unfold elemCells0 at hl ⊢
  cases x <;> first | exact hl | skip
  rename_i id off len ex
  simp only [Option.bind_eq_bind] at hl ⊢
  cases hg : σ.get id with
  | none => simp [hg] at hl
  | some o => rw [h.get hg]; simpa [hg] using hl
theorem elemCells_frame {E : Env} {s n : Nat} {x : AVal} {cs : List AVal} (hl : elemCells E σ s n x = some cs) : elemCells E τ s n x = some cs := by
  unfold elemCells at hl ⊢
  cases hg : elemCells0 E σ s n x with
  | none => simp [hg] at hl
  | some o => rw [elemCells0_frame h hg]; simpa [hg] using hl
theorem mapEntries_frame {m : AVal} {es : List (AVal × AVal)} (hl : mapEntries σ m = some es) : mapEntries τ m = some es := by
  unfold mapEntries at hl ⊢
  cases m <;> first | exact hl | skip
  rename_i id
  simp only [Option.bind_eq_bind] at hl ⊢
  cases hg : σ.get id with
  | none => simp [hg] at hl
  | some o => rw [h.get hg]; simpa [hg] using hl
theorem arrSize_frame {id s : Nat} (hl : arrSize σ id = some s) : arrSize τ id = some s := by
  unfold arrSize at hl ⊢
  cases hg : σ.get id with
  | none => simp [hg] at hl
  | some o => rw [h.get hg]; simpa [hg] using hl
theorem slice_frame {E : Env} {t : TypeId} {x y : AVal} {lo hi mx : Option AVal} (hl : slice E σ t x lo hi mx = some y) : slice E τ t x lo hi mx = some y := by
  unfold slice at hl ⊢
  split at hl
  · exact hl
  · exact hl
  · exact hl
  · rename_i e id off len ex hu
    split at hl
    · rename_i hc
      rw [if_pos ⟨arrSize_frame h hc.1, hc.2⟩]
      exact hl
    · cases hl
  · cases hl
theorem entry_frame {x y : AVal} (hl : entry σ x = some y) : entry τ x = some y := by
  unfold entry at hl ⊢
  split at hl
  · rename_i id
    simp only [Option.bind_eq_bind] at hl ⊢
    cases hg : σ.get id with
    | none => simp [hg] at hl
    | some o =>
      rw [h.get hg]
      simp only [hg, Option.bind_some] at hl ⊢
      split at hl
      · rename_i m
        cases hm : σ.get m with
        | none => simp [hm] at hl
        | some o' => rw [h.get hm]; simpa [hm] using hl
      · cases hl
  · cases hl
theorem lookup_frame {E : Env} {t : TypeId} {m k x : AVal} {ok : Bool} (hl : lookup E σ t m k ok = some x) : lookup E τ t m k ok = some x := by
  unfold lookup at hl ⊢
  simp only [Option.bind_eq_bind] at hl ⊢
  split at hl
  · rename_i kt et hu
    split at hl
    · rename_i hp
      rw [if_pos hp]
      cases hm : mapEntries σ m with
      | none => simp [hm] at hl
      | some es => rw [mapEntries_frame h hm]; simpa [hm] using hl
    · cases hl
  · cases hl
theorem len_frame {E : Env} {at_ : Array TypeId} {x y : AVal} (hl : len E σ at_ x = some y) : len E τ at_ x = some y := by
  unfold len at hl ⊢
  split at hl
  · rename_i t h0
    split at hl
    · exact hl
    · exact hl
    · exact hl
    · exact hl
    · exact hl
    · exact hl
    · rename_i m _ _ k v hu
      cases hm : mapEntries σ m with
      | none => simp [hm] at hl
      | some es => rw [mapEntries_frame h hm]; simpa [hm] using hl
    · cases hl
  · cases hl
end
end Go.Ab

namespace Go.Ab

section
variable {X : Nat → Prop} {σ τ : Store} (h : Sub X σ τ)
include h
theorem store_frame {E : Env} {t : TypeId} {p v : AVal} {σ' : Store} (hs : store E σ t p v = some σ') : ∃ τ', store E τ t p v = some τ' ∧ Sub X σ' τ' ∧ ∀ j, X j → τ'.get j = τ.get j := by
  unfold store at hs ⊢
  cases p <;> first | (cases hs; done) | skip
  rename_i id off
  simp only [Option.bind_eq_bind] at hs ⊢
  cases hg : σ.get id with
  | none => simp [hg] at hs
  | some o =>
    rw [h.get hg]
    simp only [hg, Option.bind_some] at hs ⊢
    cases hc : o.cells? with
    | none => simp [hc] at hs
    | some cs =>
      simp only [hc, Option.bind_some] at hs ⊢
      split at hs
      · rename_i hcond
        cases hs
        rw [if_pos hcond]
        exact ⟨_, rfl, h.put (h.notX hg) _⟩
      · cases hs
theorem mapUpdate_frame {E : Env} {t : TypeId} {m k v : AVal} {σ' : Store} (hs : mapUpdate E σ t m k v = some σ') : ∃ τ', mapUpdate E τ t m k v = some τ' ∧ Sub X σ' τ' ∧ ∀ j, X j → τ'.get j = τ.get j := by
  unfold mapUpdate at hs ⊢
  simp only [Option.bind_eq_bind] at hs ⊢
  split at hs
  case h_2 => cases hs
  split at hs
  case isFalse => cases hs
  rename_i hp
  rw [if_pos hp]
  split at hs
  case h_2 => cases hs
  rename_i id
  cases hm : mapEntries σ (.map id) with
  | none => simp [hm] at hs
  | some es =>
    rw [mapEntries_frame h hm]
    simp only [hm, Option.bind_some] at hs ⊢
    have hx : ¬ X id := by
      unfold mapEntries at hm
      simp only [Option.bind_eq_bind] at hm
      cases hg : σ.get id with
      | none => simp [hg] at hm
      | some o => exact h.notX hg
    cases hf : findKey k es 0 with
    | none => simp [hf] at hs
    | some r =>
      simp only [hf, Option.bind_some] at hs ⊢
      split at hs
      · cases hs
        exact ⟨_, rfl, h.put hx _⟩
      · cases hs
        exact ⟨_, rfl, h.put hx _⟩
theorem mapDelete_frame {E : Env} {t : TypeId} {m k : AVal} {σ' : Store} (hs : mapDelete E σ t m k = some σ') : ∃ τ', mapDelete E τ t m k = some τ' ∧ Sub X σ' τ' ∧ ∀ j, X j → τ'.get j = τ.get j := by
  unfold mapDelete at hs ⊢
  simp only [Option.bind_eq_bind] at hs ⊢
  split at hs
  case h_2 => cases hs
  split at hs
  case isFalse => cases hs
  rename_i hp
  rw [if_pos hp]
  split at hs
  · cases hs
    exact ⟨_, rfl, h, fun _ _ => rfl⟩
  · rename_i id
    cases hm : mapEntries σ (.map id) with
    | none => simp [hm] at hs
    | some es =>
      rw [mapEntries_frame h hm]
      simp only [hm, Option.bind_some] at hs ⊢
      have hx : ¬ X id := by
        unfold mapEntries at hm
        simp only [Option.bind_eq_bind] at hm
        cases hg : σ.get id with
        | none => simp [hg] at hm
        | some o => exact h.notX hg
      cases hf : findKey k es 0 with
      | none => simp [hf] at hs
      | some r =>
        simp only [hf, Option.bind_some] at hs ⊢
        split at hs
        · cases hs
          exact ⟨_, rfl, h.put hx _⟩
        · cases hs
          exact ⟨_, rfl, h, fun _ _ => rfl⟩
  · cases hs
theorem convert_frame {E : Env} {s d : TypeId} {v x : AVal} {σ' : Store} (hs : convert E σ s d v = some (x, σ')) : Fr X τ x σ' (convert E τ s d v) := by
  unfold convert at hs ⊢
  split at hs
  · cases hs; exact .refl h
  · cases hs; exact .refl h
  · split at hs
    · cases hs; rw [← h.next]; exact .new h _
    · cases hs
  · split at hs
    · rename_i n hu hn
      simp only [Option.bind_eq_bind] at hs ⊢
      rename_i v' _ _ _ _ _ _ _ _
      cases hc : elemCells E σ 1 n v' with
      | none => simp [hc] at hs
      | some cs =>
        rw [elemCells_frame h hc]
        simp only [hc, Option.bind_some] at hs ⊢
        cases hb : convert.bytesOf cs with
        | none => simp [hb] at hs
        | some bs =>
          simp only [hb, Option.bind_some, Option.some.injEq, Prod.mk.injEq] at hs ⊢
          obtain ⟨rfl, rfl⟩ := hs
          exact .refl h
    · cases hs
  · cases hs
theorem makeSlice_frame {E : Env} {t : TypeId} {l c x : AVal} {σ' : Store} (hs : makeSlice E σ t l c = some (x, σ')) : Fr X τ x σ' (makeSlice E τ t l c) := by
  unfold makeSlice at hs ⊢
  simp only [Option.bind_eq_bind] at hs ⊢
  split at hs
  case h_2 => cases hs
  rename_i e hu
  cases hl : intOf l with
  | none => simp [hl] at hs
  | some i =>
  cases hc : intOf c with
  | none => simp [hl, hc] at hs
  | some j =>
  simp only [hl, hc, Option.bind_some] at hs ⊢
  split at hs
  case isFalse => cases hs
  rename_i hcond
  rw [if_pos hcond]
  cases hz : E.T.zero e with
  | none => simp [hz] at hs
  | some z =>
  cases hd : E.T.und e with
  | none => simp [hz, hd] at hs
  | some d =>
  simp only [hz, hd, Option.bind_some] at hs ⊢
  split at hs
  case isFalse => cases hs
  rename_i hk
  rw [if_pos hk]
  cases hs
  rw [← h.next]
  exact .new h _
theorem appendMake_frame {E : Env} {e : TypeId} {s v x : AVal} {σ' : Store} (hs : appendMake E σ e s v = some (x, σ')) : Fr X τ x σ' (appendMake E τ e s v) := by
  unfold appendMake at hs ⊢
  simp only [Option.bind_eq_bind] at hs ⊢
  obtain ⟨d, hd, hs⟩ := Option.bind_eq_some_iff.1 hs
  obtain ⟨z, hz, hs⟩ := Option.bind_eq_some_iff.1 hs
  rw [hd, Option.bind_some, hz, Option.bind_some]
  split at hs
  case h_2 => cases hs
  split at hs
  · cases hs
  rename_i hc
  rw [if_neg hc]
  cases hs
  rw [← h.next]
  exact .new h _
theorem append_frame {E : Env} {at_ : Array TypeId} {s v x : AVal} {σ' : Store} (hs : append E σ at_ s v = some (x, σ')) : Fr X τ x σ' (append E τ at_ s v) := by
  unfold append at hs ⊢
  simp only [Option.bind_eq_bind] at hs ⊢
  split at hs
  case h_2 => cases hs
  rename_i st h0
  split at hs
  case h_2 => cases hs
  rename_i e hu
  split at hs
  case h_2 => cases hs
  rename_i xt h1
  split at hs
  · cases hs
  · exact appendMake_frame h hs
  rename_i hn1 hn2
  cases hd : E.T.und e with
  | none => simp [hd] at hs
  | some d =>
  simp only [hd, Option.bind_some] at hs ⊢
  split at hs
  · cases hs
  rename_i hc1
  rw [if_neg hc1]
  cases hln : lenOf v with
  | none => simp [hln] at hs
  | some n =>
  cases hlm : lenOf s with
  | none => simp [hln, hlm] at hs
  | some m =>
  simp only [hln, hlm, Option.bind_some] at hs ⊢
  cases hnew : elemCells E σ (E.T.size e) n v with
  | none => simp [hnew] at hs
  | some new =>
  rw [elemCells_frame h hnew]
  simp only [hnew, Option.bind_some] at hs ⊢
  split at hs
  · cases hs
  rename_i hc2
  rw [if_neg hc2]
  split at hs
  · rename_i hn0
    rw [if_pos hn0]
    split at hs
    · cases hs; exact .refl h
    · cases hs; exact .refl h
    · cases hs; exact .refl h
    · cases hs
  rename_i hn0
  rw [if_neg hn0]
  split at hs
  · cases hs
    rw [← h.next]
    exact .new h _
  · rename_i xs ex
    split at hs
    · rename_i hex
      rw [if_pos hex]
      cases hold : elemCells E σ (E.T.size e) m (.slice xs ex) with
      | none => simp [hold] at hs
      | some old =>
        rw [elemCells_frame h hold]
        simp only [hold, Option.bind_some, Option.some.injEq, Prod.mk.injEq] at hs ⊢
        obtain ⟨rfl, rfl⟩ := hs
        rw [← h.next]
        exact .new h _
    · cases hs
  · rename_i id off len ex
    cases hg : σ.get id with
    | none => simp [hg] at hs
    | some o =>
    rw [h.get hg]
    simp only [hg, Option.bind_some] at hs ⊢
    split at hs
    case h_2 => cases hs
    rename_i g sz cs
    split at hs
    · cases hs
    rename_i c1
    rw [if_neg c1]
    split at hs
    · rename_i c2
      rw [if_pos c2]
      cases hs
      rw [← h.next]
      exact .new h _
    rename_i c2
    rw [if_neg c2]
    split at hs
    · rename_i c3
      rw [if_pos c3]
      cases hs
      rw [← h.next]
      exact .delNew h (h.notX hg) _
    rename_i c3
    rw [if_neg c3]
    split at hs
    · rename_i c4
      rw [if_pos c4]
      cases hs
      exact .put h (h.notX hg) _
    · cases hs
  · cases hs
theorem copy_frame {E : Env} {at_ : Array TypeId} {s v x : AVal} {σ' : Store} (hs : copy E σ at_ s v = some (x, σ')) : Fr X τ x σ' (copy E τ at_ s v) := by
  unfold copy at hs ⊢
  simp only [Option.bind_eq_bind] at hs ⊢
  split at hs
  case h_2 => cases hs
  rename_i st h0
  split at hs
  case h_2 => cases hs
  rename_i e hu
  split at hs
  · cases hs
  rename_i hz
  rw [if_neg hz]
  cases hln : lenOf v with
  | none => simp [hln] at hs
  | some n =>
  cases hlm : lenOf s with
  | none => simp [hln, hlm] at hs
  | some m =>
  simp only [hln, hlm, Option.bind_some] at hs ⊢
  cases hnew : elemCells E σ (E.T.size e) (min n m) v with
  | none => simp [hnew] at hs
  | some new =>
  rw [elemCells_frame h hnew]
  simp only [hnew, Option.bind_some] at hs ⊢
  split at hs
  · split at hs
    · rename_i hk
      rw [if_pos hk]
      cases hs
      exact .refl h
    · cases hs
  · split at hs
    · rename_i hk
      rw [if_pos hk]
      cases hs
      exact .refl h
    · cases hs
  · rename_i id off len ex
    cases hg : σ.get id with
    | none => simp [hg] at hs
    | some o =>
    rw [h.get hg]
    simp only [hg, Option.bind_some] at hs ⊢
    split at hs
    case h_2 => cases hs
    rename_i g sz cs
    split at hs
    case isFalse => cases hs
    rename_i c1
    rw [if_pos c1]
    cases hs
    exact .put h (h.notX hg) _
  · cases hs
theorem clear_frame {E : Env} {at_ : Array TypeId} {v : AVal} {σ' : Store} (hs : clear E σ at_ v = some σ') : ∃ τ', clear E τ at_ v = some τ' ∧ Sub X σ' τ' ∧ ∀ j, X j → τ'.get j = τ.get j := by
  unfold clear at hs ⊢
  simp only [Option.bind_eq_bind] at hs ⊢
  split at hs
  case h_2 => cases hs
  rename_i st h0
  split at hs
  · cases hs; exact ⟨_, rfl, h, fun _ _ => rfl⟩
  · cases hs; exact ⟨_, rfl, h, fun _ _ => rfl⟩
  · rename_i e id off len ex hu
    split at hs
    · cases hs
    rename_i hz
    rw [if_neg hz]
    cases hg : σ.get id with
    | none => simp [hg] at hs
    | some o =>
    rw [h.get hg]
    simp only [hg, Option.bind_some] at hs ⊢
    cases hzz : E.T.zero e with
    | none => simp [hzz] at hs
    | some z =>
    simp only [hzz, Option.bind_some] at hs ⊢
    split at hs
    case h_2 => cases hs
    rename_i g sz cs
    split at hs
    case isFalse => cases hs
    rename_i c1
    rw [if_pos c1]
    cases hs
    exact ⟨_, rfl, h.put (h.notX hg) _⟩
  · cases hs
theorem next_frame {it x : AVal} {b : Bool} {σ' : Store} (hs : next σ it b = some (x, σ')) : Fr X τ x σ' (next τ it b) := by
  unfold next at hs ⊢
  split at hs
  case h_3 => cases hs
  case h_2 id =>
    simp only [Option.bind_eq_bind] at hs ⊢
    cases hg : σ.get id with
    | none => simp [hg] at hs
    | some o =>
    rw [h.get hg]
    simp only [hg, Option.bind_some] at hs ⊢
    split at hs
    case h_2 => cases hs
    rename_i m
    cases hm : σ.get m with
    | none => simp [hm] at hs
    | some om =>
    simp only [h.get hm]
    simp only [hm, Option.bind_some] at hs ⊢
    split at hs
    case h_2 => cases hs
    split at hs
    case isTrue => cases hs
    rename_i hit
    simp only [if_neg hit]
    split at hs
    · cases hs; exact .put h (h.notX hm) _
    · cases hs; exact .put h (h.notX hm) _
    · cases hs; exact .put h (h.notX hm) _
    · cases hs
  rename_i id
  simp only [Option.bind_eq_bind] at hs ⊢
  cases hg : σ.get id with
  | none => simp [hg] at hs
  | some o =>
  rw [h.get hg]
  simp only [hg, Option.bind_some] at hs ⊢
  split at hs
  case h_2 => cases hs
  split at hs
  · rename_i hc
    rw [if_pos hc]
    cases hs
    exact .put h (h.notX hg) _
  · rename_i hc
    rw [if_neg hc]
    cases hs
    exact .refl h
theorem map_frame {α : Type} {o o' : Option α} {f : α → AVal} {x : AVal} {σ' : Store} (ho : ∀ a, o = some a → o' = some a) (hs : o.map (fun v => (f v, σ)) = some (x, σ')) : Fr X τ x σ' (o'.map fun v => (f v, τ)) := by
  simp only [Option.map_eq_some_iff, Prod.mk.injEq] at hs
  obtain ⟨a, ha, rfl, rfl⟩ := hs
  rw [ho a ha]
  exact .refl h
omit h in
theorem unit_frame {o o' : Option Store} {x y : AVal} {σ' : Store} (ho : ∀ σ1, o = some σ1 → ∃ τ', o' = some τ' ∧ Sub X σ1 τ' ∧ ∀ j, X j → τ'.get j = τ.get j) (hs : o.map (fun v => (y, v)) = some (x, σ')) : Fr X τ x σ' (o'.map fun v => (y, v)) := by
  simp only [Option.map_eq_some_iff, Prod.mk.injEq] at hs
  obtain ⟨a, ha, rfl, rfl⟩ := hs
  obtain ⟨τ', e, h1, h2⟩ := ho a ha
  rw [e]
  exact ⟨τ', rfl, h1, h2⟩
theorem hidAppend_frame {E : Env} {at_ : Array TypeId} {i : Nat} {x : AVal} {σ' : Store} (hs : hidAppend E σ at_ i = some (x, σ')) : Fr X τ x σ' (hidAppend E τ at_ i) := by
  unfold hidAppend at hs ⊢
  simp only [Option.bind_eq_bind] at hs ⊢
  split at hs
  case h_2 => cases hs
  split at hs
  case h_2 => cases hs
  split at hs
  case h_2 => cases hs
  split at hs
  case h_1 => cases hs
  case h_2 => cases hs
  obtain ⟨d, hd, hs⟩ := Option.bind_eq_some_iff.1 hs
  rw [hd, Option.bind_some]
  split at hs
  · cases hs
  rename_i hc
  rw [if_neg hc]
  cases hs
  exact ⟨_, rfl, ⟨by show τ.next + 1 = σ.next + 1; rw [h.next], fun id hid => h.same id hid, fun id hid => ⟨(h.none id hid).1, by have := (h.none id hid).2; show id < σ.next + 1; omega⟩⟩, fun _ _ => rfl⟩
theorem builtin_frame {E : Env} {b : Builtin} {at_ : Array TypeId} {l : List AVal} {x : AVal} {σ' : Store} (hs : builtin E σ b at_ l = some (x, σ')) : Fr X τ x σ' (builtin E τ b at_ l) := by
  unfold builtin at hs ⊢
  split at hs
  · exact map_frame h (f := id) (fun a ha => len_frame h ha) hs
  · exact map_frame h (f := id) (fun a ha => ha) hs
  · exact hidAppend_frame h hs
  · exact append_frame h hs
  · exact copy_frame h hs
  · exact unit_frame (fun a ha => clear_frame h ha) hs
  · simp only [Option.bind_eq_bind] at hs ⊢
    split at hs
    case h_2 => cases hs
    rename_i t h0
    rename_i m k _ _
    cases hd : mapDelete E σ t m k with
    | none => simp [hd] at hs
    | some σ1 =>
      obtain ⟨τ', e, k1, k2⟩ := mapDelete_frame h hd
      rw [e]
      simp only [hd, Option.bind_some, Option.some.injEq, Prod.mk.injEq] at hs ⊢
      obtain ⟨rfl, rfl⟩ := hs
      exact ⟨τ', rfl, k1, k2⟩
  · exact map_frame h (f := id) (fun a ha => ha) hs
  · exact map_frame h (f := id) (fun a ha => ha) hs
  · cases hs
/-- Every operation. -/
theorem aop_frame {E : Env} {tm : List AVal} {op : Op} {x : AVal} {σ' : Store} (hs : aop E tm σ op = some (x, σ')) : Fr X τ x σ' (aop E tm τ op) := by
  have two : ∀ {α : Type} {o : Option α} {f g : α → Option (AVal × Store)}, (∀ a, o = some a → f a = some (x, σ') → Fr X τ x σ' (g a)) → o.bind f = some (x, σ') → Fr X τ x σ' (o.bind g) := fun {α o f g} k hs => by
    obtain ⟨a, ha, hs⟩ := Option.bind_eq_some_iff.1 hs
    rw [ha]
    exact k a ha hs
  unfold aop at hs ⊢
  simp only [Option.bind_eq_bind] at hs ⊢
  split at hs
  · exact map_frame h (f := id) (fun a ha => ha) hs
  · exact map_frame h (f := id) (fun a ha => ha) hs
  · refine two (fun a ha hs => ?_) hs
    split at hs
    · exact two (fun v hv hs => by simp only [Option.some.injEq, Prod.mk.injEq] at hs; obtain ⟨rfl, rfl⟩ := hs; exact .refl h) hs
    · cases hs
  · unfold alloc at hs ⊢
    exact two (fun z hz hs => by simp only [Option.some.injEq, Prod.mk.injEq] at hs; obtain ⟨rfl, rfl⟩ := hs; rw [← h.next]; exact .new h _) hs
  · refine two (fun v hv hs => ?_) hs
    unfold box at hs ⊢
    split at hs
    · rename_i hc
      rw [if_pos hc]
      simp only [Option.some.injEq, Prod.mk.injEq] at hs
      obtain ⟨rfl, rfl⟩ := hs
      rw [← h.next]; exact .new h _
    · cases hs
  · exact two (fun l hl hs => map_frame h (f := id) (fun a ha => ha) hs) hs
  · exact two (fun l hl hs => map_frame h (f := id) (fun a ha => ha) hs) hs
  · exact two (fun l hl hs => map_frame h (f := id) (fun a ha => load_frame h ha) hs) hs
  · exact two (fun p hp hs => two (fun v hv hs => unit_frame (fun a ha => store_frame h ha) hs) hs) hs
  · exact two (fun l hl hs => map_frame h (f := id) (fun a ha => ha) hs) hs
  · exact two (fun p hp hs => two (fun v hv hs => map_frame h (f := id) (fun a ha => ha) hs) hs) hs
  · exact two (fun l hl hs => map_frame h (f := id) (fun a ha => ha) hs) hs
  · exact two (fun l hl hs => convert_frame h hs) hs
  · exact two (fun l hl hs => map_frame h (f := id) (fun a ha => ha) hs) hs
  · exact two (fun p hp hs => two (fun v hv hs => by simp only [Option.some.injEq, Prod.mk.injEq] at hs; obtain ⟨rfl, rfl⟩ := hs; exact .refl h) hs) hs
  · simp only [Option.some.injEq, Prod.mk.injEq] at hs
    obtain ⟨rfl, rfl⟩ := hs
    rw [← h.next]; exact .new h _
  · exact two (fun p hp hs => two (fun v hv hs => makeSlice_frame h hs) hs) hs
  · exact two (fun p hp hs => two (fun v hv hs => two (fun p hp hs => two (fun v hv hs => map_frame h (f := id) (fun a ha => slice_frame h ha) hs) hs) hs) hs) hs
  · exact two (fun l hl hs => map_frame h (f := id) (fun a ha => ha) hs) hs
  · exact two (fun l hl hs => map_frame h (f := id) (fun a ha => ha) hs) hs
  · exact two (fun p hp hs => two (fun v hv hs => map_frame h (f := id) (fun a ha => ha) hs) hs) hs
  · exact two (fun p hp hs => two (fun v hv hs => two (fun v hv hs => map_frame h (f := id) (fun a ha => ha) hs) hs) hs) hs
  · exact two (fun p hp hs => two (fun v hv hs => map_frame h (f := id) (fun a ha => lookup_frame h ha) hs) hs) hs
  · exact two (fun p hp hs => two (fun v hv hs => two (fun v hv hs => unit_frame (fun a ha => mapUpdate_frame h ha) hs) hs) hs) hs
  · refine two (fun a ha hs => ?_) hs
    split at hs
    · simp only [Option.some.injEq, Prod.mk.injEq] at hs
      obtain ⟨rfl, rfl⟩ := hs
      rw [← h.next]; exact .new h _
    · rename_i m _
      obtain ⟨es, he, hs⟩ := Option.bind_eq_some_iff.1 hs
      rw [mapEntries_frame h he]
      simp only [Option.some.injEq, Prod.mk.injEq, Option.bind_some] at hs ⊢
      obtain ⟨rfl, rfl⟩ := hs
      have hm : ¬ X m := by
        unfold mapEntries at he
        simp only [Option.bind_eq_bind] at he
        obtain ⟨o, ho, _⟩ := Option.bind_eq_some_iff.1 he
        exact h.notX ho
      obtain ⟨k1, k2⟩ := h.put hm (.rmap es σ.next 0)
      obtain ⟨k3, k4⟩ := k1.new (.itof m)
      rw [← h.next]
      exact ⟨_, rfl, by rw [h.next]; exact k3, fun j hj => by rw [h.next]; exact (k4 j hj).trans (k2 j hj)⟩
    · cases hs
  · exact two (fun p hp hs => next_frame h hs) hs
  · exact two (fun p hp hs => map_frame h (f := id) (fun a ha => entry_frame h ha) hs) hs
  · exact two (fun l hl hs => map_frame h (f := id) (fun a ha => ha) hs) hs
  · refine two (fun a ha hs => ?_) hs
    split at hs
    · exact map_frame h (f := id) (fun a ha => ha) hs
    · cases hs
  · exact two (fun l hl hs => builtin_frame h hs) hs
  · cases hs
end
end Go.Ab

namespace Go.Ab

def SealFr (s : Store → AVal → Option (AVal × Store)) : Prop := ∀ σ x y σ', s σ x = some (y, σ') → ∀ X τ, Sub X σ τ → Fr X τ y σ' (s τ x)
theorem Fr.of_bind {α β : Type} {X : Nat → Prop} {σ τ : Store} {r r' : Option (α × Store)} {f f' : α × Store → Option (β × Store)} {y : β} {σ2 : Store} (hs : r.bind f = some (y, σ2))
    (h1 : ∀ x σ1, r = some (x, σ1) → Fr X τ x σ1 r') (h2 : ∀ x σ1 τ1, Sub X σ1 τ1 → f (x, σ1) = some (y, σ2) → Fr X τ1 y σ2 (f' (x, τ1))) : Fr X τ y σ2 (r'.bind f') := by
  obtain ⟨⟨x, σ1⟩, e, hs⟩ := Option.bind_eq_some_iff.1 hs
  exact (h1 x σ1 e).bind fun τ1 hs1 => h2 x σ1 τ1 hs1 hs
theorem sealL_frame {s : Store → AVal → Option (AVal × Store)} (hs : SealFr s) : ∀ (xs : List AVal) (σ σ' : Store) (l : List AVal), sealL s σ xs = some (l, σ') → ∀ X τ, Sub X σ τ → Fr X τ l σ' (sealL s τ xs)
  | [], σ, σ', l, h, X, τ, hx => by cases h; exact .refl hx
  | v :: vs, σ, σ', l, h, X, τ, hx => by
    simp only [sealL, Option.bind_eq_bind] at h ⊢
    refine Fr.of_bind (σ := σ) h (fun x σ1 e => hs _ _ _ _ e X τ hx) fun x σ1 τ1 k1 h => ?_
    refine Fr.of_bind (σ := σ1) h (fun y σ2 e => sealL_frame hs vs σ1 σ2 y e X τ1 k1) fun y σ2 τ2 k2 h => ?_
    cases h
    exact .refl k2
theorem sealV_frame : ∀ d, SealFr (sealV d)
  | 0 => fun σ x y σ' h => by cases h
  | d + 1 => fun σ x y σ' h X τ hx => by
    have ih := sealV_frame d
    unfold sealV at h ⊢
    split at h
    · rename_i xs ex
      cases ex with
      | false => cases h; exact .refl hx
      | true =>
      simp only [Option.bind_eq_bind, if_true] at h ⊢
      refine Fr.of_bind (σ := σ) h (fun x σ1 e => sealL_frame ih _ _ _ _ e X τ hx) fun x σ1 τ1 k1 h => ?_
      cases h; exact .refl k1
    · rename_i id off len ex
      simp only [Option.bind_eq_bind] at h ⊢
      cases hg : σ.get id with
      | none => simp [hg] at h
      | some o =>
      rw [hx.get hg]
      simp only [hg, Option.bind_some] at h ⊢
      split at h
      case h_2 => cases h
      split at h
      case isFalse => cases h
      rename_i hc
      rw [if_pos hc]
      obtain ⟨d1, d2⟩ := hx.del (hx.notX hg)
      obtain ⟨⟨l, σ1⟩, hl, h⟩ := Option.bind_eq_some_iff.1 h
      obtain ⟨τ', e, k1, k2⟩ := sealL_frame ih _ _ _ _ hl X _ d1
      rw [e]
      cases h
      exact ⟨τ', rfl, k1, fun j hj => (k2 j hj).trans (d2 j hj)⟩
    · simp only [Option.bind_eq_bind] at h ⊢
      refine Fr.of_bind (σ := σ) h (fun x σ1 e => sealL_frame ih _ _ _ _ e X τ hx) fun x σ1 τ1 k1 h => ?_
      cases h; exact .refl k1
    · simp only [Option.bind_eq_bind] at h ⊢
      refine Fr.of_bind (σ := σ) h (fun x σ1 e => sealL_frame ih _ _ _ _ e X τ hx) fun x σ1 τ1 k1 h => ?_
      cases h; exact .refl k1
    · simp only [Option.bind_eq_bind] at h ⊢
      refine Fr.of_bind (σ := σ) h (fun x σ1 e => ih _ _ _ _ e X τ hx) fun x σ1 τ1 k1 h => ?_
      cases h; exact .refl k1
    · cases h; exact .refl hx

def FrameOk (call : Caller) : Prop := ∀ g args σ x σ', call g args σ = some (x, σ') → ∀ X τ, Sub X σ τ → Fr X τ x σ' (call g args τ)

theorem stepOp_frame {E : Env} {call : Caller} (hC : FrameOk call) {o : Oper} {tm : List AVal} {σ σ' : Store} {x : AVal} (h : stepOp E call o tm σ = some (x, σ')) {X : Nat → Prop} {τ : Store} (hx : Sub X σ τ) : Fr X τ x σ' (stepOp E call o tm τ) := by
  unfold stepOp at h ⊢
  split at h
  · simp only [Option.bind_eq_bind] at h ⊢
    obtain ⟨fv, hfv, h⟩ := Option.bind_eq_some_iff.1 h
    rw [hfv]
    simp only [Option.bind_some]
    split at h
    case h_3 => cases h
    case h_2 =>
      obtain ⟨l, hl, h⟩ := Option.bind_eq_some_iff.1 h
      rw [hl]
      exact hC _ _ _ _ _ h X τ hx
    obtain ⟨l, hl, h⟩ := Option.bind_eq_some_iff.1 h
    rw [hl]
    exact hC _ _ _ _ _ h X τ hx
  · exact aop_frame hx h

theorem runOps_frame {E : Env} {call : Caller} (hC : FrameOk call) {ops : Array Oper} : ∀ (l : List Nat) (tm : List AVal) (σ σ' : Store) (tm' : List AVal), runOps E call ops l tm σ = some (tm', σ') → ∀ X τ, Sub X σ τ → Fr X τ tm' σ' (runOps E call ops l tm τ)
  | [], tm, σ, σ', tm', h, X, τ, hx => by cases h; exact .refl hx
  | i :: l, tm, σ, σ', tm', h, X, τ, hx => by
    unfold runOps at h ⊢
    split at h
    · cases h
    rename_i o ho
    simp only [Option.bind_eq_bind] at h ⊢
    obtain ⟨b, hb, h⟩ := Option.bind_eq_some_iff.1 h
    rw [hb]
    simp only [Option.bind_some]
    split at h
    · rename_i hbt
      rw [if_pos hbt]
      exact Fr.of_bind (σ := σ) h (fun x σ1 e => stepOp_frame hC e hx) fun x σ1 τ1 k1 h => runOps_frame hC l _ σ1 σ' tm' h X τ1 k1
    · rename_i hbt
      rw [if_neg hbt]
      exact runOps_frame hC l _ σ σ' tm' h X τ hx

/-! regions that draw their order -/
structure LogSub (X : Nat → Prop) (lg lg' : Log) : Prop where
  seen : lg'.seen = lg.seen
  len : lg'.stores.length = lg.stores.length
  stores : ∀ (j : Nat) (σ τ : Store), lg.stores[j]? = some σ → lg'.stores[j]? = some τ → Sub X σ τ
theorem LogSub.push {X : Nat → Prop} {lg lg' : Log} (h : LogSub X lg lg') {σ τ : Store} (hx : Sub X σ τ) : LogSub X { lg with stores := lg.stores ++ [σ] } { lg' with stores := lg'.stores ++ [τ] } := by
  refine ⟨h.seen, by simp [h.len], fun j a b ha hb => ?_⟩
  have hl := h.len
  simp only [List.getElem?_append] at ha hb
  by_cases hj : j < lg.stores.length
  · rw [if_pos hj] at ha; rw [if_pos (by omega)] at hb
    exact h.stores j a b ha hb
  · rw [if_neg hj] at ha; rw [if_neg (by omega)] at hb
    rw [hl] at hb
    cases hk : j - lg.stores.length with
    | zero => rw [hk] at ha hb; cases ha; cases hb; exact hx
    | succ n => rw [hk] at ha; simp at ha
theorem stepAt_frame {E : Env} {call : Caller} (hC : FrameOk call) {o : Oper} {tm : List AVal} {σ σ' : Store} {x : AVal} {id : Option Nat} (h : stepAt E call o tm σ id = some (x, σ')) {X : Nat → Prop} {τ : Store} (hx : Sub X σ τ) (hid : ∀ i, id = some i → ¬ X i) : Fr X τ x σ' (stepAt E call o tm τ id) := by
  unfold stepAt at h ⊢
  split at h
  · exact stepOp_frame hC h hx
  · rename_i i
    simp only [Option.map_eq_some_iff, Prod.mk.injEq] at h
    obtain ⟨b, hb, rfl, rfl⟩ := h
    rw [hb]
    exact .put hx (hid i rfl) _
theorem runPlan_frame {E : Env} {call : Caller} (hC : FrameOk call) {ops : Array Oper} {effs allocs : List Nat} {base : Nat} {X : Nat → Prop} (hX : ∀ id, X id → id < base) : ∀ (l : List Nat) (tm : List AVal) (σ : Store) (lg : Log) (tm' : List AVal) (σ' : Store) (lg1 : Log),
    runPlan E call ops effs allocs base l tm σ lg = some (tm', σ', lg1) → ∀ τ lg', Sub X σ τ → LogSub X lg lg' → ∃ τ' lg1', runPlan E call ops effs allocs base l tm τ lg' = some (tm', τ', lg1') ∧ Sub X σ' τ' ∧ LogSub X lg1 lg1' ∧ ∀ j, X j → τ'.get j = τ.get j
  | [], tm, σ, lg, tm', σ', lg1, h, τ, lg', hx, hlg => by cases h; exact ⟨τ, lg', rfl, hx, hlg, fun _ _ => rfl⟩
  | i :: l, tm, σ, lg, tm', σ', lg1, h, τ, lg', hx, hlg => by
    unfold runPlan at h ⊢
    split at h
    · cases h
    rename_i o ho
    simp only [Option.bind_eq_bind] at h ⊢
    obtain ⟨b, hb, h⟩ := Option.bind_eq_some_iff.1 h
    rw [hb]
    simp only [Option.bind_some]
    have tail : ∀ (x : AVal) (σ1 τ1 : Store), Sub X σ1 τ1 → runPlan E call ops effs allocs base l (putTm tm o.dst x) σ1 { seen := (i, tm, x) :: (if effs.contains i = true then { lg with stores := lg.stores ++ [σ1] } else lg).seen, stores := (if effs.contains i = true then { lg with stores := lg.stores ++ [σ1] } else lg).stores } = some (tm', σ', lg1) →
        ∃ τ' lg1', runPlan E call ops effs allocs base l (putTm tm o.dst x) τ1 { seen := (i, tm, x) :: (if effs.contains i = true then { lg' with stores := lg'.stores ++ [τ1] } else lg').seen, stores := (if effs.contains i = true then { lg' with stores := lg'.stores ++ [τ1] } else lg').stores } = some (tm', τ', lg1') ∧ Sub X σ' τ' ∧ LogSub X lg1 lg1' ∧ ∀ j, X j → τ'.get j = τ1.get j := fun x σ1 τ1 k1 h => by
      refine runPlan_frame hC hX l _ σ1 _ tm' σ' lg1 h τ1 _ k1 ?_
      split
      · exact ⟨by simp [hlg.seen], (hlg.push k1).len, (hlg.push k1).stores⟩
      · exact ⟨by simp [hlg.seen], hlg.len, hlg.stores⟩
    cases b with
    | true =>
      simp only [if_true] at h ⊢
      obtain ⟨⟨x, σ1⟩, hs, h⟩ := Option.bind_eq_some_iff.1 h
      obtain ⟨τ1, e1, k1, k2⟩ := stepAt_frame hC hs hx (fun j hj => by
        simp only [Option.map_eq_some_iff] at hj
        obtain ⟨n, _, rfl⟩ := hj
        intro hxj
        have := hX _ hxj
        omega)
      rw [e1]
      obtain ⟨τ', lg1', r1, r2, r3, r4⟩ := tail x σ1 τ1 k1 h
      exact ⟨τ', lg1', r1, r2, r3, fun j hj => (r4 j hj).trans (k2 j hj)⟩
    | false =>
      exact tail .undef σ τ hx h

theorem checkRead_frame {E : Env} {ops : Array Oper} {X : Nat → Prop} {lg lg' : Log} (h : LogSub X lg lg') {c : Nat × Nat × Nat} (hc : checkRead E ops lg c = true) : checkRead E ops lg' c = true := by
  unfold checkRead at hc ⊢
  rw [h.seen]
  split at hc
  case h_2 => cases hc
  rename_i n tm v o hf ho
  simp only [Bool.or_eq_true, List.all_eq_true] at hc ⊢
  rcases hc with hc | hc
  · exact .inl hc
  · refine .inr fun j hj => ?_
    rcases hc j hj with h1 | h1
    · exact .inl h1
    · refine .inr ?_
      cases hs : lg.stores[j]? with
      | none => simp [hs] at h1
      | some σ =>
        have hlt := (List.getElem?_eq_some_iff.1 hs).1
        have hs' : lg'.stores[j]? = some (lg'.stores[j]'(by rw [h.len]; exact hlt)) := List.getElem?_eq_getElem _
        rw [hs']
        simp only [hs, decide_eq_true_eq] at h1 ⊢
        cases ha : aop E tm σ o.op with
        | none => simp [ha] at h1
        | some r =>
          obtain ⟨x, σ1⟩ := r
          obtain ⟨τ', e, _, _⟩ := aop_frame (h.stores j _ _ hs hs') ha
          rw [e]
          simpa [ha] using h1

theorem runRegion_frame {E : Env} {call : Caller} (hC : FrameOk call) {f : FuncId} {id : Nat} {ops : Array Oper} {draw : Bool} {tm tm' : List AVal} {σ σ' : Store} (h : runRegion E call f id ops draw tm σ = some (tm', σ')) {X : Nat → Prop} {τ : Store} (hx : Sub X σ τ) :
    Fr X τ tm' σ' (runRegion E call f id ops draw tm τ) := by
  unfold runRegion at h ⊢
  split at h
  · rename_i hd
    rw [if_pos hd]
    simp only [Option.bind_eq_bind] at h ⊢
    obtain ⟨p, hp, h⟩ := Option.bind_eq_some_iff.1 h
    obtain ⟨⟨tm1, σ1, lg⟩, hr, h⟩ := Option.bind_eq_some_iff.1 h
    simp only at h
    split at h
    case isFalse => cases h
    rename_i hc
    cases h
    have h0 : Sub X { σ with next := σ.next + p.allocs.length } { τ with next := τ.next + p.allocs.length } := ⟨by simp [hx.next], hx.same, fun j hj => ⟨(hx.none j hj).1, by have := (hx.none j hj).2; simp; omega⟩⟩
    have hl0 : LogSub X { seen := [], stores := [{ σ with next := σ.next + p.allocs.length }] } { seen := [], stores := [{ τ with next := τ.next + p.allocs.length }] } := ⟨rfl, rfl, fun j a b ha hb => by
      cases j with
      | zero => cases ha; cases hb; exact h0
      | succ j => simp at ha⟩
    obtain ⟨τ', lg', r1, r2, r3, r4⟩ := runPlan_frame hC (X := X) (base := σ.next) (fun j hj => (hx.none j hj).2) p.order tm _ _ _ _ _ hr _ _ h0 hl0
    rw [hp]
    simp only [Option.bind_some]
    have r1 : runPlan E call ops p.effs p.allocs τ.next p.order tm { τ with next := τ.next + p.allocs.length } { seen := [], stores := [{ τ with next := τ.next + p.allocs.length }] } = some (tm', τ', lg') := by
      rw [← r1]
      simp only [hx.next]
    rw [r1]
    simp only [Option.bind_some]
    rw [if_pos (List.all_eq_true.2 fun c hcc => checkRead_frame r3 (List.all_eq_true.1 hc c hcc))]
    exact ⟨τ', rfl, r2, fun j hj => (r4 j hj)⟩
  · rename_i hd
    rw [if_neg hd]
    exact runOps_frame hC _ _ _ _ _ h X τ hx

def PrimFr (E : Env) : Prop := ∀ g pr, E.prim g = some pr → ∀ args σ x σ', pr args σ = some (x, σ') → ∀ X τ, Sub X σ τ → Fr X τ x σ' (pr args τ)
def ExecFr (ex : Exec) : Prop := ∀ f c tm σ e tm' σ', ex f c tm σ = some (e, tm', σ') → ∀ X τ, Sub X σ τ → ∃ τ', ex f c tm τ = some (e, tm', τ') ∧ Sub X σ' τ' ∧ ∀ j, X j → τ'.get j = τ.get j

theorem resultsA_frame {E : Env} {X : Nat → Prop} {σ τ : Store} (hx : Sub X σ τ) {tm : List AVal} : ∀ {rs : List ResultVar} {l : List AVal}, resultsA E rs tm σ = some l → resultsA E rs tm τ = some l
  | [], l, h => h
  | .tmp t :: rs, l, h => by
    simp only [resultsA, Option.bind_eq_bind] at h ⊢
    obtain ⟨l', hl, h⟩ := Option.bind_eq_some_iff.1 h
    rw [resultsA_frame hx hl]
    exact h
  | .cell a t :: rs, l, h => by
    simp only [resultsA, Option.bind_eq_bind] at h ⊢
    obtain ⟨v, hv, h⟩ := Option.bind_eq_some_iff.1 h
    obtain ⟨l', hl, h⟩ := Option.bind_eq_some_iff.1 h
    rw [load_frame hx hv, resultsA_frame hx hl]
    exact h

theorem enter_frame {E : Env} {ex : Exec} (hex : ExecFr ex) {g : FuncId} {args : List AVal} {σ σ' : Store} {x : AVal} (h : enter E ex g args σ = some (x, σ')) {X : Nat → Prop} {τ : Store} (hx : Sub X σ τ) : Fr X τ x σ' (enter E ex g args τ) := by
  unfold enter at h ⊢
  simp only [Option.bind_eq_bind] at h ⊢
  obtain ⟨fn, hfn, h⟩ := Option.bind_eq_some_iff.1 h
  obtain ⟨c, hc, h⟩ := Option.bind_eq_some_iff.1 h
  obtain ⟨⟨e, tm, σ1⟩, he, h⟩ := Option.bind_eq_some_iff.1 h
  obtain ⟨τ1, e1, k1, k2⟩ := hex _ _ _ _ _ _ _ he X τ hx
  rw [hfn, Option.bind_some, hc, Option.bind_some, e1, Option.bind_some]
  simp only at h ⊢
  split at h
  · cases h
  · obtain ⟨l, hl, h⟩ := Option.bind_eq_some_iff.1 h
    cases h
    rw [resultsA_frame k1 hl]
    exact ⟨τ1, rfl, k1, k2⟩

theorem getLoop_frame {X : Nat → Prop} {σ τ : Store} (hx : Sub X σ τ) {id : Nat} {l : ALoop} (h : getLoop σ id = some l) : getLoop τ id = some l ∧ ¬ X id := by
  unfold getLoop at h ⊢
  split at h
  · rename_i l' hg
    cases h
    rw [hx.get hg]
    exact ⟨rfl, hx.notX hg⟩
  · cases h
theorem roundA_frame {ex : Exec} (hex : ExecFr ex) {id : Nat} {args : List AVal} {σ σ' : Store} {x : AVal} (h : roundA ex id args σ = some (x, σ')) {X : Nat → Prop} {τ : Store} (hx : Sub X σ τ) : Fr X τ x σ' (roundA ex id args τ) := by
  unfold roundA at h ⊢
  simp only [Option.bind_eq_bind] at h ⊢
  obtain ⟨l, hl, h⟩ := Option.bind_eq_some_iff.1 h
  rw [(getLoop_frame hx hl).1, Option.bind_some]
  split at h
  · cases h
  rename_i hsz
  rw [if_neg hsz]
  obtain ⟨⟨e1, tm1, σ1⟩, h1, h⟩ := Option.bind_eq_some_iff.1 h
  obtain ⟨τ1, q1, k1, k2⟩ := hex _ _ _ _ _ _ _ h1 X τ hx
  rw [q1, Option.bind_some]
  simp only at h ⊢
  split at h
  case h_2 => cases h
  obtain ⟨l1, hl1, h⟩ := Option.bind_eq_some_iff.1 h
  obtain ⟨g1, n1⟩ := getLoop_frame k1 hl1
  rw [g1, Option.bind_some]
  split at h
  · cases h
  rename_i hb
  rw [if_neg hb]
  obtain ⟨⟨e2, tm2, σ2⟩, h2, h⟩ := Option.bind_eq_some_iff.1 h
  obtain ⟨p1, p2⟩ := k1.put n1 (.loop { l1 with busy := true })
  obtain ⟨τ2, q2, k3, k4⟩ := hex _ _ _ _ _ _ _ h2 X _ p1
  rw [q2, Option.bind_some]
  simp only at h ⊢
  obtain ⟨l2, hl2, h⟩ := Option.bind_eq_some_iff.1 h
  obtain ⟨g2, n2⟩ := getLoop_frame k3 hl2
  rw [g2, Option.bind_some]
  simp only [Option.some.injEq, Prod.mk.injEq] at h
  obtain ⟨rfl, rfl⟩ := h
  obtain ⟨p3, p4⟩ := k3.put n2 (.loop { l2 with busy := false, jump := jumpOf e2 })
  exact ⟨_, rfl, p3, fun j hj => (p4 j hj).trans ((k4 j hj).trans ((p2 j hj).trans (k2 j hj)))⟩
theorem afterLoop_frame {X : Nat → Prop} {σ τ : Store} (hx : Sub X σ τ) {tm tm' : List AVal} {id : Nat} {e : Ex} {σ' : Store} (h : afterLoop tm id σ = some (e, tm', σ')) : ∃ τ', afterLoop tm id τ = some (e, tm', τ') ∧ Sub X σ' τ' ∧ ∀ j, X j → τ'.get j = τ.get j := by
  unfold afterLoop at h ⊢
  simp only [Option.bind_eq_bind] at h ⊢
  obtain ⟨l, hl, h⟩ := Option.bind_eq_some_iff.1 h
  obtain ⟨g1, n1⟩ := getLoop_frame hx hl
  rw [g1, Option.bind_some]
  split at h
  · cases h
  rename_i hb
  rw [if_neg hb]
  split at h <;> cases h <;> exact ⟨_, rfl, hx.del n1⟩

theorem callF_frame {E : Env} (hP : PrimFr E) {ex : Exec} (hex : ExecFr ex) (f : FuncId) : FrameOk (callF E ex f) := by
  intro c args σ x σ' h X τ hx
  cases c with
  | yield id => exact roundA_frame hex h hx
  | fn g =>
  unfold callF at h ⊢
  simp only [Option.bind_eq_bind] at h ⊢
  have tail2 : ∀ v σ2 τ2, Sub X σ2 τ2 → (if (E.pol f g).res = true then some (v, σ2) else sealV 8 σ2 v) = some (x, σ') → Fr X τ2 x σ' (if (E.pol f g).res = true then some (v, τ2) else sealV 8 τ2 v) := fun v σ2 τ2 k2 h => by
    split at h
    · rename_i hp
      rw [if_pos hp]
      cases h; exact .refl k2
    · rename_i hp
      rw [if_neg hp]
      exact sealV_frame 8 _ _ _ _ h X τ2 k2
  have tail : ∀ a σ1 τ1, Sub X σ1 τ1 → (match E.prim g with
      | some pr => (pr a σ1).bind fun __x => if (E.pol f g).res = true then some (__x.fst, __x.snd) else sealV 8 __x.snd __x.fst
      | none => (enter E ex g a σ1).bind fun __x => if (E.pol f g).res = true then some (__x.fst, __x.snd) else sealV 8 __x.snd __x.fst) = some (x, σ') → Fr X τ1 x σ' (match E.prim g with
      | some pr => (pr a τ1).bind fun __x => if (E.pol f g).res = true then some (__x.fst, __x.snd) else sealV 8 __x.snd __x.fst
      | none => (enter E ex g a τ1).bind fun __x => if (E.pol f g).res = true then some (__x.fst, __x.snd) else sealV 8 __x.snd __x.fst) := fun a σ1 τ1 k1 h => by
    split at h
    · rename_i pr hpr
      exact Fr.of_bind (σ := σ1) h (fun a σ2 e => hP _ _ hpr _ _ _ _ e X τ1 k1) fun a σ2 τ2 k2 h => tail2 _ _ _ k2 h
    · exact Fr.of_bind (σ := σ1) h (fun a σ2 e => enter_frame hex e k1) fun a σ2 τ2 k2 h => tail2 _ _ _ k2 h
  split at h
  · rename_i hp
    rw [if_pos hp]
    exact tail _ _ _ hx h
  · rename_i hp
    rw [if_neg hp]
    exact Fr.of_bind (σ := σ) h (fun a σ1 e => sealL_frame (sealV_frame 8) _ _ _ _ e X τ hx) fun a σ1 τ1 k1 h => tail _ _ _ k1 h

theorem stepCode_frame {E : Env} (hP : PrimFr E) {ex : Exec} (hex : ExecFr ex) : ExecFr (stepCode E ex) := by
  intro f c tm σ e tm' σ' h X τ hx
  unfold stepCode at h ⊢
  split at h
  · cases h; exact ⟨τ, rfl, hx, fun _ _ => rfl⟩
  · cases h; exact ⟨τ, rfl, hx, fun _ _ => rfl⟩
  · simp only [Option.map_eq_some_iff] at h
    obtain ⟨⟨tm1, σ1⟩, hr, h⟩ := h
    cases h
    obtain ⟨τ', e1, k1, k2⟩ := runRegion_frame (callF_frame hP hex f) hr hx
    exact ⟨τ', by rw [e1]; rfl, k1, k2⟩
  · simp only [Option.bind_eq_bind] at h ⊢
    obtain ⟨⟨e1, tm1, σ1⟩, hr, h⟩ := Option.bind_eq_some_iff.1 h
    obtain ⟨τ1, q1, k1, k2⟩ := hex _ _ _ _ _ _ _ hr X τ hx
    rw [q1, Option.bind_some]
    simp only at h ⊢
    split at h
    · obtain ⟨τ2, q2, k3, k4⟩ := hex _ _ _ _ _ _ _ h X τ1 k1
      exact ⟨τ2, q2, k3, fun j hj => (k4 j hj).trans (k2 j hj)⟩
    · cases h; exact ⟨τ1, rfl, k1, k2⟩
  · simp only [Option.bind_eq_bind] at h ⊢
    obtain ⟨v, hv, h⟩ := Option.bind_eq_some_iff.1 h
    rw [hv, Option.bind_some]
    split at h
    case h_2 => cases h
    exact hex _ _ _ _ _ _ _ h X τ hx
  · simp only [Option.bind_eq_bind] at h ⊢
    obtain ⟨⟨e1, tm1, σ1⟩, hr, h⟩ := Option.bind_eq_some_iff.1 h
    obtain ⟨τ1, q1, k1, k2⟩ := hex _ _ _ _ _ _ _ hr X τ hx
    rw [q1, Option.bind_some]
    cases h
    exact ⟨τ1, rfl, k1, k2⟩
  · simp only [Option.bind_eq_bind] at h ⊢
    obtain ⟨⟨e1, tm1, σ1⟩, hr, h⟩ := Option.bind_eq_some_iff.1 h
    obtain ⟨τ1, q1, k1, k2⟩ := hex _ _ _ _ _ _ _ hr X τ hx
    rw [q1, Option.bind_some]
    simp only at h ⊢
    split at h
    · obtain ⟨τ2, q2, k3, k4⟩ := hex _ _ _ _ _ _ _ h X τ1 k1
      exact ⟨τ2, q2, k3, fun j hj => (k4 j hj).trans (k2 j hj)⟩
    · cases h; exact ⟨τ1, rfl, k1, k2⟩
  · exact hex _ _ _ _ _ _ _ h X τ hx
  · cases h; exact ⟨τ, rfl, hx, fun _ _ => rfl⟩
  · cases h; exact ⟨τ, rfl, hx, fun _ _ => rfl⟩
  · simp only [Option.bind_eq_bind] at h ⊢
    obtain ⟨v, hv, h⟩ := Option.bind_eq_some_iff.1 h
    rw [hv, Option.bind_some]
    split at h
    case h_2 => cases h
    split at h
    case isTrue => cases h
    rename_i hp
    rw [if_neg hp]
    obtain ⟨⟨y, σ1⟩, h1, h⟩ := Option.bind_eq_some_iff.1 h
    obtain ⟨k1, k2⟩ := hx.new (.loop { fn := f, tm := tm, ps := _, assign := _, body := _, busy := false, jump := .none })
    obtain ⟨τ1, q1, k3, k4⟩ := callF_frame hP hex f _ _ _ _ _ h1 X _ k1
    obtain ⟨τ2, q2, k5, k6⟩ := afterLoop_frame k3 h
    rw [hx.next, q1, Option.bind_some]
    exact ⟨τ2, q2, k5, fun j hj => (k6 j hj).trans ((k4 j hj).trans (k2 j hj))⟩
  · cases h

theorem exec_frame {E : Env} (hP : PrimFr E) : ∀ k, ExecFr (exec E k)
  | 0 => fun f c tm σ e tm' σ' h => by cases h
  | k + 1 => stepCode_frame hP (exec_frame hP k)

end Go.Ab
