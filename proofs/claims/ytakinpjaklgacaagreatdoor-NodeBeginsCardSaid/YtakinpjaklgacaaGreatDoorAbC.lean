/-
  SOUNDNESS, fifth part: operators; fields and elements; what makes no memory.
  SOUNDNESS, sixth part: the operators as wholes; fields, elements, pieces.
-/
import Derived.Test.YtakinpjaklgacaaGreatDoorAbB
import Derived.Laws.StructEq
namespace Go.Ab
open Go.RowKit (Below)

theorem eqGuard_run {P : Program} {op : BinOp} {t : TypeId} {ox oy : Operand} {u v : Value} (w : World) (hn : ¬ (u = .nilIface ∧ v = .nilIface))
    (hag : ∀ xs ys, u = .agg xs → v = .agg ys → (op = .eql ∨ op = .neq) → P.eqGuardType P.depth t = false) : (eqGuard op t ox oy u v).run P w = .ok () w := by
  unfold eqGuard
  by_cases ho : op = .eql ∨ op = .neq
  · have h1 : (!(op matches .eql | .neq)) = false := by rcases ho with rfl | rfl <;> rfl
    cases u <;> cases v <;> first
      | (exfalso; exact hn ⟨rfl, rfl⟩)
      | (rename_i xs ys; have := hag xs ys rfl rfl ho; rcases ho with rfl | rfl <;> simp [this])
      | (rcases ho with rfl | rfl <;> simp)
  · cases op <;> first
      | exact absurd (.inl rfl) ho
      | exact absurd (.inr rfl) ho
      | simp

theorem equal_of {P : Program} {t : TypeId} {u v : Value} {r : Bool} {w : World} (h : ∀ d, (Op.equalIn (d + 1) t u v).run P w = .ok r w) : (Op.equal t u v).run P w = .ok r w := h 9999
theorem eqVal {P : Program} {neg : Bool} {t : TypeId} {u v : Value} {r : Bool} {w : World} (h : (Op.equal t u v).run P w = .ok r w)
    (hk : ∀ k a, u ≠ .int k a) (hf : ∀ k a, u ≠ .float k a) (hc : ∀ k a b, u ≠ .complex k a b) (hs : ∀ a, u ≠ .string a) :
    (Go.binOp (if neg then .neq else .eql) t u v).run P w = .ok (.bool (r != neg)) w := by
  cases neg <;> cases u <;> simp_all [Go.binOp, h] <;> cases v <;> simp_all

theorem binEq0_sound {E : Env} {P : Program} (hT : TabOk E.T P) {κ : Kn} {neg : Bool} {t : TypeId} {a b x : AVal} {u v : Value} (h : binEq0 E neg t a b = some x) (ha : VR κ a u) (hb : VR κ b v) (w : World) :
    ∃ r, (Go.binOp (if neg then .neq else .eql) t u v).run P w = .ok r w ∧ VR κ x r := by
  unfold binEq0 at h
  split at h
  case h_13 hT' xs ys =>
    split at h
    · rename_i hc
      obtain ⟨h1, h2, h3⟩ := hc
      simp only [Option.map_eq_some_iff] at h
      obtain ⟨r, hr, rfl⟩ := h
      cases ha with
      | agg _ us hu1 hu2 =>
        cases hb with
        | agg _ vs hv1 hv2 =>
          have e := eqCells_sound (us := us.toList) (vs := vs.toList) hr (by simpa using hu1) (by simpa using hv1)
            (fun j y u hy hu => by have := hu2 j y hy; rw [Array.getD_eq_getD_getElem?] at this; simp only [Array.getElem?_toList] at hu; rw [hu] at this; exact this)
            (fun j y u hy hu => by have := hv2 j y hy; rw [Array.getD_eq_getD_getElem?] at this; simp only [Array.getElem?_toList] at hu; rw [hu] at this; exact this)
          have hk : us.toList.map valueKnd = xs.map AVal.knd := by
            apply List.ext_getElem?
            intro j
            simp only [List.getElem?_map, Array.getElem?_toList]
            by_cases hj : j < xs.length
            · have := hu2 j xs[j] (List.getElem?_eq_getElem hj)
              rw [Array.getD_eq_getD_getElem?, Array.getElem?_eq_getElem (by omega)] at this
              rw [Array.getElem?_eq_getElem (by omega), List.getElem?_eq_getElem hj]
              exact congrArg some this.knd
            · rw [Array.getElem?_eq_none (by omega), List.getElem?_eq_none (by omega)]
              rfl
          have := (hT.eqs t _ h1).2 us vs r w hk (by rw [hu1, h2]) (by rw [hv1, h3]) e
          refine ⟨_, eqVal (r := r) ?_ (by simp) (by simp) (by simp) (by simp), .bool _⟩
          exact this
    · cases h
  case h_1 =>
    rename_i x y hu
    cases h; cases ha; cases hb
    exact ⟨_, eqVal (r := x == y) (equal_of fun d => by simp [Op.equalIn, hT.run_und hu]) (by simp) (by simp) (by simp) (by simp), .bool _⟩
  all_goals first
    | cases h; done
    | (rename_i hu; cases h; cases ha; cases hb; exact ⟨_, eqVal (r := true) (equal_of fun d => by simp [Op.equalIn, hT.run_und hu]) (by simp) (by simp) (by simp) (by simp), .bool _⟩)
    | (rename_i hu; cases h; cases ha; cases hb; exact ⟨_, eqVal (r := false) (equal_of fun d => by simp [Op.equalIn, hT.run_und hu]) (by simp) (by simp) (by simp) (by simp), .bool _⟩)

theorem isNils_sound {κ : Kn} {a : AVal} {u : Value} {r : Bool} (h : isNils a = some r) (ha : VR κ a u) : ∃ p n c, u = .slice p n c ∧ p.isNone = r := by
  unfold isNils at h
  split at h <;> cases h <;> cases ha <;> first | exact ⟨_, _, _, rfl, rfl⟩ | skip
  rename_i i a n cap hx
  generalize κ.hid i = xs at hx
  cases hx <;> exact ⟨_, _, _, rfl, rfl⟩
theorem binEq_sound {E : Env} {P : Program} (hT : TabOk E.T P) {κ : Kn} {neg : Bool} {t : TypeId} {a b x : AVal} {u v : Value} (h : binEq E neg t a b = some x) (ha : VR κ a u) (hb : VR κ b v) (w : World) :
    ∃ r, (Go.binOp (if neg then .neq else .eql) t u v).run P w = .ok r w ∧ VR κ x r := by
  unfold binEq at h
  split at h
  · rename_i hd
    obtain ⟨e, hu⟩ : ∃ e, E.T.und t = some (.slice e) := by
      cases hu : E.T.und t with
      | none => rw [hu] at hd; cases hd
      | some d => cases d <;> first | exact ⟨_, rfl⟩ | (rw [hu] at hd; cases hd)
    simp only [Option.map_eq_some_iff] at h
    obtain ⟨r, hr, rfl⟩ := h
    unfold nilEq at hr
    split at hr
    · rename_i y h1 h2
      cases hr
      obtain ⟨p, n, c, rfl, e1⟩ := isNils_sound h1 ha
      obtain ⟨q, m, d, rfl, e2⟩ := isNils_sound h2 hb
      obtain rfl : p = none := by cases p <;> first | rfl | cases e1
      refine ⟨_, eqVal (r := r) (equal_of fun d => by simp [Op.equalIn, hT.run_und hu, e2]) (by simp) (by simp) (by simp) (by simp), .bool _⟩
    · rename_i x y h1 h2 h3
      cases hr
      obtain ⟨p, n, c, rfl, e1⟩ := isNils_sound h2 ha
      obtain ⟨q, m, d, rfl, e2⟩ := isNils_sound h3 hb
      obtain rfl : q = none := by cases q <;> first | rfl | cases e2
      refine ⟨_, eqVal (r := r) (equal_of fun d => ?_) (by simp) (by simp) (by simp) (by simp), .bool _⟩
      cases p with
      | none => cases e1; simp [Op.equalIn, hT.run_und hu]
      | some p => cases e1; simp [Op.equalIn, hT.run_und hu]
    · cases hr
  · exact binEq0_sound hT h ha hb w

end Go.Ab

namespace Go.Ab
open Go.RowKit (Below)

theorem not_nilIface {κ : Kn} {a : AVal} {u : Value} (h : VR κ a u) (hn : a ≠ .niliface) : u ≠ .nilIface := by
  cases h <;> simp_all

theorem binOp_sound {E : Env} {P : Program} (hT : TabOk E.T P) {κ : Kn} (hO : OrcOk E) (hH : κ.hint = E.hint) {op : BinOp} {t : TypeId} {a b x : AVal} {u v : Value} (h : binOp E op t a b = some x) (ha : VR κ a u) (hb : VR κ b v) (ox oy : Operand) (w : World) :
    ∃ r, (do eqGuard op t ox oy u v; Go.binOp op t u v : Sem Value).run P w = .ok r w ∧ VR κ x r := by
  have orc : ∀ p q, ival E a = some p → u = .int .i64 p → ival E b = some q → v = .int .i64 q → E.orc op a b = some x → ∃ r, (do eqGuard op t ox oy u v; Go.binOp op t u v : Sem Value).run P w = .ok r w ∧ VR κ x r := fun p q h1 e1 h2 e2 h => by
    obtain ⟨_, _, p', q', k1, k2, k3⟩ := hO.orc op a b x h
    rw [h1] at k1; cases k1
    rw [h2] at k2; cases k2
    subst e1 e2
    have hg : (eqGuard op t ox oy (.int .i64 p) (.int .i64 q)).run P w = .ok () w := eqGuard_run w (by simp) (by simp)
    simp only [Sem.run_bind, hg, Result.andThen_ok]
    rcases k3 with ⟨c, rfl, k3⟩ | ⟨j, rfl, k3⟩
    · exact binInt_sound k3 κ t w
    · obtain ⟨r, r1, r2⟩ := binInt_sound (P := P) k3 κ t w
      refine ⟨r, r1, ?_⟩
      cases r2
      rw [← hH]
      exact .hint j
  unfold binOp at h
  split at h
  · cases ha; cases hb
    rename_i k p k' q
    have hg : (eqGuard op t ox oy (.int k p) (.int k' q)).run P w = .ok () w := eqGuard_run w (by simp) (by simp)
    simp only [Sem.run_bind, hg, Result.andThen_ok]
    split at h
    · exact binShift_sound (.inl rfl) h κ t w
    · exact binShift_sound (.inr rfl) h κ t w
    · split at h
      · rename_i e; subst e; exact binInt_sound h κ t w
      · cases h
  · cases ha; cases hb
    rename_i p q
    have hg : (eqGuard op t ox oy (.string p) (.string q)).run P w = .ok () w := eqGuard_run w (by simp) (by simp)
    simp only [Sem.run_bind, hg, Result.andThen_ok]
    exact binStr_sound h κ t w
  · cases ha; cases hb; exact orc _ _ rfl (by rw [hH]) rfl (by rw [hH]) h
  · cases ha; cases hb; exact orc _ _ rfl (by rw [hH]) rfl rfl h
  · cases ha; cases hb; exact orc _ _ rfl rfl rfl (by rw [hH]) h
  · have key : ∀ neg, op = (if neg then .neq else .eql) → binEq E neg t a b = some x → ∃ r, (do eqGuard op t ox oy u v; Go.binOp op t u v : Sem Value).run P w = .ok r w ∧ VR κ x r := by
      intro neg ho hx
      subst ho
      have hn : a ≠ .niliface := by rintro rfl; simp [binEq, binEq0, nilEq, isNils] at hx
      have hg : (eqGuard (if neg then .neq else .eql) t ox oy u v).run P w = .ok () w := eqGuard_run w (fun e => not_nilIface ha hn e.1) (by
        rintro xs ys rfl rfl _
        cases ha; cases hb
        unfold binEq at hx
        split at hx
        · simp [nilEq, isNils] at hx
        unfold binEq0 at hx
        split at hx <;> first
          | (rename_i e1 e2; first | cases e1; done | cases e2; done)
          | skip
        all_goals first
          | (split at hx
             · rename_i hc; exact (hT.eqs t _ hc.1).1
             · cases hx)
          | (exfalso; simp_all; done))
      simp only [Sem.run_bind, hg, Result.andThen_ok]
      exact binEq_sound hT hx ha hb w
    split at h
    · exact key false rfl h
    · exact key true rfl h
    · cases h

theorem unOp_sound {P : Program} {κ : Kn} {op : UnOp} {a x : AVal} {u : Value} (h : unOp op a = some x) (ha : VR κ a u) (w : World) : ∃ r, (Op.unary op u).run P w = .ok r w ∧ VR κ x r := by
  unfold unOp at h
  split at h
  · cases ha
    split at h
    · cases h; exact ⟨_, rfl, .bool _⟩
    · cases h
  · cases ha
    split at h
    · exact (by cases h; exact ⟨_, rfl, .int _ _⟩)
    · exact (by cases h; exact ⟨_, rfl, .int _ _⟩)
    · cases h
  · cases h

theorem fieldsOf_und {T : Tab} {t : TypeId} {fs : Array Field} (h : fieldsOf T t = some fs) : T.und t = some (.struct fs) := by
  unfold fieldsOf at h
  split at h
  · cases h; assumption
  · cases h

theorem size_und {E : Env} {P : Program} (hT : TabOk E.T P) {t : TypeId} (hz : E.T.size t ≠ 0) (hs : ∀ t, E.T.size t ≠ 0 → (E.T.und t).isSome = true) (w : World) : (sizeOf t).run P w = .ok (E.T.size t) w := by
  obtain ⟨d, hd⟩ := Option.isSome_iff_exists.1 (hs t hz)
  exact hT.run_size hd w

theorem fieldAddr_sound {E : Env} {P : Program} (hT : TabOk E.T P) (hs : ∀ t, E.T.size t ≠ 0 → (E.T.und t).isSome = true) {κ : Kn} {t : TypeId} {i : Nat} {p x : AVal} {c : Value} (h : fieldAddr E t i p = some x) (hp : VR κ p c) (w : World) :
    ∃ r, (Instr.fieldAt t c i).run P w = .ok r w ∧ VR κ x r := by
  simp only [fieldAddr, Option.bind_eq_bind] at h
  cases hf : fieldsOf E.T t with
  | none => simp [hf] at h
  | some fs =>
    simp only [hf, Option.bind_some] at h
    cases hi : fs[i]? with
    | none => simp [hi] at h
    | some f =>
      simp only [hi, Option.bind_some] at h
      split at h
      · cases h
      · rename_i hz
        have key : ∀ b o, (Instr.fieldAt t (.pointer (some ⟨b, o, none⟩)) i).run P w = .ok (.pointer (some ⟨b, o + f.offset, none⟩)) w := by
          intro b o
          simp only [Instr.fieldAt, Sem.run_bind, hT.run_und (fieldsOf_und hf), Result.andThen_ok, hi, Instr.sureAddr, Sem.run_pure, fieldPlace, size_und hT hz hs, if_neg hz, addr_add]
        split at h
        · cases h
          cases hp with
          | ptr id off q hq =>
            refine ⟨_, key _ _, ?_⟩
            rw [Nat.add_assoc]
            exact .ptr _ _ q hq
        · cases h
          cases hp with
          | rptr cs off b o g h1 h2 =>
            refine ⟨_, key _ _, ?_⟩
            rw [Nat.add_assoc]
            exact .rptr _ _ b o g h1 h2
        · cases h

/-- A part of a structure's cells. -/
theorem part_sound {E : Env} {P : Program} (hT : TabOk E.T P) {κ : Kn} {cs : List AVal} {vs : Array Value} (hv : LR κ cs vs) {t : TypeId} {off : Nat} {x : AVal} (h : ofCells E t cs off = some x) (w : World) :
    ∃ r, (part t vs off).run P w = .ok r w ∧ VR κ x r := by
  unfold ofCells at h
  cases hd : E.T.und t with
  | none => simp [hd] at h
  | some d =>
    simp only [hd, Option.bind_eq_bind, Option.bind_some] at h
    simp only [part, Sem.run_bind, hT.run_agg hd, Result.andThen_ok]
    by_cases ha : isAgg d = true
    · rw [if_pos ha] at h ⊢
      split at h
      · rename_i hl
        cases h
        simp only [Sem.run_bind, hT.run_size hd, Result.andThen_ok]
        refine ⟨_, rfl, .agg _ _ (by simp [hv.1]; omega) fun j y hy => ?_⟩
        rw [List.getElem?_take] at hy
        split at hy
        · rename_i hj
          rw [List.getElem?_drop] at hy
          obtain ⟨u, h1, h2⟩ := hv.get hy
          rw [Array.getD_eq_getD_getElem?, Array.getElem?_extract]
          have hlt : off + j < vs.size := by rw [hv.1]; omega
          rw [if_pos (by omega), h1]
          exact h2
        · cases hy
      · cases h
    · rw [if_neg ha] at h ⊢
      obtain ⟨u, h1, h2⟩ := hv.get h
      exact ⟨u, by simp [h1], h2⟩

theorem field_sound {E : Env} {P : Program} (hT : TabOk E.T P) {κ : Kn} {t : TypeId} {i : Nat} {a x : AVal} {c : Value} (h : field E t i a = some x) (ha : VR κ a c) (w : World) :
    ∃ r, (Instr.field t c i).run P w = .ok r w ∧ VR κ x r := by
  unfold field at h
  split at h
  · simp only [Option.bind_eq_bind] at h
    cases hf : fieldsOf E.T t with
    | none => simp [hf] at h
    | some fs =>
      simp only [hf, Option.bind_some] at h
      cases hi : fs[i]? with
      | none => simp [hi] at h
      | some f =>
        simp only [hi, Option.bind_some] at h
        cases ha with
        | agg cs vs hv1 hv2 =>
          obtain ⟨r, h1, h2⟩ := part_sound hT ⟨hv1, hv2⟩ h w
          exact ⟨r, by simp [Instr.field, hT.run_und (fieldsOf_und hf), hi, asAgg, h1], h2⟩
  · cases h

theorem intOf_sound {κ : Kn} {a : AVal} {i : Int} {c : Value} (h : intOf a = some i) (ha : VR κ a c) : ∃ k, c = .int k i := by
  unfold intOf at h
  split at h <;> cases h
  cases ha
  exact ⟨_, rfl⟩

theorem index_sound {E : Env} {P : Program} (hT : TabOk E.T P) {κ : Kn} {t : TypeId} {a x : AVal} {i : Int} {k : IntKind} {c : Value} (hs : ∀ t, E.T.size t ≠ 0 → (E.T.und t).isSome = true) (h : index E t a i = some x) (ha : VR κ a c) (w : World) :
    ∃ r, (Instr.index t c (.int k i)).run P w = .ok r w ∧ VR κ x r := by
  unfold index at h
  split at h
  · rename_i n e cs hu
    split at h
    · rename_i hi
      cases ha with
      | agg _ vs hv1 hv2 =>
        obtain ⟨r, h1, h2⟩ := part_sound hT ⟨hv1, hv2⟩ h w
        have hd : (E.T.und e).isSome = true := by
          unfold ofCells at h
          cases hd : E.T.und e with
          | none => simp [hd] at h
          | some d => rfl
        obtain ⟨d, hd⟩ := Option.isSome_iff_exists.1 hd
        exact ⟨r, by simp [Instr.index, asIntOf, hT.run_und hu, hi, hT.run_size hd, h1], h2⟩
    · cases h
  · rename_i s hu
    split at h
    · rename_i hi
      cases ha
      simp only [Option.map_eq_some_iff] at h
      obtain ⟨b, hb, rfl⟩ := h
      exact ⟨_, by simp [Instr.index, asIntOf, hT.run_und hu, hi, hb] <;> rfl, .int _ _⟩
    · cases h
  · cases h

end Go.Ab
