/-
  SOUNDNESS, seventeenth part: every operation that is no call of a function.
  SOUNDNESS, eighteenth part: slices that are handed on as values.
  RANGES OVER FUNCTIONS, in the widest fence: the laws of the walk that the machine's proof leans on (own proofs).
  SOUNDNESS, nineteenth part: calls, the operations of a region one behind the other.
-/
import Derived.Test.YtakinpjaklgacaaGreatDoorAbF
import Derived.Scope
import Derived.LoopNIn
import Derived.OrdersIn
namespace Go.Ab
open Go.RowKit (Below)

theorem nilCheck_sound {P : Program} {w0 w : World} {κ : Kn} {σ : Store} {y x : AVal} {c : Value} (hw : WR w0 κ σ w) (h : nilCheck y = some x) (hy : VR κ y c) {o : Oper} {z : Operand} {a : Act} (ho : o.op = .nilCheck z) (hz : a.eval z = c) :
    NLeaves w0 κ σ x σ ((execOp a.eval o).run P w) := by
  have : (execOp a.eval o).run P w = .ok (.value c) w ∧ x = y := by
    simp only [execOp, ho, hz]
    unfold nilCheck at h
    cases hy <;> first | exact ⟨rfl, (Option.some.inj h).symm⟩ | cases h
  obtain ⟨h1, rfl⟩ := this
  exact ⟨_, c, w, κ, h1, .inl rfl, hy, hw, Ext.refl _ _, Nat.le_refl _⟩

theorem extract_sound {P : Program} {κ : Kn} {vs : List AVal} {i : Nat} {x : AVal} {c : Value} (hc : VR κ (.tuple vs) c) (h : vs[i]? = some x) (w : World) : ∃ r, (Instr.extract c i).run P w = .ok r w ∧ VR κ x r := by
  cases hc with
  | tuple _ us hs hu =>
    obtain ⟨v, h1, h2⟩ := LR.get ⟨hs, hu⟩ h
    exact ⟨v, by simp [Instr.extract, h1], h2⟩

theorem aop_sound {E : Env} {P : Program} (hE : EnvOk E P) {w0 : World} {κ : Kn} {σ σ' : Store} {w : World} (hw : WR w0 κ σ w) (hG : GlobOk E κ) {tm : List AVal} {a : Act} (hf : FR κ tm a) {o : Oper} {x : AVal}
    (h : aop E tm σ o.op = some (x, σ')) : NLeaves w0 κ σ x σ' ((execOp a.eval o).run P w) := by
  have hT := hE.tab
  have hev : ∀ {x : Operand} {v : AVal}, eval E tm x = some v → VR κ v (a.eval x) := fun h => eval_sound hG hf h
  obtain ⟨dst, op, ty, pos, after, guard⟩ := o
  have hdead : ∀ {α : Prop} {v : AVal × Store}, (none : Option (AVal × Store)) = some v → α := fun h => by cases h
  cases op with
  | move y =>
    simp only [aop, Option.map_eq_some_iff, Prod.mk.injEq] at h
    obtain ⟨v, hv, rfl, rfl⟩ := h
    exact .pure hw (hev hv)
  | assign y =>
    simp only [aop, Option.map_eq_some_iff, Prod.mk.injEq] at h
    obtain ⟨v, hv, rfl, rfl⟩ := h
    exact .pure hw (hev hv)
  | pick c y z =>
    simp only [aop, Option.bind_eq_bind, Option.bind_eq_some_iff] at h
    obtain ⟨cv, hc, h⟩ := h
    split at h
    case h_2 => cases h
    rename_i t
    simp only [Option.bind_eq_some_iff, Option.some.injEq, Prod.mk.injEq] at h
    obtain ⟨v, hv, rfl, rfl⟩ := h
    have hb := hev hc
    have hval := hev hv
    simp only [execOp]
    generalize hcc : a.eval c = cc at hb
    cases hb
    cases t with
    | true => exact ⟨.value (a.eval y), _, w, κ, by simp [asBool], .inl rfl, by simpa using hval, hw, Ext.refl _ _, Nat.le_refl _⟩
    | false => exact ⟨.value (a.eval z), _, w, κ, by simp [asBool], .inl rfl, by simpa using hval, hw, Ext.refl _ _, Nat.le_refl _⟩
  | alloc t =>
    simp only [aop] at h
    simp only [execOp]
    exact .of (alloc_sound hT hw h)
  | box t y =>
    simp only [aop, Option.bind_eq_bind, Option.bind_eq_some_iff] at h
    obtain ⟨v, hv, h⟩ := h
    simp only [execOp]
    exact .of (box_sound hw (hev hv) h)
  | build t ps =>
    simp only [aop, Option.bind_eq_bind, Option.bind_eq_some_iff, Option.map_eq_some_iff, Prod.mk.injEq] at h
    obtain ⟨l, hl, v, hv, rfl, rfl⟩ := h
    simp only [execOp]
    exact .val hw (build_sound hT hv (by simpa using evalParts_sound hG hf hl) w)
  | buildSlice t n ps =>
    simp only [aop, Option.bind_eq_bind, Option.bind_eq_some_iff, Option.map_eq_some_iff, Prod.mk.injEq] at h
    obtain ⟨l, hl, v, hv, rfl, rfl⟩ := h
    simp only [execOp]
    obtain ⟨r, w', κ', h1, h2, h3, h4⟩ := buildSlice_sound hT hw hv (qs := ps.map fun p => (p.1, a.eval p.2)) (by simpa using evalParts_sound hG hf hl)
    exact .of ⟨r, w', κ', h1, h2, h3, h4, Nat.le_refl _⟩
  | load t y =>
    simp only [aop, Option.bind_eq_bind, Option.bind_eq_some_iff, Option.map_eq_some_iff, Prod.mk.injEq] at h
    obtain ⟨p, hp, v, hv, rfl, rfl⟩ := h
    simp only [execOp]
    exact .val hw (load_sound hT hw hv (hev hp))
  | store t y z =>
    simp only [aop, Option.bind_eq_bind, Option.bind_eq_some_iff, Option.map_eq_some_iff, Prod.mk.injEq] at h
    obtain ⟨p, hp, v, hv, σ1, hs, rfl, rfl⟩ := h
    simp only [execOp]
    exact .unit (store_sound hT hw hs (hev hp) (hev hv))
  | nilCheck y =>
    simp only [aop, Option.bind_eq_bind, Option.bind_eq_some_iff, Option.map_eq_some_iff, Prod.mk.injEq] at h
    obtain ⟨p, hp, v, hv, rfl, rfl⟩ := h
    exact nilCheck_sound hw hv (hev hp) rfl rfl
  | binOp op t y z yt =>
    simp only [aop, Option.bind_eq_bind, Option.bind_eq_some_iff, Option.map_eq_some_iff, Prod.mk.injEq] at h
    obtain ⟨p, hp, q, hq, v, hv, rfl, rfl⟩ := h
    simp only [execOp]
    exact .val hw (binOp_sound hT hE.orc hG.hint hv (hev hp) (hev hq) y z w)
  | unOp op t y =>
    simp only [aop, Option.bind_eq_bind, Option.bind_eq_some_iff, Option.map_eq_some_iff, Prod.mk.injEq] at h
    obtain ⟨p, hp, v, hv, rfl, rfl⟩ := h
    simp only [execOp]
    exact .val hw (unOp_sound hv (hev hp) w)
  | convert s d y =>
    simp only [aop, Option.bind_eq_bind, Option.bind_eq_some_iff] at h
    obtain ⟨p, hp, h⟩ := h
    simp only [execOp]
    exact .of (convert_sound hT hw (hev hp) h)
  | makeInterface t y =>
    simp only [aop, Option.bind_eq_bind, Option.bind_eq_some_iff, Option.map_eq_some_iff, Prod.mk.injEq] at h
    obtain ⟨p, hp, v, hv, rfl, rfl⟩ := h
    simp only [execOp]
    exact .val hw (makeInterface_sound hT hv (hev hp) w)
  | makeFunc fn first caps =>
    cases fn with
    | func f =>
      simp only [aop, Option.bind_eq_bind, Option.bind_eq_some_iff, Option.some.injEq, Prod.mk.injEq] at h
      obtain ⟨l, hl, m, hm, rfl, rfl⟩ := h
      simp only [execOp]
      have h1 := evals_sound hG hf hl
      have h2 := evals_sound hG hf hm
      refine .val hw ⟨.func (.func f) (first.map a.eval) (caps.map a.eval), rfl, ?_⟩
      have e1 : (first.toList.map a.eval).toArray = first.map a.eval := by rw [← Array.toList_map]
      have e2 : (caps.toList.map a.eval).toArray = caps.map a.eval := by rw [← Array.toList_map]
      rw [e1] at h1; rw [e2] at h2
      exact .func f l m _ _ h1.1 h2.1 h1.2 h2.2
    | _ => simp [aop] at h
  | makeMap t r =>
    cases r with
    | none =>
      simp only [aop, Option.some.injEq, Prod.mk.injEq] at h
      obtain ⟨rfl, rfl⟩ := h
      simp only [execOp]
      obtain ⟨κ', p, h1, h2, h3, h4, h5⟩ := hw.newBare (.map #[] 0) (.map []) fun κ' own p hb h0 hp ho =>
        .map [] p #[] 0 hp (by rw [hb]; exact heap_new w _) ⟨rfl, fun j e m h => by simp at h⟩ ⟨fun j m h => by simp at h, fun i j m n _ h => by simp at h⟩ ho
      have hv : VR κ' (.map σ.next) (.map (some p.block)) := .map _ p h3
      rw [h4] at hv
      exact .of ⟨_, _, κ', by simp [Instr.makeMap] <;> rfl, hv, h2, h1, by simp⟩
    | some z => simp [aop] at h
  | makeSlice t l c =>
    simp only [aop, Option.bind_eq_bind, Option.bind_eq_some_iff] at h
    obtain ⟨p, hp, q, hq, h⟩ := h
    simp only [execOp]
    exact .of (makeSlice_sound hT hw (hev hp) (hev hq) h)
  | slice t y lo hi mx =>
    simp only [aop, Option.bind_eq_bind, Option.bind_eq_some_iff, Option.map_eq_some_iff, Prod.mk.injEq] at h
    obtain ⟨p, hp, l, hl, hh, hhi, m, hm, v, hv, rfl, rfl⟩ := h
    simp only [execOp]
    exact .val hw (slice_sound hT hw hv (hev hp) (evalOpt_sound hG hf hl) (evalOpt_sound hG hf hhi) (evalOpt_sound hG hf hm))
  | fieldAddr t y i =>
    simp only [aop, Option.bind_eq_bind, Option.bind_eq_some_iff, Option.map_eq_some_iff, Prod.mk.injEq] at h
    obtain ⟨p, hp, v, hv, rfl, rfl⟩ := h
    simp only [execOp]
    exact .val hw (fieldAddr_sound hT hT.tot hv (hev hp) w)
  | field t y i =>
    simp only [aop, Option.bind_eq_bind, Option.bind_eq_some_iff, Option.map_eq_some_iff, Prod.mk.injEq] at h
    obtain ⟨p, hp, v, hv, rfl, rfl⟩ := h
    simp only [execOp]
    exact .val hw (field_sound hT hv (hev hp) w)
  | indexAddr t y i =>
    simp only [aop, Option.bind_eq_bind, Option.bind_eq_some_iff, Option.map_eq_some_iff, Prod.mk.injEq] at h
    obtain ⟨p, hp, q, hq, v, hv, rfl, rfl⟩ := h
    simp only [execOp]
    exact .val hw (indexAny_sound hT hE.orc hG.hint hG.hid hv (hev hp) (hev hq) w)
  | index t y i =>
    simp only [aop, Option.bind_eq_bind, Option.bind_eq_some_iff, Option.map_eq_some_iff, Prod.mk.injEq] at h
    obtain ⟨p, hp, q, hq, n, hn, v, hv, rfl, rfl⟩ := h
    simp only [execOp]
    obtain ⟨k, hk⟩ := intOf_sound hn (hev hq)
    rw [hk]
    exact .val hw (index_sound hT hT.tot hv (hev hp) w)
  | lookup t y k ok =>
    simp only [aop, Option.bind_eq_bind, Option.bind_eq_some_iff, Option.map_eq_some_iff, Prod.mk.injEq] at h
    obtain ⟨p, hp, q, hq, v, hv, rfl, rfl⟩ := h
    simp only [execOp]
    exact .val hw (lookup_sound hT hw (hev hp) (hev hq) hv)
  | mapUpdate t m k v =>
    simp only [aop, Option.bind_eq_bind, Option.bind_eq_some_iff, Option.map_eq_some_iff, Prod.mk.injEq] at h
    obtain ⟨p, hp, q, hq, r, hr, σ1, hs, rfl, rfl⟩ := h
    simp only [execOp]
    exact .unit (mapUpdate_sound hT hw (hev hp) (hev hq) (hev hr) hs)
  | range t y =>
    simp only [aop, Option.bind_eq_bind, Option.bind_eq_some_iff] at h
    obtain ⟨p, hp, h⟩ := h
    split at h
    case h_3 => cases h
    case h_2 kt et m hu =>
      simp only [Option.bind_eq_some_iff] at h
      obtain ⟨es, hes, h⟩ := h
      simp only [Option.some.injEq, Prod.mk.injEq] at h
      obtain ⟨rfl, rfl⟩ := h
      have hy := hev hp
      rcases mapEntries_sound hw hes hy with ⟨e, _⟩ | ⟨id, p, ms, clock, e, hp, hc, hg, hb, he, hn⟩
      · cases e
      cases e
      obtain ⟨ms', clock', κ', hb', h1, h2, h3⟩ := hw.newIter hg hp
      rw [hb] at hb'; cases hb'
      simp only [execOp, hc]
      exact .of ⟨_, _, κ', by simp [Instr.range, hT.run_und hu, run_getObj_map hb] <;> rfl, h3, h2, h1, by simp⟩
    rename_i s hu
    simp only [Option.some.injEq, Prod.mk.injEq] at h
    obtain ⟨rfl, rfl⟩ := h
    simp only [execOp]
    obtain ⟨κ', q, h1, h2, h3, h4, h5⟩ := hw.newBare (.stringIter s 0) (.iter s 0) fun κ' own p hb h0 hp ho => .iter s 0 p hp h0 (by rw [hb]; exact heap_new w _) ho
    have hv : VR κ' (.ptr σ.next 0) (.pointer (some ⟨q.block, q.off + 0, none⟩)) := .ptr _ 0 q h3
    rw [h4, h5] at hv
    have hy := hev hp
    generalize a.eval y = c at hy
    cases hy
    exact .of ⟨_, _, κ', by simp [Instr.range, hT.run_und hu] <;> rfl, hv, h2, h1, by simp⟩
  | next it isS =>
    simp only [aop, Option.bind_eq_bind, Option.bind_eq_some_iff] at h
    obtain ⟨p, hp, h⟩ := h
    simp only [execOp]
    exact .of (next_sound hw (hev hp) h ty)
  | entry it =>
    simp only [aop, Option.bind_eq_bind, Option.bind_eq_some_iff, Option.map_eq_some_iff, Prod.mk.injEq] at h
    obtain ⟨p, hp, v, hv, rfl, rfl⟩ := h
    simp only [execOp]
    exact .val hw (entry_sound hw (hev hp) hv)
  | typeAssert y yt t ok =>
    simp only [aop, Option.bind_eq_bind, Option.bind_eq_some_iff, Option.map_eq_some_iff, Prod.mk.injEq] at h
    obtain ⟨p, hp, v, hv, rfl, rfl⟩ := h
    simp only [execOp]
    exact .val hw (typeAssert_sound hT hv (hev hp) w)
  | extract y i =>
    simp only [aop, Option.bind_eq_bind, Option.bind_eq_some_iff] at h
    obtain ⟨p, hp, h⟩ := h
    split at h
    case h_2 => cases h
    rename_i vs
    simp only [Option.map_eq_some_iff, Prod.mk.injEq] at h
    obtain ⟨v, hv, rfl, rfl⟩ := h
    simp only [execOp]
    exact .val hw (extract_sound (hev hp) hv w)
  | call c =>
    obtain ⟨callee, args, argTypes⟩ := c
    cases callee with
    | builtin b =>
      simp only [aop, Option.bind_eq_bind, Option.bind_eq_some_iff] at h
      obtain ⟨l, hl, h⟩ := h
      have hl' := evals_sound hG hf hl
      have e : (args.toList.map a.eval).toArray = args.map a.eval := by rw [← Array.toList_map]
      rw [e] at hl'
      simp only [execOp, resolve, Sem.run_bind, Sem.run_pure, Result.andThen_ok, invoke]
      exact builtin_sound hT hw hE.orc hG.hint hG.hid hl' h ty _
    | _ => simp [aop] at h
  | _ => simp [aop] at h

end Go.Ab

namespace Go.Ab
open Go.RowKit (Below)

/-- Freezing changes no world. -/
def Seals (s : Store → AVal → Option (AVal × Store)) : Prop :=
  ∀ (σ σ' : Store) (x y : AVal), s σ x = some (y, σ') → ∀ (w0 w : World) (κ : Kn) (c : Value), WR w0 κ σ w → VR κ x c → ∃ κ', Ext σ.next κ κ' ∧ WR w0 κ' σ' w ∧ VR κ' y c ∧ σ'.next = σ.next

theorem sealL_sound {s : Store → AVal → Option (AVal × Store)} (hs : Seals s) : ∀ (xs : List AVal) (us : List Value) (σ σ' : Store) (l : List AVal), sealL s σ xs = some (l, σ') → ∀ (w0 w : World) (κ : Kn), WR w0 κ σ w → LR κ xs us.toArray →
    ∃ κ', Ext σ.next κ κ' ∧ WR w0 κ' σ' w ∧ LR κ' l us.toArray ∧ σ'.next = σ.next
  | [], us, σ, σ', l, h, w0, w, κ, hw, hl => by
    cases h
    exact ⟨κ, Ext.refl _ _, hw, hl, rfl⟩
  | x :: xs, us, σ, σ', l, h, w0, w, κ, hw, hl => by
    obtain ⟨u, r, he, hu⟩ := hl.arr1
    have he : us = u :: r := by simpa using he
    subst he
    simp only [sealL, Option.bind_eq_bind, Option.bind_eq_some_iff] at h
    obtain ⟨⟨y, σ1⟩, h1, h⟩ := h
    simp only at h
    obtain ⟨⟨m, σ2⟩, h2, h⟩ := h
    simp only [Option.some.injEq, Prod.mk.injEq] at h
    obtain ⟨rfl, rfl⟩ := h
    obtain ⟨κ1, e1, w1, v1, n1⟩ := hs _ _ _ _ h1 w0 w κ u hw hu
    have hr : LR κ1 xs r.toArray := by
      refine LR.of (by have := hl.1; simpa using this) fun j z hz => ?_
      obtain ⟨v, g1, g2⟩ := hl.get (j := j + 1) (y := z) (by simpa using hz)
      exact ⟨v, by simpa using g1, g2.mono e1.le⟩
    obtain ⟨κ2, e2, w2, v2, n2⟩ := sealL_sound hs xs r σ1 σ2 m h2 w0 w κ1 w1 hr
    refine ⟨κ2, e1.trans e2 (by omega), w2, LR.of (by have := v2.1; simpa using this) fun j z hz => ?_, by omega⟩
    cases j with
    | zero => simp at hz; subst hz; exact ⟨u, by simp, v1.mono e2.le⟩
    | succ j =>
      obtain ⟨v, g1, g2⟩ := v2.get (j := j) (y := z) (by simpa using hz)
      exact ⟨v, by simpa using g1, g2⟩

/-- The value of an element, from its cells. -/
def elemVal (x : AVal) (f : Nat → Value) : Value :=
  match x with
  | .agg cs => .agg ((List.range cs.length).map f).toArray
  | _ => f 0
theorem VR.isAgg {κ : Kn} {x : AVal} {c : Value} (h : VR κ x c) : (∃ cs, x = .agg cs) ↔ ∃ vs, c = .agg vs := by
  cases h <;> simp
theorem elemVal_VR {κ : Kn} {x : AVal} {f : Nat → Value} (h : ∀ (j : Nat) (y : AVal), x.cells[j]? = some y → VR κ y (f j)) : VR κ x (elemVal x f) := by
  unfold elemVal
  split
  · rename_i cs
    refine .agg cs _ (by simp) fun j y hy => ?_
    have hj := lt_of_get hy
    have := h j y hy
    simpa [hj] using this
  · rename_i hna
    have hc : x.cells = [x] := by cases x <;> first | rfl | exact absurd rfl (hna _)
    exact h 0 x (by rw [hc]; rfl)
theorem elemVal_cells {κ : Kn} {x y : AVal} {f : Nat → Value} (hx : VR κ x (elemVal x f)) {κ' : Kn} (hy : VR κ' y (elemVal x f)) : y.cells.length = x.cells.length ∧ ∀ (j : Nat) (z : AVal), y.cells[j]? = some z → VR κ' z (f j) := by
  have h1 := hx.cells
  have h2 := hy.cells
  refine ⟨by rw [← h2.1, ← h1.1], fun j z hz => ?_⟩
  obtain ⟨v, g1, g2⟩ := h2.get hz
  have hj := lt_of_get hz
  have hlen : y.cells.length = x.cells.length := by rw [← h2.1, ← h1.1]
  have : v = f j := by
    unfold elemVal at g1
    split at g1
    · rename_i cs
      have hlen : y.cells.length = cs.length := hlen
      have hjc : j < cs.length := by omega
      simp only [Value.cells, List.getElem?_toArray, List.getElem?_map, List.getElem?_range hjc, Option.map_some, Option.some.injEq] at g1
      exact g1.symm
    · rename_i hna
      have hc : x.cells = [x] := by cases x <;> first | rfl | exact absurd rfl (hna _)
      have hj0 : j = 0 := by rw [hc] at hlen; simp at hlen; omega
      subst hj0
      have hnotagg : ∀ vs, f 0 ≠ .agg vs := fun vs e => by
        have := (hx.isAgg).2 ⟨vs, by unfold elemVal; split; exact absurd rfl (hna _); exact e⟩
        obtain ⟨cs, rfl⟩ := this
        exact hna _ rfl
      have : (f 0).cells = #[f 0] := by
        unfold Value.cells
        split
        · rename_i vs e; exact absurd e (hnotagg _)
        · rfl
      rw [this] at g1
      simpa using g1.symm
  rw [← this]
  exact g2

theorem sealSlice {s : Store → AVal → Option (AVal × Store)} (hs : Seals s) {xs l : List AVal} {ex : Bool} {σ σ' : Store} (h : sealL s σ xs = some (l, σ')) {w0 w : World} {κ : Kn} {c : Value} (hw : WR w0 κ σ w) (hx : VR κ (.slice xs ex) c) :
    ∃ κ', Ext σ.next κ κ' ∧ WR w0 κ' σ' w ∧ VR κ' (.slice l false) c ∧ σ'.next = σ.next := by
  cases hx with
  | nilslice _ a cap h1 =>
    cases h
    exact ⟨κ, Ext.refl _ _, hw, .nilslice false a cap (fun e => by cases e), rfl⟩
  | slice _ _ b o sz cap f hne hc he hsz h1 h2 =>
    have hvals : LR κ xs ((List.range xs.length).map fun i => elemVal (xs.getD i .undef) (f i)).toArray := by
      refine LR.of (by simp) fun i x hi => ?_
      have hlt := lt_of_get hi
      have hgd : xs.getD i .undef = x := by simp [hi]
      refine ⟨elemVal x (f i), by simp [hlt, hgd, List.getElem?_eq_getElem hlt] at hi ⊢; rw [hi], elemVal_VR fun j y hy => h2 i x j y hi hy⟩
    obtain ⟨κ', e1, e2, e3, e4⟩ := sealL_sound hs xs _ σ σ' l h w0 w κ hw hvals
    have hlen : l.length = xs.length := by have := e3.1; simpa using this.symm
    refine ⟨κ', e1, e2, ?_, e4⟩
    have key : ∀ (i : Nat) (y : AVal), l[i]? = some y → ∃ x, xs[i]? = some x ∧ y.cells.length = x.cells.length ∧ ∀ (j : Nat) (z : AVal), y.cells[j]? = some z → VR κ' z (f i j) := fun i y hy => by
      have hlt := lt_of_get hy
      have hx : xs[i]? = some xs[i] := List.getElem?_eq_getElem (by omega)
      obtain ⟨v, g1, g2⟩ := e3.get hy
      have hgd : xs.getD i .undef = xs[i] := by simp [hx]
      have hv : v = elemVal xs[i] (f i) := by
        have hlt' : i < xs.length := by omega
        simp only [List.getElem?_toArray, List.getElem?_map, List.getElem?_range hlt', Option.map_some, hgd, Option.some.injEq] at g1
        exact g1.symm
      subst hv
      obtain ⟨q1, q2⟩ := elemVal_cells (elemVal_VR fun j y hy => h2 i _ j y hx hy) g2
      exact ⟨_, hx, q1, q2⟩
    rw [← hlen]
    refine .slice l false b o sz cap f (fun e => hne (List.eq_nil_of_length_eq_zero (by rw [← hlen, e]; rfl))) (by omega) (fun e => by cases e) (fun i y hy => ?_) (fun i j hi hj => e1.le.imm _ _ _ (h1 i j (by omega) hj)) (fun i y j z hy hz => ?_)
    · obtain ⟨x, hx, q, _⟩ := key i y hy
      rw [q, hsz i x hx]
    · obtain ⟨x, hx, _, q⟩ := key i y hy
      exact q j z hz

theorem sealV_sound : ∀ d, Seals (sealV d)
  | 0 => fun σ σ' x y h => by cases h
  | d + 1 => fun σ σ' x y h w0 w κ c hw hx => by
    have ih := sealV_sound d
    have hlist : ∀ (xs : List AVal) (vs : Array Value) (l : List AVal) (σ' : Store), sealL (sealV d) σ xs = some (l, σ') → LR κ xs vs → ∃ κ', Ext σ.next κ κ' ∧ WR w0 κ' σ' w ∧ LR κ' l vs ∧ σ'.next = σ.next := fun xs vs l σ' h hl => by
      have := sealL_sound ih xs vs.toList σ σ' l h w0 w κ hw (by simpa using hl)
      simpa using this
    unfold sealV at h
    split at h
    · rename_i xs ex
      split at h
      case isFalse he =>
        cases h
        have he : ex = false := by cases ex <;> simp_all
        subst he
        exact ⟨κ, Ext.refl _ _, hw, hx, rfl⟩
      simp only [Option.bind_eq_bind, Option.bind_eq_some_iff] at h
      obtain ⟨⟨l, σ1⟩, h1, h⟩ := h
      simp only [Option.some.injEq, Prod.mk.injEq] at h
      obtain ⟨rfl, rfl⟩ := h
      exact sealSlice ih h1 hw hx
    · rename_i id off len ex
      simp only [Option.bind_eq_bind] at h
      cases hg : σ.get id with
      | none => simp [hg] at h
      | some ob =>
      simp only [hg, Option.bind_some] at h
      split at h
      case h_2 => cases h
      rename_i g size cs
      split at h
      case isFalse => cases h
      rename_i hcond
      obtain ⟨c1, c2, c3, c4⟩ := hcond
      simp only [Option.bind_eq_some_iff] at h
      obtain ⟨⟨l, σ1⟩, h1, h⟩ := h
      simp only [Option.some.injEq, Prod.mk.injEq] at h
      obtain ⟨rfl, rfl⟩ := h
      cases hx with
      | oslice _ _ _ _ p cap hp hcap he hl hn =>
      obtain ⟨own, hwo⟩ := hw
      obtain ⟨κ1, e1, w1, k1⟩ := hwo.freeze hg rfl hp
      have hpv : VR κ1 (.slice (pieces g size len (cs.drop off)) false) (.slice (some ⟨p.block, p.off + off, none⟩) len cap) := by
        refine pieces_VR (fun k y hy => ?_) (by simp; omega) c2 ?_ c3 hcap (fun e => by cases e)
        · rw [List.getElem?_drop] at hy
          obtain ⟨v, g1, g2⟩ := k1 _ y hy
          exact ⟨v, by rw [show p.off + off + k = p.off + (off + k) by omega]; exact g1, g2⟩
        · exact List.all_eq_true.2 fun x hx => List.all_eq_true.1 c4 x (List.mem_of_mem_drop hx)
      obtain ⟨κ2, e2, w2, v2, n2⟩ := sealSlice ih h1 w1 hpv
      exact ⟨κ2, e1.trans e2 (by simp), w2, v2, by simpa using n2⟩
    · rename_i cs
      simp only [Option.bind_eq_bind, Option.bind_eq_some_iff] at h
      obtain ⟨⟨l, σ1⟩, h1, h⟩ := h
      simp only [Option.some.injEq, Prod.mk.injEq] at h
      obtain ⟨rfl, rfl⟩ := h
      cases hx with
      | agg _ vs hv hc =>
      obtain ⟨κ', e1, e2, e3, e4⟩ := hlist cs vs l σ1 h1 ⟨hv, hc⟩
      exact ⟨κ', e1, e2, .agg l vs e3.1 e3.2, e4⟩
    · rename_i cs
      simp only [Option.bind_eq_bind, Option.bind_eq_some_iff] at h
      obtain ⟨⟨l, σ1⟩, h1, h⟩ := h
      simp only [Option.some.injEq, Prod.mk.injEq] at h
      obtain ⟨rfl, rfl⟩ := h
      cases hx with
      | tuple _ vs hv hc =>
      obtain ⟨κ', e1, e2, e3, e4⟩ := hlist cs vs l σ1 h1 ⟨hv, hc⟩
      exact ⟨κ', e1, e2, .tuple l vs e3.1 e3.2, e4⟩
    · rename_i t v
      simp only [Option.bind_eq_bind, Option.bind_eq_some_iff] at h
      obtain ⟨⟨y', σ1⟩, h1, h⟩ := h
      simp only [Option.some.injEq, Prod.mk.injEq] at h
      obtain ⟨rfl, rfl⟩ := h
      cases hx with
      | iface _ _ u hv =>
      obtain ⟨κ', e1, e2, e3, e4⟩ := ih _ _ _ _ h1 w0 w κ u hw hv
      exact ⟨κ', e1, e2, .iface t y' u e3, e4⟩
    · cases h
      exact ⟨κ, Ext.refl _ _, hw, hx, rfl⟩

theorem sealArgs_sound {σ σ' : Store} {xs l : List AVal} {vs : Array Value} (h : sealArgs σ xs = some (l, σ')) {w0 w : World} {κ : Kn} (hw : WR w0 κ σ w) (hl : LR κ xs vs) : ∃ κ', Ext σ.next κ κ' ∧ WR w0 κ' σ' w ∧ LR κ' l vs ∧ σ'.next = σ.next := by
  have := sealL_sound (sealV_sound 8) xs vs.toList σ σ' l h w0 w κ hw (by simpa using hl)
  simpa using this

end Go.Ab

namespace Go.Ab
open Go.RowKit (Below)

/-- The widest fence, in a round or not. -/
abbrev Wide (ro : Option Nat) : Fence := { Fence.wide with round := ro }
theorem wide_about (P : Program) (ro : Option Nat) (w : World) (ρ : Operand → Value) (o : Oper) : ∀ f, o.about P w ρ = some f → (Wide ro).fn f := fun _ _ => trivial
theorem wide_depth (ro : Option Nat) (n : Nat) : (Wide ro).depth.isSome = true → 1 ≤ n := fun h => by cases h
theorem wide_room (ro : Option Nat) (n : Nat) : (Wide ro).room n := fun _ h => by simp [Fence.wide] at h
theorem callsIn_any {ro : Option Nat} {n : Nat} {P : Program} {f : FuncId} {args : Array Value} {w : World} {R : Ending → World → Prop} (h : Calls P f args w R) : CallsIn (Wide ro) n P f args w R := callsIn_wide (n := n).2 h
theorem wpIn_scope_straight {ro : Option Nat} {P : Program} {Q : Exit → Act → World → Prop} {a : Act} {w : World} {c : Code} (h : c.wpIn (Wide ro) 0 P (Exit.noGoto Q) a w) : (Code.scope c).wpIn (Wide ro) 0 P Q a w := by
  intro b k cs hro hb hr
  have h1 : ∀ a w, step P (lone (b.atR a (.code (.scope c) :: k)) cs w) = .next (lone (b.atR a (.code c :: .inScope c :: k)) cs w) := fun a w => step_lone_go (by simp [stepG, stepG.exec, Frame.atR])
  have h2 : ∀ a w, step P (lone (b.atR a (.inScope c :: k)) cs w) = .next (lone (b.atR a k) cs w) := fun a w => step_lone_go (by simp [stepG, stepG.exec, Frame.atR])
  have h0 : (lone (b.atR a (.code (.scope c) :: k)) cs w).fenced P (Wide ro) := fenced_calm hb hr rfl
  obtain ⟨e, a₁, w₁, hq, harr⟩ := h b (.inScope c :: k) cs hro hb hr
  cases e with
  | normal => exact ⟨.normal, a₁, w₁, hq, .head h0 (h1 _ _) (StepsIn.trans harr (.one (fenced_calm hb hr rfl) (h2 _ _)))⟩
  | exit id =>
    have hx : exitTo id (.inScope c :: k) = exitTo id k := by simp [exitTo]
    exact ⟨.exit id, a₁, w₁, hq, fun k' hk => .head h0 (h1 _ _) (harr.1 k' (by rw [hx]; exact hk)),
      fun hr' hk => let ⟨k₁, g1, g2⟩ := harr.2 hr' (by rw [hx]; exact hk); ⟨k₁, g1, .head h0 (h1 _ _) g2⟩⟩
  | goto l => exact hq.elim
  | ret => exact ⟨_, a₁, w₁, hq, .of_steps (.one h0 (h1 _ _)) harr⟩
  | panic ch => exact ⟨_, a₁, w₁, hq, .of_steps (.one h0 (h1 _ _)) harr⟩
  | outgrown => exact ⟨_, a₁, w₁, hq, .of_steps (.one h0 (h1 _ _)) harr⟩

section records
variable {P : Program} {w : World}
theorem run_getObj_rec {l : Nat} {r : Loop} (h : w.heap[l]? = some (.loop r)) : (getObj l).run P w = .ok (.loop r) w := by simp [getObj, Sem.run, h]
theorem run_getLoop' {l : Nat} {r : Loop} (h : w.heap[l]? = some (.loop r)) : (Instr.getLoop l).run P w = .ok r w := by
  simp [Instr.getLoop, Sem.run_bind, run_getObj_rec h]
theorem run_setLoop {l : Nat} {r : Loop} (o : Obj) (h : w.heap[l]? = some (.loop r)) : (setObj l o).run P w = .ok () (World.putBlock w l o) := by simp [setObj, Sem.run, h, World.putBlock]
/-- The mark of a range over a function among the deferred calls. -/
def mk (b : Nat) : Deferred := { target := .collected b, args := #[] }
theorem run_newObj' (o : Obj) : (newObj o).run P w = .ok w.heap.size (w.alloc o) := by
  simp [newObj, Sem.run]
theorem run_enter (fn : FuncId) (tmps : Array Value) (ps : Array Tmp) (assign body : Code) :
    (Instr.enterLoop fn tmps ps assign body none).run P w = .ok (w.heap.size + 1, [mk w.heap.size]) ((w.alloc (.deferred (some []))).alloc (.loop { state := .ready, pending := none, fn, tmps, params := ps, assign, body, defers := w.heap.size })) := by
  unfold Instr.enterLoop
  simp only [Sem.run_bind, run_newObj', Result.andThen_ok, Sem.run_pure, World.size_alloc]
  rfl
/-- The temporaries of a round. -/
def roundTmps (tmps : Array Value) (l : List (Tmp × Value)) : Array Value := l.foldl (fun tmps x => tmps.setIfInBounds x.1 x.2) tmps
theorem run_yield' {l : Nat} {r : Loop} {args : Array Value} (h : w.heap[l]? = some (.loop r)) (hs : args.size = r.params.size) :
    (Instr.yield l args).run P w = .ok (.round l r.fn (roundTmps r.tmps (r.params.toList.zip args.toList)) r.assign r.body) w := by
  have : (r.params.zip args).foldl (fun tmps (x : Tmp × Value) => tmps.setIfInBounds x.1 x.2) r.tmps = roundTmps r.tmps (r.params.toList.zip args.toList) := by
    rw [roundTmps, ← Array.toList_zip, Array.foldl_toList]
  simp only [Instr.yield, Sem.run_bind, run_getLoop' h, Result.andThen_ok, hs, ne_eq, not_true_eq_false, if_false, Sem.run_pure]
  rw [← this]
theorem run_begin {l : Nat} {r : Loop} (h : w.heap[l]? = some (.loop r)) (hr : r.state = .ready) : (Instr.beginRound l).run P w = .ok () (World.putBlock w l (.loop { r with state := .busy })) := by
  simp [Instr.beginRound, Sem.run_bind, run_getLoop' h, run_setLoop _ h, hr]
theorem run_endR {l : Nat} {r : Loop} (jump : Option Code) (h : w.heap[l]? = some (.loop r)) :
    (Instr.endRound l jump).run P w = .ok (.bool jump.isNone) (World.putBlock w l (.loop { r with state := if jump.isNone then .ready else .done, pending := jump })) := by
  simp [Instr.endRound, Sem.run_bind, run_getLoop' h, run_setLoop _ h]
theorem run_endL {l : Nat} {r : Loop} (h : w.heap[l]? = some (.loop r)) (hb : r.state ≠ .busy) : (Instr.endLoop l).run P w = .ok r.pending (World.putBlock w l (.loop { r with state := .exhausted })) := by
  simp [Instr.endLoop, Sem.run_bind, run_getLoop' h, run_setLoop _ h, hb]
theorem run_take {b : Nat} {ds : List Deferred} (h : w.heap[b]? = some (.deferred (some ds))) : (Instr.takeDeferred b).run P w = .ok ds (World.putBlock w b (.deferred none)) := by
  simp [Instr.takeDeferred, Sem.run_bind, getObj, setObj, Sem.run, h, World.putBlock]
end records

/-- How a round is left. -/
def roundEnd (P : Program) (l : Nat) (R : Value → World → Prop) : Exit → World → Prop
  | .normal, w => ∃ v w', (Instr.endRound l none).run P w = .ok v w' ∧ R v w'
  | .ret, w => ∃ v w', (Instr.endRound l (some .ret)).run P w = .ok v w' ∧ R v w'
  | .exit id, w => ∃ v w', (Instr.endRound l (some (.exit id))).run P w = .ok v w' ∧ R v w'
  | _, _ => False
def Round (P : Program) (l : Nat) (f : FuncId) (tmps : Array Value) (assign body : Code) (w : World) (R : Value → World → Prop) : Prop :=
  RoundIn Fence.wide 0 P l f tmps assign body w fun e w' => ∃ v, e = .returned v ∧ R v w'
/-- A round, from its code. -/
theorem round_of {P : Program} {l : Nat} {f : FuncId} {tmps : Array Value} {assign body : Code} {w : World} {R : Value → World → Prop}
    (h : assign.wpIn (Wide (some l)) 0 P (fun e a₁ w₁ => e = .normal ∧ ∃ w₂, (Instr.beginRound l).run P w₁ = .ok () w₂ ∧ body.wpIn (Wide (some l)) 0 P (fun e _ w₃ => roundEnd P l R e w₃) a₁ w₂) { tmps := tmps, defers := [] } w) :
    Round P l f tmps assign body w R := by
  refine ⟨trivial, fun c cs hr => ?_⟩
  let b : Frame := { (default : Frame) with fn := f, kind := .normal, roundOf := some l }
  have hb0 : Frame.round l f tmps assign body .normal = b.atR { tmps := tmps, defers := [] } [.code assign, .beginRound, .code body] := by
    simp [Frame.round, Frame.atR, b]
  have hr' : (Wide (some l)).room ((c :: cs).length + 1 + 0) := wide_room _ _
  have hF' : (Wide (some l)).fn b.fn := trivial
  obtain ⟨e, a₁, w₁, ⟨rfl, w₂, hbr, hbody⟩, harr⟩ := h b [.beginRound, .code body] (c :: cs) rfl hF' hr'
  rw [← hb0] at harr
  have s1 : StepsIn (Machine.fenced P (Wide (some l))) P (lone (b.atR a₁ [.beginRound, .code body]) (c :: cs) w₁) (lone (b.atR a₁ [.code body]) (c :: cs) w₂) :=
    .one (fenced_calm (fr := b.atR a₁ [.beginRound, .code body]) hF' hr' rfl) (stepR_beginRound rfl hbr)
  obtain ⟨e₂, a₂, w₃, hq₂, harr₂⟩ := hbody b [] (c :: cs) rfl hF' hr'
  have s2 := StepsIn.trans harr s1
  cases e₂ with
  | normal =>
    obtain ⟨v, w₄, hend, hR⟩ := hq₂
    exact ⟨.returned v, w₄, ⟨v, rfl, hR⟩, s2.trans (StepsIn.trans harr₂ (.one (fenced_calm (fr := b.atR a₂ []) hF' hr' rfl) (stepR_round_end rfl rfl hend)))⟩
  | ret =>
    obtain ⟨v, w₄, hend, hR⟩ := hq₂
    obtain ⟨k₁, hs⟩ := harr₂.2 rfl
    exact ⟨.returned v, w₄, ⟨v, rfl, hR⟩, s2.trans (StepsIn.trans hs (.one (fenced_calm (fr := b.atR a₂ (.code .ret :: k₁)) hF' hr' rfl) (stepR_round_ret rfl rfl hend)))⟩
  | exit id =>
    obtain ⟨v, w₄, hend, hR⟩ := hq₂
    obtain ⟨k₁, hk, hs⟩ := harr₂.2 rfl rfl
    exact ⟨.returned v, w₄, ⟨v, rfl, hR⟩, s2.trans (StepsIn.trans hs (.one (fenced_calm (fr := b.atR a₂ (.code (.exit id) :: k₁)) hF' hr' rfl) (stepR_round_exit rfl rfl hk hend)))⟩
  | goto t => exact hq₂.elim
  | panic chain => exact hq₂.elim
  | outgrown => exact hq₂.elim

/-- The statement: the record is laid, the function is called with yield, the pending jump is gone. -/
theorem wpIn_range {P : Program} {g : Operand} {ps : Array Tmp} {assign body : Code} {Q : Exit → Act → World → Prop} {a : Act} {w : World} {hf : FuncId} {us vs : Array Value} (hg : a.eval g = .func (.func hf) us vs)
    (h : ∀ fn w₁, w₁ = (w.alloc (.deferred (some []))).alloc (.loop { state := .ready, pending := none, fn, tmps := a.tmps, params := ps, assign, body, defers := w.heap.size }) →
      (callFunc hf (us ++ #[.func (.yield (w.heap.size + 1)) #[] #[]] ++ vs)).run P w₁ = .ok (.enter hf (us ++ #[.func (.yield (w.heap.size + 1)) #[] #[]] ++ vs)) w₁ ∧
      Calls P hf (us ++ #[.func (.yield (w.heap.size + 1)) #[] #[]] ++ vs) w₁ fun
        | .returned _, w₃ => ∃ jump w₄, (Instr.endLoop (w.heap.size + 1)).run P w₃ = .ok jump w₄ ∧ (match jump with
          | none => Q .normal { a with defers := mk w.heap.size :: a.defers } w₄
          | some (.exit id) => Q (.exit id) { a with defers := mk w.heap.size :: a.defers } w₄
          | some .ret => Q .ret { a with defers := mk w.heap.size :: a.defers } w₄
          | some _ => False)
        | _, _ => False) :
    (Code.rangeFunc g ps assign body).wpIn (Wide none) 0 P Q a w := by
  intro b k cs hro hb hr
  have hro : b.roundOf = none := hro
  obtain ⟨hcf, hcall⟩ := h b.fn _ rfl
  let a' : Act := { a with defers := mk w.heap.size :: a.defers }
  let l := w.heap.size + 1
  have hev : ({ a with defers := [mk w.heap.size] ++ a.defers } : Act).eval g = .func (.func hf) us vs := hg
  have henter : step P (lone (b.atR a (.code (.rangeFunc g ps assign body) :: k)) cs w) = .next (lone (Frame.enter P hf (us ++ #[.func (.yield l) #[] #[]] ++ vs) .normal) (b.atR a' (.inRangeFunc l :: k) :: cs) ((w.alloc (.deferred (some []))).alloc (.loop { state := .ready, pending := none, fn := b.fn, tmps := a.tmps, params := ps, assign, body, defers := w.heap.size }))) := by
    refine step_lone_go ?_
    have e1 : ({ fn := b.fn, tmps := a.tmps, todo := .inRangeFunc (w.heap.size + 1) :: k, defers := mk w.heap.size :: a.defers, mode := .run, kind := b.kind } : Frame).eval = a.eval := by
      have := Frame.eval_atR { b with roundOf := none } { a with defers := mk w.heap.size :: a.defers } (.inRangeFunc (w.heap.size + 1) :: k)
      simp only [Frame.atR] at this
      exact this
    have e2 : a.eval (.const (.func (.yield (w.heap.size + 1)) #[] #[])) = .func (.yield (w.heap.size + 1)) #[] #[] := rfl
    simp only [Array.append_singleton] at hcf
    simp [stepG, stepG.exec, Frame.atR, Sem.runT_eq, hro, run_enter, GStep.bare_after, stepG.apply, e1, e2, resolve, Deferred.ofValue, hg, invoke, hcf, l, a']
  have hroom : (Wide none).room ((b.atR a' (.inRangeFunc l :: k) :: cs).length + 1 + 0) := wide_room _ _
  obtain ⟨e, w₃, fr, hR, hsteps, hfn, hleave⟩ := hcall (b.atR a' (.inRangeFunc l :: k) :: cs)
  cases e with
  | outgrown => exact hR.elim
  | panicked chain => exact hR.elim
  | returned v =>
    obtain ⟨jump, w₄, hend, hj⟩ := hR
    have hfin : (b.atR a' (.inRangeFunc l :: k)).finish v = b.atR a' (.endRangeFunc l :: k) := by simp [Frame.finish, Frame.atR]
    have hback : step P (lone (b.atR a' (.endRangeFunc l :: k)) cs w₃) = .next (lone (b.atR a' ((jump.map Item.code).toList ++ k)) cs w₄) :=
      step_lone_go (by simp [stepG, stepG.exec, Frame.atR, Sem.runT_eq, hend, GStep.bare_after, l])
    have steps : Steps P (lone (b.atR a (.code (.rangeFunc g ps assign body) :: k)) cs w) (lone (b.atR a' ((jump.map Item.code).toList ++ k)) cs w₄) := by
      refine .head henter (Steps.trans hsteps (.head ?_ (.one hback)))
      rw [← hfin]; exact step_leave_returned hleave
    have sback : StepsIn (Machine.fenced P (Wide none)) P (lone (b.atR a (.code (.rangeFunc g ps assign body) :: k)) cs w) (lone (b.atR a' ((jump.map Item.code).toList ++ k)) cs w₄) := stepsIn_wide.2 steps
    cases jump with
    | none => exact ⟨.normal, _, w₄, hj, sback⟩
    | some c =>
      have key : c.wpIn (Wide none) 0 P Q a' w₄ := by
        cases c with
        | exit id => exact wpIn_exit hj
        | ret => exact wpIn_ret hj
        | _ => exact hj.elim
      obtain ⟨e', a'', w₅, hq, harr⟩ := key b k cs hro hb hr
      exact ⟨e', a'', w₅, hq, .of_steps sback harr⟩

/-- The marks are taken, one behind the other. -/
inductive MarksTaken (P : Program) : List Nat → World → World → Prop
  | nil (w : World) : MarksTaken P [] w w
  | cons (b : Nat) (bs : List Nat) (w w' : World) (h : w.heap[b]? = some (.deferred (some []))) (t : MarksTaken P bs (World.putBlock w b (.deferred none)) w') : MarksTaken P (b :: bs) w w'
theorem steps_taken {P : Program} {cs : List Frame} : ∀ {bs : List Nat} {w w' : World}, MarksTaken P bs w w' → ∀ (fr : Frame), fr.mode = .returning → fr.defers = bs.map mk → Steps P (lone fr cs w) (lone { fr with defers := [] } cs w') := by
  intro bs w w' h
  induction h with
  | nil w =>
    intro fr hm hd
    have : ({ fr with defers := [] } : Frame) = fr := by cases fr; simp_all
    rw [this]; exact Steps.refl P _
  | cons b bs w w' h t ih =>
    intro fr hm hd
    have h1 : step P (lone fr cs w) = .next (lone { fr with defers := [] ++ bs.map mk } cs (World.putBlock w b (.deferred none))) := by
      refine step_lone_go ?_
      have hd : fr.defers = mk b :: bs.map mk := hd
      simp [stepG, unwind, hm, hd, mk, Sem.runT_eq, run_take h, GStep.bare_after]
    exact .head h1 (ih { fr with defers := [] ++ bs.map mk } hm rfl)
/-- A function's contract, from its code, marks and all. -/
theorem calls_of_marks {P : Program} {f : FuncId} {fn : Func} {c : Code} {args : Array Value} {w : World} {R : Value → World → Prop} (hf : P.funcs[f]? = some fn) (hb : fn.body = some c)
    (h : c.wpIn (Wide none) 0 P (fun e a w' => (e = .normal ∨ e = .ret) ∧ ∃ bs w'', a.defers = bs.map mk ∧ MarksTaken P bs w' w'' ∧ ∃ v, (results fn a.tmps).run P w'' = .ok v w'' ∧ R v w'') { tmps := args ++ Array.replicate (fn.ntmps - args.size) undef, defers := [] } w) :
    Calls P f args w fun | .returned v, w' => R v w' | _, _ => False := by
  intro cs
  let b : Frame := { (default : Frame) with fn := f, kind := .normal, roundOf := none }
  have henter : Frame.enter P f args .normal = b.atR { tmps := args ++ Array.replicate (fn.ntmps - args.size) undef, defers := [] } [.code c] := by
    simp [Frame.enter, Frame.atR, hf, hb, b]
  obtain ⟨e, a', w', ⟨he, bs, w'', hd, ht, v, hv, hR⟩, harr⟩ := h b [] cs rfl trivial (wide_room _ _)
  rw [← henter] at harr
  rcases he with rfl | rfl
  · have s1 : Steps P (lone (Frame.enter P f args .normal) cs w) (lone { b.atR a' [] with mode := .returning } cs w') := Steps.trans (StepsIn.steps harr) (.one (stepR_end rfl))
    have s2 := steps_taken (cs := cs) ht { b.atR a' [] with mode := .returning } rfl hd
    exact ⟨.returned v, w'', _, hR, Steps.trans s1 s2, rfl, rfl, rfl, rfl, fn, hf, hv⟩
  · obtain ⟨todo, hs⟩ := harr.1 rfl
    have s2 := steps_taken (cs := cs) ht { b.atR a' todo with mode := .returning } rfl hd
    exact ⟨.returned v, w'', _, hR, Steps.trans (StepsIn.steps hs) s2, rfl, rfl, rfl, rfl, fn, hf, hv⟩

end Go.Ab

namespace Go.Ab
open Go.RowKit (Below)

/-- What is left: a value, a store. -/
def Left (w0 : World) (κ : Kn) (σ : Store) (x : AVal) (σ' : Store) (v : Value) (w' : World) : Prop :=
  ∃ κ', VR κ' x v ∧ WR w0 κ' σ' w' ∧ Ext σ.next κ κ' ∧ σ.next ≤ σ'.next

/-- What a call of a function comes to. -/
def CallNext (P : Program) (g : FuncId) (vs : Array Value) (w : World) (R : Value → World → Prop) : Prop :=
  (∃ v w', (callFunc g vs).run P w = .ok (.value v) w' ∧ R v w') ∨ ((callFunc g vs).run P w = .ok (.enter g vs) w ∧ Calls P g vs w fun | .returned v, w' => R v w' | _, _ => False)
theorem CallNext.mono {P : Program} {g : FuncId} {vs : Array Value} {w : World} {R R' : Value → World → Prop} (h : CallNext P g vs w R) (hr : ∀ v w', R v w' → R' v w') : CallNext P g vs w R' := by
  rcases h with ⟨v, w', h1, h2⟩ | ⟨h1, h2⟩
  · exact .inl ⟨v, w', h1, hr _ _ h2⟩
  · refine .inr ⟨h1, Calls.mono h2 fun e w' he => ?_⟩
    cases e <;> first | exact hr _ _ he | exact he.elim

/-- A round of a range over a function. -/
def YieldNext (P : Program) (l : Nat) (vs : Array Value) (w : World) (R : Value → World → Prop) : Prop := ∃ fn tmps assign body, (Instr.yield l vs).run P w = .ok (.round l fn tmps assign body) w ∧ Round P l fn tmps assign body w R
structure CallerOk (E : Env) (P : Program) (call : Caller) : Prop where
  fn : ∀ g args σ x σ', call (.fn g) args σ = some (x, σ') → ∀ (w0 w : World) (κ : Kn) (vs : Array Value), WR w0 κ σ w → GlobOk E κ → LR κ args vs → CallNext P g vs w (Left w0 κ σ x σ')
  yield : ∀ id args σ x σ', call (.yield id) args σ = some (x, σ') → ∀ (w0 w : World) (κ : Kn) (vs : Array Value) (p : Place), WR w0 κ σ w → GlobOk E κ → LR κ args vs → κ.base id = some p → YieldNext P p.block vs w (Left w0 κ σ x σ')
theorem wpIn_value {P : Program} {ro : Option Nat} {o : Oper} {a : Act} {w w' : World} {K : Act → World → Prop} {Q : Exit → Act → World → Prop} {n : Next} (hd : ∀ c, o.op ≠ .defer c) (h : (execOp a.eval o).run P w = .ok n w') {r : Value} (hn : n = .value r ∨ (n = .skip ∧ r = undef)) (hK : K (a.put o.dst r) w') : o.wpIn (Wide ro) 0 P a w K Q := by
  refine ⟨wide_about P ro w _ o, ?_⟩
  rw [Oper.semAt_eq _ _ _ hd, h]
  rcases hn with rfl | ⟨rfl, rfl⟩
  · rw [Oper.uponIn_value]; exact hK
  · rw [Oper.uponIn_skip]; exact hK
theorem aop_no_defer {E : Env} {tm : List AVal} {σ σ' : Store} {op : Op} {x : AVal} (h : aop E tm σ op = some (x, σ')) : ∀ c, op ≠ .defer c := fun c e => by subst e; simp [aop] at h

theorem LR.append {κ : Kn} {xs ys : List AVal} {us vs : Array Value} (h : LR κ xs us) (k : LR κ ys vs) : LR κ (xs ++ ys) (us ++ vs) := by
  refine LR.of (by simp [h.1, k.1]) fun j y hy => ?_
  rw [List.getElem?_append] at hy
  split at hy
  · rename_i hj
    obtain ⟨v, h1, h2⟩ := h.get hy
    exact ⟨v, by rw [Array.getElem?_append_left (by rw [h.1]; exact hj)]; exact h1, h2⟩
  · rename_i hj
    obtain ⟨v, h1, h2⟩ := k.get hy
    exact ⟨v, by rw [Array.getElem?_append_right (by rw [h.1]; omega), h.1]; exact h1, h2⟩

/-- One operation of a region. -/
theorem stepOp_sound {E : Env} {P : Program} (hE : EnvOk E P) {call : Caller} (hC : CallerOk E P call) {w0 : World} {κ : Kn} {σ σ' : Store} {w : World} (hw : WR w0 κ σ w) (hG : GlobOk E κ) {tm : List AVal} {a : Act} (hf : FR κ tm a) {o : Oper} {x : AVal}
    (h : stepOp E call o tm σ = some (x, σ')) {K : Act → World → Prop} {Q : Exit → Act → World → Prop} (hK : ∀ r w', Left w0 κ σ x σ' r w' → K (a.put o.dst r) w') (ro : Option Nat) : o.wpIn (Wide ro) 0 P a w K Q := by
  have plain : aop E tm σ o.op = some (x, σ') → o.wpIn (Wide ro) 0 P a w K Q := fun h => by
    obtain ⟨n, r, w', κ', h1, h2, h3, h4, h5, h6⟩ := aop_sound hE hw hG hf h
    exact wpIn_value (aop_no_defer h) h1 h2 (hK _ _ ⟨κ', h3, h4, h5, h6⟩)
  unfold stepOp at h
  split at h
  · rename_i f args at_ hop
    simp only [Option.bind_eq_bind, Option.bind_eq_some_iff] at h
    obtain ⟨fv, hfv, h⟩ := h
    have hnd : ∀ c, o.op ≠ .defer c := fun c e => by rw [e] at hop; cases hop
    split at h
    case h_3 => cases h
    case h_2 id =>
      simp only [Option.bind_eq_some_iff] at h
      obtain ⟨l, hl, h⟩ := h
      have hv := eval_sound hG hf hfv
      generalize hc : a.eval f = c at hv
      cases hv with
      | yield _ p hp =>
      have hargs := evals_sound hG hf hl
      have e : (args.toList.map a.eval).toArray = args.map a.eval := by rw [← Array.toList_map]
      rw [e] at hargs
      obtain ⟨fn, tmps, assign, body, hy, hR⟩ := hC.yield _ _ _ _ _ h w0 w κ _ p hw hG hargs hp
      refine ⟨wide_about P ro w _ o, ?_⟩
      have hrun : (execOp a.eval o).run P w = (Instr.yield p.block (args.map a.eval)).run P w := by
        simp only [execOp, hop, resolve, hc, Deferred.ofValue, Sem.run_bind, Sem.run_pure, Result.andThen_ok, invoke, Array.empty_append]
      rw [Oper.semAt_eq _ _ _ hnd, hrun, hy, Oper.uponIn_round]
      refine ⟨wide_depth ro 0, RoundIn.mono hR fun e w' he => ?_⟩
      obtain ⟨v, rfl, hv⟩ := he
      exact hK _ _ hv
    rename_i g first caps
    simp only [Option.bind_eq_some_iff] at h
    obtain ⟨l, hl, h⟩ := h
    have hv := eval_sound hG hf hfv
    generalize hc : a.eval f = c at hv
    cases hv with
    | func _ _ _ us vs hu hv h1 h2 =>
    have hargs := evals_sound hG hf hl
    have e : (args.toList.map a.eval).toArray = args.map a.eval := by rw [← Array.toList_map]
    rw [e] at hargs
    have hall : LR κ (first ++ l ++ caps) (us ++ args.map a.eval ++ vs) := LR.append (LR.append ⟨hu, h1⟩ hargs) ⟨hv, h2⟩
    have hcn := hC.fn _ _ _ _ _ h w0 w κ _ hw hG hall
    have hrun : (execOp a.eval o).run P w = (callFunc g (us ++ args.map a.eval ++ vs)).run P w := by
      simp only [execOp, hop, resolve, hc, Deferred.ofValue, Sem.run_bind, Sem.run_pure, Result.andThen_ok, invoke]
    refine ⟨wide_about P ro w _ o, ?_⟩
    rw [Oper.semAt_eq _ _ _ hnd, hrun]
    rcases hcn with ⟨v, w', k1, k2⟩ | ⟨k1, k2⟩
    · rw [k1, Oper.uponIn_value]; exact hK _ _ k2
    · rw [k1, Oper.uponIn_enter]
      refine ⟨wide_depth ro 0, callsIn_any (Calls.mono k2 fun e w' he => ?_)⟩
      cases e with
      | returned v => exact hK _ _ he
      | panicked c => exact he.elim
      | outgrown => exact he.elim
  · exact plain h

theorem FR.put {κ : Kn} {tm : List AVal} {a : Act} (hf : FR κ tm a) {x : AVal} {v : Value} (hx : VR κ x v) (dst : Option Tmp) : FR κ (putTm tm dst x) (a.put dst v) := by
  cases dst with
  | none => exact hf
  | some d =>
    refine LR.of (by simp [putTm, Act.put, hf.1]) fun j y hy => ?_
    simp only [putTm, List.getElem?_set] at hy
    simp only [Act.put, Array.getElem?_setIfInBounds]
    split at hy
    · rename_i e
      subst e
      split at hy
      · rename_i hlt
        cases hy
        exact ⟨v, by simp [show d < a.tmps.size by rw [hf.1]; exact hlt], hx⟩
      · cases hy
    · rename_i e
      rw [if_neg e]
      exact hf.get hy

theorem wanted_sound {κ : Kn} {tm : List AVal} {a : Act} (hf : FR κ tm a) {o : Oper} {ops : Array Oper} {b : Bool} (h : wantedA o ops tm = some b) : Region.wanted o (yielded ops a.tmps) = b := by
  unfold wantedA at h
  unfold Region.wanted
  cases hg : o.guard with
  | none => simp only [hg] at h ⊢; exact Option.some.inj h
  | some jw =>
    obtain ⟨j, want⟩ := jw
    simp only [hg] at h ⊢
    unfold yielded
    cases hd : (ops[j]?).bind (·.dst) with
    | none => simp only [hd] at h; cases h; rfl
    | some d =>
      simp only [hd, Option.bind_some] at h ⊢
      cases ht : tm[d]? with
      | none =>
        simp only [ht] at h; cases h
        have : a.tmps[d]? = none := by
          have := List.getElem?_eq_none_iff.1 ht
          exact Array.getElem?_eq_none (by rw [hf.1]; exact this)
        rw [this]; rfl
      | some y =>
        obtain ⟨v, h1, h2⟩ := hf.get ht
        rw [h1]
        simp only [ht] at h
        cases h2 <;> simp only [Option.some.injEq] at h <;> subst h <;> first | rfl | (rename_i b; cases b <;> cases want <;> rfl)

/-- What the code of a region, or of a function, leaves. -/
structure Done (w0 : World) (κ : Kn) (σ : Store) (tm' : List AVal) (σ' : Store) (ds : List Deferred) (a' : Act) (w' : World) : Prop where
  ex : ∃ κ', FR κ' tm' a' ∧ WR w0 κ' σ' w' ∧ Ext σ.next κ κ' ∧ σ.next ≤ σ'.next
  defers : a'.defers = ds
theorem Done.trans {w0 : World} {κ κ1 : Kn} {σ σ1 : Store} {tm' : List AVal} {σ' : Store} {ds : List Deferred} {a' : Act} {w' : World} (h : Done w0 κ1 σ1 tm' σ' ds a' w') (he : Ext σ.next κ κ1) (hn : σ.next ≤ σ1.next) : Done w0 κ σ tm' σ' ds a' w' := by
  obtain ⟨⟨κ', h1, h2, h3, h4⟩, h5⟩ := h
  exact ⟨⟨κ', h1, h2, he.trans h3 hn, by omega⟩, h5⟩
theorem Act.put_defers' (a : Act) (dst : Option Tmp) (v : Value) : (a.put dst v).defers = a.defers := by cases dst <;> rfl

/-- The operations of a region in the order of the text. -/
theorem runOps_sound {E : Env} {P : Program} (hE : EnvOk E P) {call : Caller} (hC : CallerOk E P call) (ro : Option Nat) {ops : Array Oper} {Q : Exit → Act → World → Prop} {w0 : World} : ∀ (l : List Nat) (tm tm' : List AVal) (σ σ' : Store), runOps E call ops l tm σ = some (tm', σ') →
    ∀ (κ : Kn) (w : World) (a : Act), WR w0 κ σ w → GlobOk E κ → FR κ tm a → (∀ a' w', Done w0 κ σ tm' σ' a.defers a' w' → Q .normal a' w') → wpOpsIn (Wide ro) 0 P ops Q l a w
  | [], tm, tm', σ, σ', h, κ, w, a, hw, hG, hf, hQ => by
    cases h
    exact hQ a w ⟨⟨κ, hf, hw, Ext.refl _ _, Nat.le_refl _⟩, rfl⟩
  | i :: l, tm, tm', σ, σ', h, κ, w, a, hw, hG, hf, hQ => by
    unfold runOps at h
    cases hi : ops[i]? with
    | none => simp [hi] at h
    | some o =>
      simp only [hi, Option.bind_eq_bind, Option.bind_eq_some_iff] at h
      obtain ⟨b, hb, h⟩ := h
      have hwant := wanted_sound hf hb
      unfold wpOpsIn
      simp only [hi]
      cases b with
      | true =>
        simp only [if_true, Option.bind_eq_some_iff] at h
        obtain ⟨⟨x, σ1⟩, hs, h⟩ := h
        simp only at h
        rw [hwant, if_pos rfl]
        refine stepOp_sound hE hC hw hG hf hs (fun r w' hl => ?_) ro
        obtain ⟨κ1, k1, k2, k3, k4⟩ := hl
        refine runOps_sound hE hC ro l _ tm' σ1 σ' h κ1 w' _ k2 (hG.mono k3.le) ((hf.mono k3.le).put k1 o.dst) fun a' w'' hd => hQ a' w'' ?_
        rw [Act.put_defers'] at hd
        exact hd.trans k3 k4
      | false =>
        simp only [Bool.false_eq_true, if_false] at h
        rw [hwant, if_neg (by simp)]
        refine ⟨wide_about P ro w _ o, ?_⟩
        refine runOps_sound hE hC ro l _ tm' σ σ' h κ w _ hw hG (hf.put .undef' o.dst) fun a' w'' hd => hQ a' w'' ?_
        rw [Act.put_defers'] at hd
        exact hd

/-! the results of a function -/
theorem results_sound {E : Env} {P : Program} (hT : TabOk E.T P) {w0 : World} {κ : Kn} {σ : Store} {w : World} (hw : WR w0 κ σ w) {tm : List AVal} {a : Act} (hf : FR κ tm a) : ∀ {rs : List ResultVar} {l : List AVal}, resultsA E rs tm σ = some l →
    ∃ vs : List Value, (rs.mapM fun (r : ResultVar) => (match r with | .tmp t => pure (a.tmps.getD t undef) | .cell x t => do loadVar t (← asAddr (a.tmps.getD x undef)) : Sem Value)).run P w = .ok vs w ∧ LR κ l vs.toArray
  | [], l, h => by cases h; exact ⟨[], rfl, rfl, fun j y hy => by simp at hy⟩
  | r :: rs, l, h => by
    have tmp : ∀ t, VR κ (tm.getD t .undef) (a.tmps.getD t undef) := fun t => by
      by_cases ht : t < tm.length
      · have := hf.2 t tm[t] (List.getElem?_eq_getElem ht)
        simpa [List.getD, ht] using this
      · have h1 : tm[t]? = none := List.getElem?_eq_none (by omega)
        have h2 : a.tmps[t]? = none := Array.getElem?_eq_none (by rw [hf.1]; omega)
        simp only [List.getD, h1, Array.getD_eq_getD_getElem?, h2]
        exact .undef'
    have cons : ∀ {v : AVal} {u : Value} {l' : List AVal} {us : List Value}, VR κ v u → LR κ l' us.toArray → LR κ (v :: l') (u :: us).toArray := fun hv hl => by
      refine LR.of (by have := hl.1; simpa using this) fun j y hy => ?_
      cases j with
      | zero => simp at hy; subst hy; exact ⟨_, by simp, hv⟩
      | succ j =>
        obtain ⟨u, g1, g2⟩ := hl.get (j := j) (y := y) (by simpa using hy)
        exact ⟨u, by simpa using g1, g2⟩
    cases r with
    | tmp t =>
      simp only [resultsA, Option.bind_eq_bind, Option.bind_eq_some_iff, Option.some.injEq] at h
      obtain ⟨l', hl, rfl⟩ := h
      obtain ⟨vs, h1, h2⟩ := results_sound hT hw hf hl
      refine ⟨a.tmps.getD t undef :: vs, ?_, cons (tmp t) h2⟩
      rw [List.mapM_cons]
      simp only [Sem.run_bind, Sem.run_pure, Result.andThen_ok, h1]
    | cell x t =>
      simp only [resultsA, Option.bind_eq_bind, Option.bind_eq_some_iff, Option.some.injEq] at h
      obtain ⟨v, hv, l', hl, rfl⟩ := h
      obtain ⟨vs, h1, h2⟩ := results_sound hT hw hf hl
      obtain ⟨u, u1, u2⟩ := load_sound hT hw hv (tmp x)
      have hld : (do loadVar t (← asAddr (a.tmps.getD x undef)) : Sem Value).run P w = .ok u w := by
        have ht := tmp x
        generalize tm.getD x .undef = ap at ht hv
        generalize a.tmps.getD x undef = cp at ht u1 ⊢
        unfold load at hv
        cases ht <;> first | (cases hv; done) | skip
        · simpa [Instr.loadAt, Instr.sureAddr, asAddr] using u1
        · simpa [Instr.loadAt, Instr.sureAddr, asAddr] using u1
      refine ⟨u :: vs, ?_, cons u2 h2⟩
      rw [List.mapM_cons]
      simp only [Sem.run_bind] at hld ⊢
      rw [hld]
      simp only [Result.andThen_ok, Sem.run_bind, h1, Sem.run_pure]

theorem oneOf_sound {κ : Kn} {l : List AVal} {vs : Array Value} (h : LR κ l vs) : VR κ (oneOf l) (if h : vs.size = 1 then vs[0] else .tuple vs) := by
  match l with
  | [v] =>
    have hs : vs.size = 1 := h.1
    rw [dif_pos hs]
    obtain ⟨u, g1, g2⟩ := h.get (j := 0) (y := v) rfl
    rw [Array.getElem?_eq_getElem (by omega)] at g1
    cases g1
    exact g2
  | [] =>
    rw [dif_neg (by rw [h.1]; simp)]
    exact .tuple _ vs h.1 h.2
  | u :: v :: r =>
    rw [dif_neg (by rw [h.1]; simp)]
    exact .tuple _ vs h.1 h.2

theorem fnResults_sound {E : Env} {P : Program} (hT : TabOk E.T P) {w0 : World} {κ : Kn} {σ : Store} {w : World} (hw : WR w0 κ σ w) {tm : List AVal} {a : Act} (hf : FR κ tm a) {fn : Func} {l : List AVal} (h : resultsA E fn.results.toList tm σ = some l) :
    ∃ v, (results fn a.tmps).run P w = .ok v w ∧ VR κ (oneOf l) v := by
  obtain ⟨vs, h1, h2⟩ := results_sound hT hw hf h
  refine ⟨_, ?_, oneOf_sound h2⟩
  unfold results
  rw [Array.mapM_eq_mapM_toList]
  simp only [Sem.run_bind, Sem.run_map]
  exact Eq.trans (congrArg (fun r => ((Result.andThen r fun a w' => Result.ok a.toArray w').andThen fun a w' => Sem.run P (pure (if h : a.size = 1 then a[0] else Value.tuple a)) w')) h1) rfl

end Go.Ab
