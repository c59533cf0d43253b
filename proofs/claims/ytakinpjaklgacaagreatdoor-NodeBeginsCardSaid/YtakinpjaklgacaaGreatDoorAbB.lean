/-
  SOUNDNESS, first part: types, loads, stores, new objects.
  SOUNDNESS, second part: how a world changes: cells of an object written, a new object, a draw.
  SOUNDNESS, third part: new objects, draws, what is dropped, what is frozen; the operations on memory.
  SOUNDNESS, fourth part: operands; numbers, bools, texts; fields and elements.
-/
import Derived.Test.YtakinpjaklgacaaGreatDoorAbA
import Derived.Laws.IdiomCopy
import Derived.Laws.Cells
import Derived.Laws.Small
namespace Go.Ab
open Go.RowKit (Below)

theorem addr_add (b o n : Nat) : (⟨b, o, none⟩ : Addr).add n = ⟨b, o + n, none⟩ := by
  unfold Addr.add
  split <;> simp_all

theorem run_info {P : Program} {t : TypeId} {i : TypeInfo} (h : P.info? t = some i) (w : World) : (typeInfo t).run P w = .ok i w := by
  simp [typeInfo, h]
section tables
variable {T : Tab} {P : Program} (h : TabOk T P)
include h
theorem TabOk.run_und {t : TypeId} {d : TypeDesc} (hu : T.und t = some d) (w : World) : (underlying t).run P w = .ok d w := run_underlying (h.und t d hu).1 w
theorem TabOk.run_size {t : TypeId} {d : TypeDesc} (hu : T.und t = some d) (w : World) : (sizeOf t).run P w = .ok (T.size t) w := by
  obtain ⟨_, i, hi, hs, _⟩ := h.und t d hu
  simp [sizeOf, run_info hi, hs]
theorem TabOk.run_agg {t : TypeId} {d : TypeDesc} (hu : T.und t = some d) (w : World) : (Go.isAgg t).run P w = .ok (isAgg d) w := by
  simp only [Go.isAgg, Sem.run_bind, h.run_und hu, Result.andThen_ok]
  cases d <;> rfl
theorem TabOk.run_bytes {t : TypeId} {d : TypeDesc} (hu : T.und t = some d) (w : World) : ∃ i, (typeInfo t).run P w = .ok i w ∧ i.bytes = T.bytes t ∧ i.size = T.size t := by
  obtain ⟨_, i, hi, hs, hb⟩ := h.und t d hu
  exact ⟨i, run_info hi w, hb, hs⟩
theorem TabOk.run_zero {t : TypeId} {z : List AVal} (hz : T.zero t = some z) (w : World) : ∃ v d, (zeroValue t).run P w = .ok v w ∧ (∀ κ, LR κ z v.cells) ∧ z.length = T.size t ∧ z.all AVal.one = true ∧ T.und t = some d ∧ (isAgg d = true → v = .agg v.cells) ∧ (isAgg d = false → v.cells = #[v]) := by
  obtain ⟨i, v, d, hi, hv, _, hl, ho, hr, hu, hg⟩ := h.zero t z hz
  refine ⟨v, d, ?_, hr, hl, ho, hu, hg⟩
  simp only [zeroValue, Sem.run_bind, run_info hi, Result.andThen_ok, hv]
  rfl
end tables

/-- The cells of a list stand in a world from a place on. -/
def Stands (κ : Kn) (w : World) (b o : Nat) (cs : List AVal) : Prop :=
  ∀ (j : Nat) (y : AVal), cs[j]? = some y → ∃ v, w.cell? ⟨b, o + j, none⟩ = some v ∧ VR κ y v
theorem Stands.drop {κ : Kn} {w : World} {b o : Nat} {cs : List AVal} (h : Stands κ w b o cs) (n : Nat) : Stands κ w b (o + n) (cs.drop n) := by
  intro j y hy
  rw [List.getElem?_drop] at hy
  have := h (n + j) y hy
  rwa [show o + (n + j) = o + n + j by omega] at this
theorem Stands.take {κ : Kn} {w : World} {b o : Nat} {cs : List AVal} (h : Stands κ w b o cs) (n : Nat) : Stands κ w b o (cs.take n) := by
  intro j y hy
  rw [List.getElem?_take] at hy
  split at hy
  · exact h j y hy
  · cases hy
/-- They are read as one list of values. -/
theorem Stands.run_loadCells {κ : Kn} {w : World} {b o : Nat} {cs : List AVal} (P : Program) (h : Stands κ w b o cs) :
    ∃ vs : Array Value, (loadCells ⟨b, o, none⟩ cs.length).run P w = .ok vs w ∧ LR κ cs vs := by
  have hf : ∀ j, ∃ v, j < cs.length → w.cell? ⟨b, o + j, none⟩ = some v ∧ ∀ y, cs[j]? = some y → VR κ y v := by
    intro j
    by_cases hj : j < cs.length
    · obtain ⟨v, h1, h2⟩ := h j cs[j] (List.getElem?_eq_getElem hj)
      exact ⟨v, fun _ => ⟨h1, fun y hy => by rw [List.getElem?_eq_getElem hj] at hy; cases hy; exact h2⟩⟩
    · exact ⟨default, fun e => absurd e hj⟩
  refine ⟨((List.range cs.length).map fun j => Classical.choose (hf j)).toArray, ?_, by simp, ?_⟩
  · exact Go.run_loadCells w _ _ _ fun j hj => by rw [addr_add]; exact (Classical.choose_spec (hf j) hj).1
  · intro j y hy
    have hj : j < cs.length := by
      rcases Nat.lt_or_ge j cs.length with h | h
      · exact h
      · rw [List.getElem?_eq_none h] at hy; cases hy
    have := (Classical.choose_spec (hf j) hj).2 y hy
    simpa [Array.getD, hj] using this

theorem ofCells_sound {E : Env} {P : Program} (hT : TabOk E.T P) {κ : Kn} {w : World} {b o : Nat} {cs : List AVal} (h : Stands κ w b o cs) {t : TypeId} {off : Nat} {x : AVal}
    (hx : ofCells E t cs off = some x) : ∃ v, (loadVar t ⟨b, o + off, none⟩).run P w = .ok v w ∧ VR κ x v := by
  unfold ofCells at hx
  cases hd : E.T.und t with
  | none => simp [hd] at hx
  | some d =>
    simp only [hd, Option.bind_eq_bind, Option.bind_some] at hx
    simp only [loadVar, Sem.run_bind, hT.run_agg hd, Result.andThen_ok]
    by_cases ha : isAgg d = true
    · rw [if_pos ha] at hx ⊢
      split at hx
      · rename_i hl
        cases hx
        simp only [Sem.run_bind, hT.run_size hd, Result.andThen_ok]
        have hs := ((h.drop off).take (E.T.size t))
        obtain ⟨vs, h1, h2⟩ := hs.run_loadCells P
        have hlen : (List.take (E.T.size t) (List.drop off cs)).length = E.T.size t := by simp; omega
        rw [hlen] at h1
        rw [h1]
        exact ⟨_, rfl, .agg _ _ h2.1 h2.2⟩
      · cases hx
    · rw [if_neg ha] at hx ⊢
      obtain ⟨v, h1, h2⟩ := h off x hx
      exact ⟨v, by simp [run_load, h1], h2⟩

/-- An object's cells, in its world. -/
theorem OR.stands {κ : Kn} {w : World} {own : Nat → Nat → Option Nat} {id : Nat} {ob : AObj} {cs : List AVal} (h : OR κ w own id ob) (hc : ob.cells? = some cs) :
    ∃ p, κ.base id = some p ∧ Stands κ w p.block p.off cs ∧ Cells κ w own id p.block p.off cs := by
  cases h with
  | cells cs' p hp hcs => cases hc; exact ⟨p, hp, fun j y hy => (hcs j y hy).2.2, hcs⟩
  | arr g s cs' p hp hz hcs hl hr => cases hc; exact ⟨p, hp, fun j y hy => (hcs j y hy).2.2, hcs⟩
  | map => cases hc
  | iter => cases hc
  | rmap => cases hc
  | itof => cases hc
  | loop => cases hc

theorem load_sound {E : Env} {P : Program} (hT : TabOk E.T P) {w0 : World} {κ : Kn} {σ : Store} {w : World} (hw : WR w0 κ σ w) {t : TypeId} {p x : AVal} {c : Value}
    (hl : load E σ t p = some x) (hp : VR κ p c) : ∃ v, (Instr.loadAt t c).run P w = .ok v w ∧ VR κ x v := by
  obtain ⟨own, hw⟩ := hw
  unfold load at hl
  split at hl
  · rename_i id off
    cases hg : σ.get id with
    | none => simp [hg] at hl
    | some ob =>
      simp only [hg, Option.bind_eq_bind, Option.bind_some] at hl
      cases hc : ob.cells? with
      | none => simp [hc] at hl
      | some cs =>
        simp only [hc, Option.bind_some] at hl
        obtain ⟨p, hb, hs, _⟩ := (hw.objs id ob hg).2.stands hc
        cases hp with
        | ptr _ _ p' hb' =>
          rw [hb] at hb'; cases hb'
          obtain ⟨v, h1, h2⟩ := ofCells_sound hT hs hl
          exact ⟨v, by simpa [Instr.loadAt, Instr.sureAddr] using h1, h2⟩
  · rename_i cs off
    cases hp with
    | rptr _ _ b o f h1 h2 =>
      have hs : Stands κ w b o cs := fun j y hy => by
        have hj : j < cs.length := by
          rcases Nat.lt_or_ge j cs.length with h | h
          · exact h
          · rw [List.getElem?_eq_none h] at hy; cases hy
        exact ⟨f j, hw.imm _ _ _ (h1 j hj), h2 j y hy⟩
      obtain ⟨v, h1, h2⟩ := ofCells_sound hT hs hl
      exact ⟨v, by simpa [Instr.loadAt, Instr.sureAddr] using h1, h2⟩
  · cases hl

end Go.Ab

namespace Go.Ab
open Go.RowKit (Below)

def bare : Obj → Bool
  | .map _ _ | .stringIter _ _ | .mapIter _ _ _ _ | .loop _ => true
  | _ => false
def Other (w : World) (b : Nat) : Prop := ∃ o, w.heap[b]? = some o ∧ bare o = true

/-- What an object owns is as it was. -/
structure Keeps (w w' : World) (own own' : Nat → Nat → Option Nat) (id : Nat) : Prop where
  ownk : ∀ b x, own b x = some id → own' b x = some id
  cell : ∀ b x, own b x = some id → w'.cell? ⟨b, x, none⟩ = w.cell? ⟨b, x, none⟩ ∧ w'.frozen? ⟨b, x, none⟩ = w.frozen? ⟨b, x, none⟩
  other : ∀ b, own b 0 = some id → Other w b → w'.heap[b]? = w.heap[b]?

theorem OR.keep {κ κ' : Kn} {w w' : World} {own own' : Nat → Nat → Option Nat} {id : Nat} {ob : AObj} (h : OR κ w own id ob) (hk : κ.Le κ') (hc : Keeps w w' own own' id) : OR κ' w' own' id ob := by
  have cells : ∀ b o cs, Cells κ w own id b o cs → Cells κ' w' own' id b o cs := fun b o cs hcs j y hy => by
    obtain ⟨h1, h2, v, h3, h4⟩ := hcs j y hy
    obtain ⟨c1, c2⟩ := hc.cell _ _ h1
    exact ⟨hc.ownk _ _ h1, by rw [c2, h2], v, by rw [c1, h3], h4.mono hk⟩
  cases h with
  | cells cs p hp hcs => exact .cells cs p (hk.base _ _ hp) (cells _ _ _ hcs)
  | arr g s cs p hp hz hcs hl hr =>
    refine .arr g s cs p (hk.base _ _ hp) hz (cells _ _ _ hcs) hl fun j h1 h2 => ?_
    obtain ⟨r1, r2, r3⟩ := hr j h1 h2
    obtain ⟨c1, c2⟩ := hc.cell _ _ r1
    exact ⟨hc.ownk _ _ r1, by rw [c2, r2], by rw [c1]; exact r3⟩
  | map es p ms clock hp hb he hn ho =>
    refine .map es p ms clock (hk.base _ _ hp) ?_ ⟨he.1, fun j e m h1 h2 => ⟨(he.2 j e m h1 h2).1.mono hk, (he.2 j e m h1 h2).2.mono hk⟩⟩ hn (hc.ownk _ _ ho)
    rw [hc.other _ ho ⟨_, hb, rfl⟩, hb]
  | iter s pos p hp h0 hb ho =>
    refine .iter s pos p (hk.base _ _ hp) h0 ?_ (hc.ownk _ _ ho)
    rw [hc.other _ ho ⟨_, hb, rfl⟩, hb]
  | rmap es it n p q ms clock since seen last hp hq h0 hb hi he hn hs ho hoq =>
    refine .rmap es it n p q ms clock since seen last (hk.base _ _ hp) (hk.base _ _ hq) h0 ?_ ?_ ⟨he.1, fun j e m h1 h2 => ⟨(he.2 j e m h1 h2).1.mono hk, (he.2 j e m h1 h2).2.mono hk⟩⟩ hn hs (hc.ownk _ _ ho) (hc.ownk _ _ hoq)
    · rw [hc.other _ ho ⟨_, hb, rfl⟩, hb]
    · rw [hc.other _ hoq ⟨_, hi, rfl⟩, hi]
  | itof m => exact .itof m
  | loop l r p hp hb hl ho =>
    refine .loop l r p (hk.base _ _ hp) ?_ ⟨hl.tm.mono hk, hl.ps, hl.assign, hl.body, by rw [hk.ok]; exact hl.oka, by rw [hk.ok]; exact hl.okb, hl.busy, hl.free⟩ (hc.ownk _ _ ho)
    rw [hc.other _ ho ⟨_, hb, rfl⟩, hb]

theorem getElem?_setRange {cs vs : List AVal} {off : Nat} (h : off + vs.length ≤ cs.length) (j : Nat) :
    (setRange cs off vs)[j]? = if off ≤ j ∧ j < off + vs.length then vs[j - off]? else cs[j]? := by
  unfold setRange
  rw [List.append_assoc, List.getElem?_append]
  simp only [List.length_take]
  rw [Nat.min_eq_left (by omega)]
  by_cases h1 : j < off
  · rw [if_pos h1, if_neg (by omega), List.getElem?_take, if_pos h1]
  · rw [if_neg h1, List.getElem?_append]
    by_cases h2 : j - off < vs.length
    · rw [if_pos h2, if_pos (by omega)]
    · rw [if_neg h2, if_neg (by omega), List.getElem?_drop]
      congr 1
      omega
theorem length_setRange {cs vs : List AVal} {off : Nat} (h : off + vs.length ≤ cs.length) : (setRange cs off vs).length = cs.length := by
  simp [setRange]
  omega

theorem heap_setCells (w : World) (b : Nat) : ∀ (vs : List Value) (o : Nat) (w : World) (k : Nat), k ≠ b → (w.setCells b o vs).heap[k]? = w.heap[k]?
  | [], _, _, _, _ => rfl
  | v :: r, o, w, k, h => by rw [World.setCells, heap_setCells w b r (o + 1) _ k h, Below.heap_setCell _ _ _ _ h]
theorem size_setCells (b : Nat) : ∀ (vs : List Value) (o : Nat) (w : World), (w.setCells b o vs).heap.size = w.heap.size
  | [], _, _ => rfl
  | v :: r, o, w => by rw [World.setCells, size_setCells b r, World.size_setCell]
theorem below_setCells {B : Nat} {a : World} (b : Nat) (hb : B ≤ b) : ∀ (vs : List Value) (o : Nat) (w : World), Below B a w → Below B a (w.setCells b o vs)
  | [], _, _, h => h
  | v :: r, o, w, h => below_setCells b hb r _ _ (h.setCell hb v)

theorem AObj.cells?_with {ob : AObj} {cs cs' : List AVal} (h : ob.cells? = some cs) : (ob.withCells cs').cells? = some cs' := by
  cases ob <;> simp_all [AObj.cells?, AObj.withCells]

/-- Cells of an object are written. -/
theorem WRo.write {w0 : World} {κ : Kn} {own : Nat → Nat → Option Nat} {σ : Store} {w : World} (hw : WRo w0 κ own σ w) {id : Nat} {ob : AObj} {cs : List AVal} {p : Place}
    (hg : σ.get id = some ob) (hc : ob.cells? = some cs) (hp : κ.base id = some p) {off : Nat} {vs : List AVal} {us : List Value} (hl : off + vs.length ≤ cs.length)
    (hu : us.length = vs.length) (hv : ∀ (j : Nat) (y : AVal) (u : Value), vs[j]? = some y → us[j]? = some u → VR κ y u) :
    WRo w0 κ own (σ.put id (ob.withCells (setRange cs off vs))) (w.setCells p.block (p.off + off) us) := by
  obtain ⟨p', hp', hst, hcs⟩ := (hw.objs id ob hg).2.stands hc
  rw [hp] at hp'; cases hp'
  have hin : ∀ j, off ≤ j → j < off + vs.length → own p.block (p.off + j) = some id := fun j h1 h2 => (hcs j cs[j] (List.getElem?_eq_getElem (by omega))).1
  have hcell : ∀ b x, own b x ≠ some id → (w.setCells p.block (p.off + off) us).cell? ⟨b, x, none⟩ = w.cell? ⟨b, x, none⟩ := fun b x hne => by
    refine World.cell?_setCells_out p.block us _ w _ fun h1 _ => ?_
    simp only at h1 ⊢
    rcases Nat.lt_or_ge x (p.off + off) with h | h
    · exact .inl h
    · refine .inr ?_
      rcases Nat.lt_or_ge x (p.off + off + us.length) with h' | h'
      · exact absurd (by have := hin (x - p.off) (by omega) (by omega); rwa [show p.off + (x - p.off) = x by omega, ← h1] at this) hne
      · exact h'
  have hlen := length_setRange hl
  have hsome : ∀ j, j < us.length → (w.cell? ⟨p.block, p.off + off + j, none⟩).isSome = true := fun j hj => by
    obtain ⟨v, h1, _⟩ := hst (off + j) cs[off + j] (List.getElem?_eq_getElem (by omega))
    rw [show p.off + off + j = p.off + (off + j) by omega, h1]; rfl
  -- the object's cells behind the writing
  have hnew : Cells κ (w.setCells p.block (p.off + off) us) own id p.block p.off (setRange cs off vs) := by
    intro j y hy
    rw [getElem?_setRange hl] at hy
    have hj : j < cs.length := by
      by_cases e : off ≤ j ∧ j < off + vs.length
      · omega
      · rw [if_neg e] at hy
        rcases Nat.lt_or_ge j cs.length with h | h
        · exact h
        · rw [List.getElem?_eq_none h] at hy; cases hy
    obtain ⟨o1, o2, v, o3, o4⟩ := hcs j cs[j] (List.getElem?_eq_getElem hj)
    refine ⟨o1, by rw [World.frozen?_setCells]; exact o2, ?_⟩
    by_cases e : off ≤ j ∧ j < off + vs.length
    · rw [if_pos e] at hy
      have hju : j - off < us.length := by omega
      refine ⟨us[j - off], ?_, hv _ _ _ hy (List.getElem?_eq_getElem hju)⟩
      have := World.cell?_setCells_in p.block us (p.off + off) w hsome (j - off) hju
      rwa [show p.off + off + (j - off) = p.off + j by omega] at this
    · rw [if_neg e] at hy
      refine ⟨v, ?_, by rw [List.getElem?_eq_getElem hj] at hy; cases hy; exact o4⟩
      rw [World.cell?_setCells_out p.block us _ w _ (fun _ _ => by simp only; omega)]
      exact o3
  have hown := hw.ownd
  refine ⟨?_, ?_, ?_, ?_, hw.fresh, fun b hb => ?_, hw.lim⟩
  · by_cases hz : vs.length = 0
    · have : us = [] := List.eq_nil_of_length_eq_zero (by omega)
      subst this; exact hw.below
    · have h1 := hin off (Nat.le_refl _) (by omega)
      exact below_setCells _ (hown _ _ _ h1).2.1 _ _ _ hw.below
  · intro b x v hi
    rw [hcell b x (fun e => by have := (hown _ _ _ e).1; rw [hi] at this; cases this)]
    exact hw.imm b x v hi
  · intro b x i h
    obtain ⟨h1, h2, h3⟩ := hown b x i h
    exact ⟨h1, h2, by rw [size_setCells]; exact h3⟩
  · intro i o hi
    rw [Store.get_put] at hi
    by_cases e : i = id
    · subst e
      rw [if_pos rfl] at hi
      cases hi
      refine ⟨(hw.objs i ob hg).1, ?_⟩
      have hob := (hw.objs i ob hg).2
      cases hob with
      | cells cs' p' hp' hcs' =>
        rw [hp] at hp'; cases hp'
        exact .cells _ p hp hnew
      | arr g s cs' p' hp' hz' hcs' hl' hr' =>
        rw [hp] at hp'; cases hp'
        cases hc
        refine .arr g s _ p hp hz' hnew (by rw [hlen]; exact hl') fun j h1 h2 => ?_
        rw [hlen] at h1
        obtain ⟨r1, r2, r3⟩ := hr' j h1 h2
        refine ⟨r1, by rw [World.frozen?_setCells]; exact r2, ?_⟩
        rw [World.cell?_setCells_out p.block us _ w _ (fun _ _ => by simp only; omega)]
        exact r3
      | map => cases hc
      | iter => cases hc
      | rmap => cases hc
      | itof => cases hc
      | loop => cases hc
    · rw [if_neg e] at hi
      obtain ⟨h1, h2⟩ := hw.objs i o hi
      refine ⟨h1, h2.keep (Kn.Le.refl κ) ⟨fun _ _ h => h, fun b x h => ⟨hcell b x (by rw [h]; exact fun e' => e (Option.some.inj e')), World.frozen?_setCells _ _ _ _ _⟩, fun b hb ho => ?_⟩⟩
      by_cases hbb : b = p.block
      · -- the block of the object written holds cells
        by_cases hz : cs.length = 0
        · have hu0 : us = [] := List.eq_nil_of_length_eq_zero (by omega)
          subst hu0; rfl
        · exfalso
          obtain ⟨v, h3, _⟩ := hst 0 cs[0] (List.getElem?_eq_getElem (by omega))
          unfold World.cell? at h3
          simp only [← hbb] at h3
          obtain ⟨o, ho, hbo⟩ := ho
          rw [ho] at h3
          cases o <;> first | (cases h3; done) | (cases hbo; done)
      · exact heap_setCells w _ _ _ _ _ hbb
  · obtain ⟨m1, m2, m3⟩ := hw.marks b hb
    refine ⟨?_, m2, m3⟩
    by_cases hz : vs.length = 0
    · have : us = [] := List.eq_nil_of_length_eq_zero (by omega)
      subst this; exact m1
    · rw [heap_setCells w _ _ _ _ _ (fun e => by have h1 := hin off (Nat.le_refl _) (by omega); rw [← e, m3] at h1; cases h1)]
      exact m1

end Go.Ab

namespace Go.Ab
open Go.RowKit (Below)

def Kn.with (κ : Kn) (id : Nat) (p : Place) : Kn := { κ with base := fun i => if i = id then some p else κ.base i }
theorem Kn.ext_with {κ : Kn} {id : Nat} {p : Place} (h : κ.base id = none) {n : Nat} (hn : n ≤ id) : Ext n κ (κ.with id p) :=
  ⟨⟨fun i q hq => by
      show (if i = id then some p else κ.base i) = some q
      rw [if_neg (fun e => by rw [e, h] at hq; cases hq)]; exact hq, fun _ _ _ h => h, rfl, rfl, rfl, rfl, fun _ _ _ h => .inl h⟩,
   fun i hi => by show (if i = id then some p else κ.base i) = _; rw [if_neg (by omega)], fun _ h => h⟩
theorem Kn.base_with (κ : Kn) (id : Nat) (p : Place) : (κ.with id p).base id = some p := if_pos rfl

/-- The owners, with a new object's. -/
def ownNew (own : Nat → Nat → Option Nat) (b : Nat) (f : Nat → Bool) (id : Nat) : Nat → Nat → Option Nat :=
  fun x o => if x = b then (if f o then some id else none) else own x o

theorem WRo.drew {w0 : World} {κ : Kn} {own : Nat → Nat → Option Nat} {σ : Store} {w : World} (h : WRo w0 κ own σ w) : WRo w0 κ own σ w.drew :=
  ⟨h.below.drew, h.imm, h.ownd, fun id ob hg => ⟨(h.objs id ob hg).1, (h.objs id ob hg).2.keep (Kn.Le.refl κ) ⟨fun _ _ h => h, fun _ _ _ => ⟨rfl, rfl⟩, fun _ _ _ => rfl⟩⟩, h.fresh, h.marks, h.lim⟩
theorem WR.drew {w0 : World} {κ : Kn} {σ : Store} {w : World} (h : WR w0 κ σ w) : WR w0 κ σ w.drew := let ⟨own, h⟩ := h; ⟨own, h.drew⟩

/-- A block that nobody owns yet. -/
theorem WRo.grow {w0 : World} {κ : Kn} {own : Nat → Nat → Option Nat} {σ : Store} {w : World} (h : WRo w0 κ own σ w) (o : Obj) : WRo w0 κ own σ (w.alloc o) := by
  have hlt : ∀ b x, κ.imm b x ≠ none → b < w.heap.size := fun b x hi => by
    cases hv : κ.imm b x with
    | none => exact absurd hv hi
    | some v => exact World.block_lt_of_cell? _ _ (h.imm b x v hv)
  refine ⟨h.below.alloc h.below.size o, fun b x v hi => ?_, fun b x id ho => ?_, fun id ob hg => ⟨(h.objs id ob hg).1, (h.objs id ob hg).2.keep (Kn.Le.refl κ) ⟨fun _ _ h => h, fun b x ho => ?_, fun b ho _ => ?_⟩⟩, h.fresh, fun b hb => ?_, h.lim⟩
  · rw [World.cell?_alloc_lt _ _ _ (hlt b x (by rw [hi]; simp))]; exact h.imm b x v hi
  · obtain ⟨h1, h2, h3⟩ := h.ownd b x id ho
    exact ⟨h1, h2, by simp; omega⟩
  · have := (h.ownd b x id ho).2.2
    exact ⟨World.cell?_alloc_lt _ _ _ this, World.frozen?_alloc_old _ _ _ (by simp only; omega)⟩
  · exact Below.heap_alloc _ _ _ (h.ownd b 0 id ho).2.2
  · obtain ⟨m1, m2, m3⟩ := h.marks b hb
    exact ⟨by rw [Below.heap_alloc _ _ _ (Array.getElem?_eq_some_iff.1 m1).1]; exact m1, m2, m3⟩

/-- A new object in a new block. -/
theorem WRo.new {w0 : World} {κ : Kn} {own : Nat → Nat → Option Nat} {σ : Store} {w : World} (h : WRo w0 κ own σ w) (o : Obj) (p : Place) (hp : p.block = w.heap.size) (f : Nat → Bool) (ob : AObj)
    (hob : OR (κ.with σ.next p) (w.alloc o) (ownNew own w.heap.size f σ.next) σ.next ob) : WRo w0 (κ.with σ.next p) (ownNew own w.heap.size f σ.next) (σ.new ob) (w.alloc o) := by
  have hx := Kn.ext_with (p := p) (h.fresh σ.next (Nat.le_refl _)) (Nat.le_refl σ.next)
  have hlt : ∀ b x, κ.imm b x ≠ none → b < w.heap.size := fun b x hi => by
    cases hv : κ.imm b x with
    | none => exact absurd hv hi
    | some v => exact World.block_lt_of_cell? _ _ (h.imm b x v hv)
  have hg := h.grow o
  refine ⟨hg.below, hg.imm, fun b x id ho => ?_, fun id ob' hgt => ?_, fun id hid => ?_, fun b hb => ?_, h.lim⟩
  · unfold ownNew at ho
    by_cases e : b = w.heap.size
    · rw [if_pos e] at ho
      subst e
      refine ⟨?_, h.below.size, by simp⟩
      show κ.imm _ x = none
      cases hv : κ.imm w.heap.size x with
      | none => rfl
      | some v => have := hlt _ x (by rw [hv]; simp); omega
    · rw [if_neg e] at ho
      exact hg.ownd b x id ho
  · rw [Store.get_new] at hgt
    by_cases e : id = σ.next
    · subst e
      rw [if_pos rfl] at hgt
      cases hgt
      exact ⟨by simp, hob⟩
    · rw [if_neg e] at hgt
      obtain ⟨h1, h2⟩ := hg.objs id ob' hgt
      refine ⟨by simp; omega, h2.keep hx.le ⟨fun b x ho => ?_, fun _ _ _ => ⟨rfl, rfl⟩, fun _ _ _ => rfl⟩⟩
      unfold ownNew
      rw [if_neg (by have := (h.ownd b x id ho).2.2; omega)]
      exact ho
  · show (if id = σ.next then some p else κ.base id) = none
    simp only [Store.next_new] at hid
    rw [if_neg (by omega)]
    exact h.fresh id (by omega)
  · obtain ⟨m1, m2, m3⟩ := hg.marks b hb
    refine ⟨m1, m2, fun o => ?_⟩
    unfold ownNew
    rw [if_neg (by have := (Array.getElem?_eq_some_iff.1 (h.marks b hb).1).1; omega)]
    exact m3 o

/-- Less may be said of a store. -/
theorem WRo.drop {w0 : World} {κ : Kn} {own : Nat → Nat → Option Nat} {σ σ' : Store} {w : World} (h : WRo w0 κ own σ w) (hs : ∀ id ob, σ'.get id = some ob → σ.get id = some ob) (hn : σ'.next = σ.next) : WRo w0 κ own σ' w :=
  ⟨h.below, h.imm, h.ownd, fun id ob hg => ⟨by rw [hn]; exact (h.objs id ob (hs _ _ hg)).1, (h.objs id ob (hs _ _ hg)).2⟩, fun id hid => h.fresh id (by omega), h.marks, h.lim⟩
theorem WR.drop {w0 : World} {κ : Kn} {σ σ' : Store} {w : World} (h : WR w0 κ σ w) (hs : ∀ id ob, σ'.get id = some ob → σ.get id = some ob) (hn : σ'.next = σ.next) : WR w0 κ σ' w :=
  let ⟨own, h⟩ := h; ⟨own, h.drop hs hn⟩

theorem heap_new (w : World) (o : Obj) : (w.alloc o).heap[w.heap.size]? = some o := by
  show (w.heap.push o)[w.heap.size]? = some o
  simp
theorem cell_new (w : World) (vs : Array Value) (e : TypeId) (fr : Nat × Nat) (j : Nat) : (w.alloc (.cells vs e fr)).cell? ⟨w.heap.size, j, none⟩ = vs[j]? := by
  unfold World.cell?
  rw [heap_new]
  rfl
theorem frozen_new (w : World) (vs : Array Value) (e : TypeId) (fr : Nat × Nat) (j : Nat) : (w.alloc (.cells vs e fr)).frozen? ⟨w.heap.size, j, none⟩ = (decide (fr.1 ≤ j) && decide (j < fr.2)) := by
  unfold World.frozen?
  rw [heap_new]
/-! a row of cells that is new -/
theorem cells_new {κ : Kn} {w : World} {own : Nat → Nat → Option Nat} {id : Nat} {cs : List AVal} {vs : Array Value} {e : TypeId} {fr : Nat × Nat} (h : ∀ (j : Nat) (y : AVal), cs[j]? = some y → ∃ v, vs[j]? = some v ∧ VR κ y v)
    (hf : ∀ j, j < cs.length → ¬ (fr.1 ≤ j ∧ j < fr.2)) (f : Nat → Bool) (hp : ∀ j, j < cs.length → f j = true) :
    Cells κ (w.alloc (.cells vs e fr)) (ownNew own w.heap.size f id) id w.heap.size 0 cs := by
  intro j y hy
  have hj : j < cs.length := by
    rcases Nat.lt_or_ge j cs.length with h | h
    · exact h
    · rw [List.getElem?_eq_none h] at hy; cases hy
  obtain ⟨v, h1, h2⟩ := h j y hy
  refine ⟨by simp [ownNew, hp j hj], ?_, v, ?_, h2⟩
  · rw [Nat.zero_add, frozen_new]
    have := hf j hj
    simp only [Bool.and_eq_false_iff, decide_eq_false_iff_not]
    omega
  · rw [Nat.zero_add, cell_new, h1]

theorem LR.get {κ : Kn} {xs : List AVal} {vs : Array Value} (h : LR κ xs vs) {j : Nat} {y : AVal} (hy : xs[j]? = some y) : ∃ v, vs[j]? = some v ∧ VR κ y v := by
  have hj : j < xs.length := by
    rcases Nat.lt_or_ge j xs.length with h | h
    · exact h
    · rw [List.getElem?_eq_none h] at hy; cases hy
  have hv : j < vs.size := by rw [h.1]; exact hj
  refine ⟨vs[j], Array.getElem?_eq_getElem hv, ?_⟩
  have := h.2 j y hy
  simpa [Array.getD, hv] using this

/-- A new variable. -/
theorem WR.newVar {w0 : World} {κ : Kn} {σ : Store} {w : World} (hw : WR w0 κ σ w) {cs : List AVal} {vs : Array Value} (h : LR κ cs vs) (e : TypeId) :
    ∃ κ', Ext σ.next κ κ' ∧ WR w0 κ' (σ.new (.cells cs)) (w.alloc (.cells vs e)) ∧ VR κ' (.ptr σ.next 0) (.pointer (some ⟨w.heap.size, 0, none⟩)) := by
  obtain ⟨own, hw⟩ := hw
  let p : Place := ⟨w.heap.size, 0, cs.length, 1⟩
  have hx := Kn.ext_with (p := p) (hw.fresh σ.next (Nat.le_refl _)) (Nat.le_refl σ.next)
  refine ⟨κ.with σ.next p, hx, ⟨_, hw.new _ p rfl (fun _ => true) _ (.cells cs p (Kn.base_with _ _ _) (cells_new (fun j y hy => ?_) (fun _ _ => by simp) _ (fun _ _ => rfl)))⟩, ?_⟩
  · obtain ⟨v, h1, h2⟩ := h.get hy
    exact ⟨v, h1, h2.mono hx.le⟩
  · exact .ptr σ.next 0 p (Kn.base_with _ _ _)

/-- A new owned array; behind its known cells may lie more. -/
theorem WR.newArr {w0 : World} {κ : Kn} {σ : Store} {w : World} (hw : WR w0 κ σ w) {cs : List AVal} {vs : Array Value} (h : ∀ (j : Nat) (y : AVal), cs[j]? = some y → ∃ v, vs[j]? = some v ∧ VR κ y v) (hl : cs.length ≤ vs.size)
    (e : TypeId) (fr : Nat × Nat) (hf : ∀ j, j < vs.size → ¬ (fr.1 ≤ j ∧ j < fr.2)) (g : Bool) (size : Nat) {len cap : Nat} {ex : Bool} (hc : len ≤ cap) (he : ex = true → cap = len) (hcap : cap * size = vs.size) :
    ∃ κ', Ext σ.next κ κ' ∧ WR w0 κ' (σ.new (.arr g size cs)) (w.alloc (.cells vs e fr)) ∧ VR κ' (.oslice σ.next 0 len ex) (.slice (some ⟨w.heap.size, 0, none⟩) len cap) := by
  obtain ⟨own, hw⟩ := hw
  let p : Place := ⟨w.heap.size, 0, vs.size, size⟩
  have hx := Kn.ext_with (p := p) (hw.fresh σ.next (Nat.le_refl _)) (Nat.le_refl σ.next)
  refine ⟨κ.with σ.next p, hx, ⟨_, hw.new _ p rfl (fun _ => true) _ (.arr g size cs p (Kn.base_with _ _ _) rfl (cells_new (cs := cs) (fun j y hy => ?_) (fun j (hj : j < cs.length) => hf j (by omega)) _ (fun _ _ => rfl)) hl (fun j h1 h2 => ⟨by simp [ownNew, p], ?_, ?_⟩))⟩, ?_⟩
  · obtain ⟨v, h1, h2⟩ := h j y hy
    exact ⟨v, h1, h2.mono hx.le⟩
  · have := hf j h2
    show (w.alloc (.cells vs e fr)).frozen? ⟨w.heap.size, 0 + j, none⟩ = false
    rw [Nat.zero_add, frozen_new]
    simp only [Bool.and_eq_false_iff, decide_eq_false_iff_not]
    omega
  · show ((w.alloc (.cells vs e fr)).cell? ⟨w.heap.size, 0 + j, none⟩).isSome = true
    have : j < vs.size := h2
    rw [Nat.zero_add, cell_new]
    simp [this]
  · exact .oslice σ.next 0 len ex p cap (Kn.base_with _ _ _) hc he (by simp [p, hcap]) (fun _ => by simp [p, hcap])

end Go.Ab

namespace Go.Ab
open Go.RowKit (Below)

theorem ofCell_sound {v : Value} {x : AVal} (h : ofCell v = some x) (κ : Kn) : VR κ x v := by
  unfold ofCell at h
  split at h <;> cases h
  · exact .bool _
  · exact .int _ _
  · exact .str _
  · exact .nilptr
  · exact .nils
  · exact .nilmap
  · exact .nilfunc
  · exact .niliface
theorem ofCellList_sound : ∀ {vs : List Value} {xs : List AVal}, ofCellList vs = some xs → ∀ κ, vs.length = xs.length ∧ ∀ (j : Nat) (y : AVal), xs[j]? = some y → ∃ v, vs[j]? = some v ∧ VR κ y v
  | [], xs, h, κ => by cases h; exact ⟨rfl, fun j y hy => by simp at hy⟩
  | v :: vs, xs, h, κ => by
    simp only [ofCellList, Option.bind_eq_bind] at h
    cases ha : ofCell v with
    | none => simp [ha] at h
    | some a =>
      cases hl : ofCellList vs with
      | none => simp [ha, hl] at h
      | some l =>
        simp only [ha, hl, Option.bind_some, Option.some.injEq] at h
        subst h
        obtain ⟨h1, h2⟩ := ofCellList_sound hl κ
        refine ⟨by simp [h1], fun j y hy => ?_⟩
        cases j with
        | zero => simp at hy; subst hy; exact ⟨v, rfl, ofCell_sound ha κ⟩
        | succ j => simpa using h2 j y (by simpa using hy)
theorem LR.of {κ : Kn} {xs : List AVal} {vs : Array Value} (h1 : vs.size = xs.length) (h2 : ∀ (j : Nat) (y : AVal), xs[j]? = some y → ∃ v, vs[j]? = some v ∧ VR κ y v) : LR κ xs vs :=
  ⟨h1, fun j y hy => by
    obtain ⟨v, h3, h4⟩ := h2 j y hy
    rw [Array.getD_eq_getD_getElem?, h3]
    exact h4⟩
theorem ofConst_sound {v : Value} {x : AVal} (h : ofConst v = some x) (κ : Kn) : VR κ x v := by
  unfold ofConst at h
  split at h
  · rename_i cs
    cases hl : ofCellList cs.toList with
    | none => simp [hl] at h
    | some l =>
      simp only [hl, Option.map_some, Option.some.injEq] at h
      subst h
      obtain ⟨h1, h2⟩ := ofCellList_sound hl κ
      have := LR.of (κ := κ) (xs := l) (vs := cs) (by simpa using h1) (fun j y hy => by simpa using h2 j y hy)
      exact .agg l cs this.1 this.2
  · exact ofCell_sound h κ

theorem eval_sound {E : Env} {κ : Kn} (hG : GlobOk E κ) {tm : List AVal} {a : Act} (hf : FR κ tm a) {x : Operand} {v : AVal} (h : eval E tm x = some v) : VR κ v (a.eval x) := by
  cases x with
  | tmp t =>
    simp only [eval, Option.some.injEq] at h
    subst h
    simp only [Act.eval]
    by_cases ht : t < tm.length
    · have := hf.2 t tm[t] (List.getElem?_eq_getElem ht)
      simpa [List.getD, List.getElem?_eq_getElem ht] using this
    · have h1 : tm.getD t .undef = .undef := by simp [List.getD, List.getElem?_eq_none (Nat.le_of_not_lt ht)]
      have h2 : a.tmps.getD t Go.undef = Go.undef := by
        rw [Array.getD_eq_getD_getElem?, Array.getElem?_eq_none (Nat.le_of_not_lt (by rw [hf.1]; exact ht))]; rfl
      rw [h1, h2]
      exact .tuple [] #[] rfl (fun j y hy => by simp at hy)
  | const c => exact ofConst_sound h κ
  | global g =>
    simp only [eval, Option.map_eq_some_iff] at h
    obtain ⟨cs, h1, rfl⟩ := h
    obtain ⟨f, h2, h3⟩ := hG.glob g cs h1
    exact .rptr cs 0 g 0 f (by simpa using h2) h3
  | func f =>
    simp only [eval, Option.some.injEq] at h
    subst h
    exact .func f [] [] #[] #[] rfl rfl (fun j y hy => by simp at hy) (fun j y hy => by simp at hy)

theorem evals_sound {E : Env} {κ : Kn} (hG : GlobOk E κ) {tm : List AVal} {a : Act} (hf : FR κ tm a) : ∀ {xs : List Operand} {vs : List AVal}, evals E tm xs = some vs → LR κ vs (xs.map a.eval).toArray
  | [], vs, h => by cases h; exact ⟨rfl, fun j y hy => by simp at hy⟩
  | x :: xs, vs, h => by
    simp only [evals, Option.bind_eq_bind] at h
    cases ha : eval E tm x with
    | none => simp [ha] at h
    | some v =>
      cases hl : evals E tm xs with
      | none => simp [ha, hl] at h
      | some l =>
        simp only [ha, hl, Option.bind_some, Option.some.injEq] at h
        subst h
        have ih := evals_sound hG hf hl
        refine LR.of (by simpa using ih.1) fun j y hy => ?_
        cases j with
        | zero => simp at hy; subst hy; exact ⟨_, by simp, eval_sound hG hf ha⟩
        | succ j =>
          obtain ⟨u, h1, h2⟩ := ih.get (j := j) (y := y) (by simpa using hy)
          exact ⟨u, by simpa using h1, h2⟩

/-! numbers -/
theorem binInt_sound {P : Program} {op : BinOp} {k : IntKind} {a b : Int} {x : AVal} (h : binInt op k a b = some x) (κ : Kn) (t : TypeId) (w : World) :
    ∃ v, (Go.binOp op t (.int k a) (.int k b)).run P w = .ok v w ∧ VR κ x v := by
  cases op <;> simp only [binInt] at h
  case quo => split at h <;> cases h; rename_i hb; exact ⟨_, by simp [Go.binOp, Op.intDiv, hb], .int _ _⟩
  case rem => split at h <;> cases h; rename_i hb; exact ⟨_, by simp [Go.binOp, Op.intDiv, hb], .int _ _⟩
  case shl => cases h
  case shr => cases h
  all_goals
    cases h
    first
      | exact ⟨_, by simp only [Go.binOp, ne_eq, not_true_eq_false, if_false]; rfl, .int _ _⟩
      | exact ⟨_, by simp only [Go.binOp, ne_eq, not_true_eq_false, if_false]; rfl, .bool _⟩
theorem binShift_sound {P : Program} {op : BinOp} (ho : op = .shl ∨ op = .shr) {k yk : IntKind} {a b : Int} {x : AVal} (h : binShift op k a b = some x) (κ : Kn) (t : TypeId) (w : World) :
    ∃ v, (Go.binOp op t (.int k a) (.int yk b)).run P w = .ok v w ∧ VR κ x v := by
  unfold binShift at h
  split at h
  · cases h
  · rename_i hb
    rcases ho with rfl | rfl <;> cases h <;> exact ⟨_, by simp [Go.binOp, Op.shift, hb] <;> rfl, .int _ _⟩
theorem binStr_sound {P : Program} {op : BinOp} {a b : ByteArray} {x : AVal} (h : binStr op a b = some x) (κ : Kn) (t : TypeId) (w : World) :
    ∃ v, (Go.binOp op t (.string a) (.string b)).run P w = .ok v w ∧ VR κ x v := by
  cases op <;> simp only [binStr] at h <;> (try cases h)
  case add => split at h <;> cases h; rename_i hb; exact ⟨_, by simp only [Go.binOp, Op.stringOp, if_neg hb]; rfl, .str _⟩
  all_goals exact ⟨_, rfl, .bool _⟩

theorem eqCell_sound {κ : Kn} {a b : AVal} {u v : Value} {r : Bool} (h : eqCell a b = some r) (ha : VR κ a u) (hb : VR κ b v) : eqCellV u v = some r := by
  cases ha <;> cases hb <;> simp_all [eqCell, eqCellV]
theorem eqCells_sound {κ : Kn} : ∀ {as bs : List AVal} {us vs : List Value} {r : Bool}, eqCells as bs = some r → us.length = as.length → vs.length = bs.length →
    (∀ (j : Nat) (y : AVal) (u : Value), as[j]? = some y → us[j]? = some u → VR κ y u) → (∀ (j : Nat) (y : AVal) (u : Value), bs[j]? = some y → vs[j]? = some u → VR κ y u) → eqCellsV us vs = some r
  | [], [], [], [], r, h, _, _, _, _ => h
  | [], b :: bs, _, _, r, h, _, _, _, _ => by simp [eqCells] at h
  | a :: as, [], _, _, r, h, _, _, _, _ => by simp [eqCells] at h
  | [], [], u :: us, _, r, h, h1, _, _, _ => by simp at h1
  | [], [], [], v :: vs, r, h, _, h2, _, _ => by simp at h2
  | a :: as, b :: bs, [], _, r, h, h1, _, _, _ => by simp at h1
  | a :: as, b :: bs, u :: us, [], r, h, _, h2, _, _ => by simp at h2
  | a :: as, b :: bs, u :: us, v :: vs, r, h, h1, h2, h3, h4 => by
    simp only [eqCells, Option.bind_eq_bind] at h
    cases hx : eqCell a b with
    | none => simp [hx] at h
    | some x =>
      cases hy : eqCells as bs with
      | none => simp [hx, hy] at h
      | some y =>
        simp only [hx, hy, Option.bind_some, Option.some.injEq] at h
        subst h
        have e1 := eqCell_sound hx (h3 0 a u rfl rfl) (h4 0 b v rfl rfl)
        have e2 := eqCells_sound hy (by simpa using h1) (by simpa using h2) (fun j y u a b => h3 (j + 1) y u (by simpa using a) (by simpa using b)) (fun j y u a b => h4 (j + 1) y u (by simpa using a) (by simpa using b))
        simp [eqCellsV, e1, e2]

end Go.Ab
