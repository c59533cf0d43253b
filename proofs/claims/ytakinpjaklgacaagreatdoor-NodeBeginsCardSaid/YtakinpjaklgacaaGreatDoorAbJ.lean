/-
  SOUNDNESS, the last part: regions, code, calls.
  THE MACHINE'S TABLES, from the program itself.
  THE MACHINE OF A PROGRAM.
  PRIMITIVES of the machine: the clone of a map; a call that was run once; calls with a hidden slice.
  CALLS THAT WERE RUN ONCE: what such a run needs of a store, and what it leaves, as data; a primitive of the machine.
  THE MACHINE ANEW, in small pieces: the same, but quick for the kernel (a function's body is laid out anew at each step: so bodies are small).
-/
import Derived.Test.YtakinpjaklgacaaGreatDoorAbI
import Derived.LoopN
import Derived.Laws.Externs
namespace Go.Ab
open Go.RowKit (Below)

theorem FrameAt.unique {ops : Array Oper} {p : Plan} {S : Nat → List AVal × Store} {V : Nat → AVal} {E : Env} (G : Good E.T ops p) {D : Nat → Prop} {tm tm' : List AVal} (h : FrameAt ops p S V D tm) (h' : FrameAt ops p S V D tm') : tm = tm' := by
  have hlen := h.len.trans h'.len.symm
  apply List.ext_getElem?
  intro (t : Nat)
  by_cases hw : ∃ (j : Nat) (y : Oper), ops[j]? = some y ∧ y.dst = some t ∧ D j
  · obtain ⟨j, y, hy, hd, hD⟩ := hw
    by_cases hlt : t < tm.length
    · obtain ⟨q, hq⟩ := List.mem_iff_getElem?.1 (G.mem j (Array.getElem?_eq_some_iff.1 hy).1)
      rw [h.hit q j y t hq hy hD hd hlt, h'.hit q j y t hq hy hD hd (by omega)]
    · rw [List.getElem?_eq_none (by omega), List.getElem?_eq_none (by omega)]
  · rw [h.miss t fun j y hy hD e => hw ⟨j, y, hy, e, hD⟩, h'.miss t fun j y hy hD e => hw ⟨j, y, hy, e, hD⟩]

theorem drawn_sound (ro : Option Nat) {E : Env} {P : Program} (hE : EnvOk E P) {call : Caller} (hC : CallerOk E P call) (hF : FrameOk call) {f : FuncId} {id : Nat} {ops : Array Oper} {tm tm' : List AVal} {σ σ' : Store} {p : Plan} (hp : E.plan f id = some p) (hok : planOk E.T ops p = true)
    (h : runRegion E call f id ops true tm σ = some (tm', σ')) {w0 w : World} {κ : Kn} {a : Act} {Q : Exit → Act → World → Prop} (hw : WR w0 κ σ w) (hG : GlobOk E κ) (hf : FR κ tm a) (hQ : ∀ a' w', Done w0 κ σ tm' σ' a.defers a' w' → Q .normal a' w') :
    (Code.region id ops true).wpIn (Wide ro) 0 P Q a w := by
  have G := good_of hok
  simp only [runRegion, if_true, Option.bind_eq_bind, hp, Option.bind_some] at h
  obtain ⟨⟨tm1, σ1, lg⟩, hrun, h⟩ := Option.bind_eq_some_iff.1 h
  simp only at h
  split at h
  case isFalse => cases h
  rename_i hch
  cases h
  obtain ⟨S, V, B, t1, t2, T, t4, t5, t6⟩ := runPlan_trace p.order _ _ _ _ _ _ hrun
  have hn : (S 0).2.next = σ.next + p.allocs.length := by rw [t1]
  have hget : ∀ i, (S 0).2.get i = σ.get i := fun i => by rw [t1]; rfl
  obtain ⟨own, hwo⟩ := hw
  have h0 : ∀ i, σ.next ≤ i → (S 0).2.get i = none := fun i hi => by
    rw [hget]
    cases hg : σ.get i with
    | none => rfl
    | some ob => have := (hwo.objs i ob hg).1; omega
  have hwr : WR w0 κ (S 0).2 w.drew := ⟨own, by
    have hd := hwo.drew
    refine ⟨hd.below, hd.imm, hd.ownd, fun i ob hi => ?_, fun i hi => hd.fresh i (by rw [hn] at hi; omega), hd.marks, hd.lim⟩
    rw [hget] at hi
    have := hd.objs i ob hi
    exact ⟨by rw [hn]; omega, this.2⟩⟩
  refine wpIn_region_any hE.mixed ?_
  have hinit : Inv E ops p σ.next S V B w0 κ a.defers (fun i => (Array.replicate ops.size false).getD i false = true) a w.drew κ (S 0).1 (S 0).2 0 := by
    have hno : ∀ i, ¬ (Array.replicate ops.size false).getD i false = true := fun i h => by
      simp [Array.getElem?_replicate] at h
      split at h <;> simp at h
    refine ⟨by rw [t1]; exact hf, hwr, Ext.refl _ _, rfl, ⟨rfl, fun q i o t _ _ hD => absurd hD (hno i), fun t _ => rfl⟩, ⟨rfl, fun k hk => ?_, fun id _ => rfl⟩, ⟨.inl rfl, fun r i _ _ => ⟨fun h => absurd h (hno i), fun h => by omega⟩⟩, fun k i hk _ => hwo.fresh _ (by omega), by rw [hn]; omega⟩
    obtain ⟨r, i, _, _, h3, _⟩ := hk
    exact absurd h3 (hno i)
  refine drawn_any (Q := Q) ro hE hC hF G T hn h0 (lg := lg) (fun x hx => ?_) ?_ (fun q i hq he => ?_) hch hG (fun a' w' κ' tmD σD q hI => ?_) ops.size _ (List.range ops.size) a _ κ (S 0).1 (S 0).2 0 (by simp) (fun i hi _ => List.mem_range.2 hi) (by simp) (fun i _ hD => ?_) hinit
  · rcases t4 x hx with h | h
    · cases h
    · exact h
  · rw [t5 0 (by simp)]
    rw [t1]; rfl
  · have := t6 q i hq he
    simpa using this
  · -- all are done
    have hmem : ∀ i, i < ops.size ↔ i ∈ p.order.take p.order.length := fun i => by
      rw [List.take_length]
      exact ⟨G.mem i, G.lt i⟩
    have hframe := T.frame G p.order.length (Nat.le_refl _)
    have htm : tmD = tm' := by
      have := (hI.frame.congr (D' := (· ∈ p.order.take p.order.length)) fun i hi => ⟨fun h => (hmem i).1 h, fun _ => hi⟩).unique (E := E) G hframe
      rw [this, t2]
    have hno : ∀ r i, q ≤ r → r < q + (p.order.length - q) → p.order[r]? = some i → p.effs.contains i = false := fun r i h1 h2 h3 => by
      cases hc : p.effs.contains i with
      | false => rfl
      | true =>
        have := (hI.cut.eff r i h3 hc).1 (G.lt i (List.mem_of_getElem? h3))
        omega
    have hle := hI.cut.le
    have hgap := T.gap G (q := q) (p.order.length - q) (by omega) hno
    rw [show q + (p.order.length - q) = p.order.length by omega, t2] at hgap
    have hD : (fun i => i < ops.size) = (· ∈ p.order.take p.order.length) := funext fun i => propext (hmem i)
    have hst := hI.store
    rw [hD] at hst
    have hnext : σ'.next = σD.next := hgap.next.trans hst.next.symm
    have hsame : ∀ i, σ'.get i = σD.get i := fun i => by
      by_cases hk : ∃ k, Taken p B (· ∈ p.order.take p.order.length) q k ∧ i = σ.next + k
      · obtain ⟨k, hk, rfl⟩ := hk
        have hk' := hk
        obtain ⟨r1, i1, g1, g2, g3, g4, g5⟩ := hk'
        obtain ⟨o1, ho1, _⟩ := T.step r1 i1 g2
        obtain ⟨f1, ob, q1, q2, q3⟩ := (T.born g2 ho1 g5).2 g4
        have hm : Made E ops p S k ob := ⟨r1, i1, o1, f1, g2, g5, ho1, q1⟩
        rw [hgap.born k hk ob hm, hst.born k hk ob hm]
      · rw [hgap.rest i fun k hk' e => hk ⟨k, hk', e⟩, hst.rest i fun k hk' e => hk ⟨k, hk', e⟩]
    refine hQ a' w' ⟨⟨κ', by rw [← htm]; exact hI.fr, hI.wr.drop (fun i ob hi => by rw [← hsame]; exact hi) hnext, hI.ext, ?_⟩, hI.defers⟩
    have := hI.nx
    omega
  · exfalso
    simp [Array.getElem?_replicate] at hD
    split at hD <;> simp at hD

/-! marks among the deferred calls -/
def Kn.withMark (κ : Kn) (b : Nat) : Kn := { κ with mark := fun x => κ.mark x || x == b }
def Kn.unmark (κ : Kn) (b : Nat) : Kn := { κ with mark := fun x => κ.mark x && !(x == b) }
theorem WRo.newMark {w0 : World} {κ : Kn} {own : Nat → Nat → Option Nat} {σ : Store} {w : World} (h : WRo w0 κ own σ w) : WRo w0 (κ.withMark w.heap.size) own σ (w.alloc (.deferred (some []))) := by
  have hg := h.grow (.deferred (some []))
  refine ⟨hg.below, hg.imm, hg.ownd, fun id ob hi => ⟨(hg.objs id ob hi).1, (hg.objs id ob hi).2.keep ⟨fun _ _ h => h, fun _ _ _ h => h, rfl, rfl, rfl, rfl, fun _ _ _ h => .inl h⟩ ⟨fun _ _ h => h, fun _ _ _ => ⟨rfl, rfl⟩, fun _ _ _ => rfl⟩⟩, hg.fresh, fun b hb => ?_, hg.lim⟩
  have hb : (κ.mark b || b == w.heap.size) = true := hb
  simp only [Bool.or_eq_true, beq_iff_eq] at hb
  rcases hb with hb | rfl
  · exact hg.marks b hb
  · refine ⟨heap_new _ _, h.below.size, fun o => ?_⟩
    cases ho : own w.heap.size o with
    | none => rfl
    | some id => have := (h.ownd _ o id ho).2.2; omega
theorem WRo.takeMark {w0 : World} {κ : Kn} {own : Nat → Nat → Option Nat} {σ : Store} {w : World} (h : WRo w0 κ own σ w) {b : Nat} (hm : κ.mark b = true) : WRo w0 (κ.unmark b) own σ (World.putBlock w b (.deferred none)) := by
  obtain ⟨m1, m2, m3⟩ := h.marks b hm
  have hne : ∀ x, x ≠ b → ∀ y, (World.putBlock w b (.deferred none)).cell? ⟨x, y, none⟩ = w.cell? ⟨x, y, none⟩ ∧ (World.putBlock w b (.deferred none)).frozen? ⟨x, y, none⟩ = w.frozen? ⟨x, y, none⟩ := fun x e y => by
    unfold World.cell? World.frozen?
    simp only [heap_putBlock_ne w b _ x e, and_self]
  refine ⟨⟨h.below.os, h.below.tape, h.below.output, by rw [size_putBlock]; exact h.below.size, fun k hk => by rw [heap_putBlock_ne w b _ k (by omega)]; exact h.below.block k hk⟩, fun x y v hi => ?_, fun x y i ho => by rw [size_putBlock]; exact h.ownd x y i ho, fun id ob hi => ⟨(h.objs id ob hi).1, (h.objs id ob hi).2.keep ⟨fun _ _ h => h, fun _ _ _ h => h, rfl, rfl, rfl, rfl, fun _ _ _ h => .inl h⟩ ⟨fun _ _ h => h, fun x y ho => hne x (fun e => by subst e; rw [m3] at ho; cases ho) y, fun x ho _ => heap_putBlock_ne w b _ x (fun e => by subst e; rw [m3] at ho; cases ho)⟩⟩, h.fresh, fun x hx => ?_, h.lim⟩
  · have hc := h.imm x y v hi
    rw [(hne x (fun e => by
      subst e
      unfold World.cell? at hc
      rw [m1] at hc
      cases hc) y).1]
    exact hc
  · have hx : (κ.mark x && !(x == b)) = true := hx
    simp only [Bool.and_eq_true, Bool.not_eq_true', beq_eq_false_iff_ne] at hx
    obtain ⟨k1, k2, k3⟩ := h.marks x hx.1
    exact ⟨by rw [heap_putBlock_ne w b _ x hx.2]; exact k1, k2, k3⟩
theorem WR.takeAll {P : Program} {w0 : World} {σ : Store} : ∀ (bs : List Nat) (κ : Kn) (w : World), WR w0 κ σ w → bs.Nodup → (∀ b ∈ bs, κ.mark b = true) →
    ∃ κ' w', MarksTaken P bs w w' ∧ WR w0 κ' σ w' ∧ κ.Le κ' ∧ κ'.base = κ.base ∧ ∀ b, b ∉ bs → κ.mark b = true → κ'.mark b = true
  | [], κ, w, hw, _, _ => ⟨κ, w, .nil w, hw, Kn.Le.refl κ, rfl, fun _ _ h => h⟩
  | b :: bs, κ, w, hw, hn, hb => by
    obtain ⟨own, hwo⟩ := hw
    have h1 := hwo.takeMark (hb b List.mem_cons_self)
    rw [List.nodup_cons] at hn
    obtain ⟨κ', w', k1, k2, k3, k4, k5⟩ := WR.takeAll bs _ _ ⟨own, h1⟩ hn.2 fun x hx => by
      show (κ.mark x && !(x == b)) = true
      simp only [Bool.and_eq_true, Bool.not_eq_true', beq_eq_false_iff_ne]
      exact ⟨hb x (List.mem_cons_of_mem b hx), fun e => hn.1 (e ▸ hx)⟩
    refine ⟨κ', w', .cons b bs w w' (hwo.marks b (hb b List.mem_cons_self)).1 k1, k2, Kn.Le.trans (b := κ.unmark b) ⟨fun _ _ h => h, fun _ _ _ h => h, rfl, rfl, rfl, rfl, fun _ _ _ h => .inl h⟩ k3, k4, fun x hx hm => ?_⟩
    rw [List.mem_cons, not_or] at hx
    refine k5 x hx.2 ?_
    show (κ.mark x && !(x == b)) = true
    simp only [Bool.and_eq_true, Bool.not_eq_true', beq_eq_false_iff_ne]
    exact ⟨hm, hx.1⟩
/-- What marks came. -/
def Marks (κ κ' : Kn) (ds ds' : List Deferred) : Prop := ∃ bs : List Nat, ds' = bs.map mk ++ ds ∧ bs.Nodup ∧ ∀ b ∈ bs, κ'.mark b = true ∧ κ.mark b = false
theorem Marks.refl (κ κ' : Kn) (ds : List Deferred) : Marks κ κ' ds ds := ⟨[], rfl, .nil, fun b h => by cases h⟩
theorem Marks.trans {κ κ1 κ2 : Kn} {ds ds1 ds2 : List Deferred} (h : Marks κ κ1 ds ds1) (k : Marks κ1 κ2 ds1 ds2) (h1 : ∀ b, κ.mark b = true → κ1.mark b = true) (h2 : ∀ b, κ1.mark b = true → κ2.mark b = true) : Marks κ κ2 ds ds2 := by
  obtain ⟨as, rfl, a1, a2⟩ := h
  obtain ⟨bs, rfl, b1, b2⟩ := k
  refine ⟨bs ++ as, by simp, ?_, fun b hb => ?_⟩
  · rw [List.nodup_append]
    refine ⟨b1, a1, fun x hx y hy e => ?_⟩
    subst e
    have := (b2 x hx).2
    rw [(a2 x hy).1] at this
    cases this
  · rcases List.mem_append.1 hb with hb | hb
    · refine ⟨(b2 b hb).1, ?_⟩
      cases hc : κ.mark b with
      | false => rfl
      | true => have := (b2 b hb).2; rw [h1 b hc] at this; cases this
    · exact ⟨h2 b (a2 b hb).1, (a2 b hb).2⟩

/-! code -/
def PrimOk (E : Env) (P : Program) : Prop := ∀ g pr, E.prim g = some pr → ∀ args σ x σ', pr args σ = some (x, σ') → ∀ (w0 w : World) (κ : Kn) (vs : Array Value), WR w0 κ σ w → GlobOk E κ → LR κ args vs → CallNext P g vs w (Left w0 κ σ x σ')

structure RunOk (E : Env) (P : Program) : Prop where
  env : EnvOk E P
  name : ∀ f F, E.fn f = some F → (F.name == "runtime.NumGoroutine") = false
  code : ∀ f F c, E.fn f = some F → F.body = some c → codeOk E f c = true
  prim : PrimOk E P
  primFr : PrimFr E

def Ex.is : Ex → Exit → Prop
  | .normal, .normal => True
  | .exit id, .exit id' => id = id'
  | .ret, .ret => True
  | _, _ => False

/-- What code leaves. -/
def Ends (w0 : World) (κ : Kn) (σ : Store) (e : Ex) (tm' : List AVal) (σ' : Store) (ds : List Deferred) (e' : Exit) (a' : Act) (w' : World) : Prop :=
  e.is e' ∧ ∃ κ', FR κ' tm' a' ∧ WR w0 κ' σ' w' ∧ Ext σ.next κ κ' ∧ σ.next ≤ σ'.next ∧ Marks κ κ' ds a'.defers
theorem Ends.of {w0 : World} {κ : Kn} {σ : Store} {e : Ex} {tm' : List AVal} {σ' : Store} {ds : List Deferred} {e' : Exit} {a' : Act} {w' : World} (he : e.is e') (h : Done w0 κ σ tm' σ' ds a' w') : Ends w0 κ σ e tm' σ' ds e' a' w' := by
  obtain ⟨⟨κ', d1, d2, d3, d4⟩, d5⟩ := h
  exact ⟨he, κ', d1, d2, d3, d4, d5 ▸ Marks.refl _ _ _⟩

def ExecOk (E : Env) (P : Program) (ex : Exec) : Prop :=
  ∀ f c tm σ e tm' σ', ex f c tm σ = some (e, tm', σ') → codeOk E f c = true → ∀ (ro : Option Nat), (ro = none ∨ noRange c = true) → ∀ (w0 w : World) (κ : Kn) (a : Act), WR w0 κ σ w → GlobOk E κ → FR κ tm a → c.wpIn (Wide ro) 0 P (Ends w0 κ σ e tm' σ' a.defers) a w

/-- A call that enters a function with a body. -/
def CallEnter (P : Program) (g : FuncId) (vs : Array Value) (w : World) (R : Value → World → Prop) : Prop :=
  (callFunc g vs).run P w = .ok (.enter g vs) w ∧ Calls P g vs w fun | .returned v, w' => R v w' | _, _ => False
theorem CallEnter.mono {P : Program} {g : FuncId} {vs : Array Value} {w : World} {R R' : Value → World → Prop} (h : CallEnter P g vs w R) (hr : ∀ v w', R v w' → R' v w') : CallEnter P g vs w R' := by
  refine ⟨h.1, Calls.mono h.2 fun e w' he => ?_⟩
  cases e <;> first | exact hr _ _ he | exact he.elim

theorem enter_sound {E : Env} {P : Program} (hR : RunOk E P) {ex : Exec} (hex : ExecOk E P ex) {g : FuncId} {args : List AVal} {σ σ' : Store} {x : AVal} (h : enter E ex g args σ = some (x, σ')) {w0 w : World} {κ : Kn} {vs : Array Value} (hw : WR w0 κ σ w) (hG : GlobOk E κ) (hl : LR κ args vs) :
    CallEnter P g vs w (Left w0 κ σ x σ') := by
  unfold enter at h
  simp only [Option.bind_eq_bind] at h
  obtain ⟨fn, hfn, h⟩ := Option.bind_eq_some_iff.1 h
  obtain ⟨c, hc, h⟩ := Option.bind_eq_some_iff.1 h
  obtain ⟨⟨e, tm, σ1⟩, he, h⟩ := Option.bind_eq_some_iff.1 h
  have hP := hR.env.fn g fn hfn
  refine ⟨?_, calls_of_marks hP hc ?_⟩
  · simp only [callFunc, Sem.run_bind, run_program, Result.andThen_ok, hP, hR.name g fn hfn, Bool.false_eq_true, if_false, hc, Option.isNone_some, Sem.run_pure]
  · have hfr : FR κ (args ++ List.replicate (fn.ntmps - args.length) .undef) { tmps := vs ++ Array.replicate (fn.ntmps - vs.size) undef, defers := [] } := by
      refine LR.append hl (LR.of (by simp [hl.1]) fun j y hy => ?_)
      simp only [List.getElem?_replicate] at hy
      split at hy
      · rename_i hj
        cases hy
        exact ⟨undef, by simp [hl.1, hj], .undef'⟩
      · cases hy
    refine wpIn_mono (hex _ _ _ _ _ _ _ he (hR.code g fn c hfn hc) none (.inl rfl) w0 w κ _ hw hG hfr) fun e' a' w' hend => ?_
    obtain ⟨his, κ', d1, d2, d3, d4, bs, d5, d6, d7⟩ := hend
    have fin : (match e with | .exit _ => none | _ => (resultsA E fn.results.toList tm σ1).bind fun l => some (oneOf l, σ1)) = some (x, σ') → (∀ id, e ≠ .exit id) → ∃ bs w'', a'.defers = bs.map mk ∧ MarksTaken P bs w' w'' ∧ ∃ v, (results fn a'.tmps).run P w'' = .ok v w'' ∧ Left w0 κ σ x σ' v w'' := fun h hne => by
      have h : (resultsA E fn.results.toList tm σ1).bind (fun l => some (oneOf l, σ1)) = some (x, σ') := by
        cases e <;> first | exact h | exact absurd rfl (hne _)
      obtain ⟨l, hl, h⟩ := Option.bind_eq_some_iff.1 h
      cases h
      obtain ⟨κ2, w2, t1, t2, t3, t4, t5⟩ := WR.takeAll (P := P) bs κ' w' d2 d6 fun b hb => (d7 b hb).1
      obtain ⟨v, v1, v2⟩ := fnResults_sound hR.env.tab t2 (d1.mono t3) hl
      refine ⟨bs, w2, by simpa using d5, t1, v, v1, κ2, v2, t2, ⟨d3.le.trans t3, fun id hid => by rw [t4]; exact d3.base id hid, fun b hb => t5 b (fun hm => ?_) (d3.mark b hb)⟩, d4⟩
      rw [(d7 b hm).2] at hb
      cases hb
    cases e with
    | normal => cases e' <;> first | exact his.elim | exact ⟨.inl rfl, fin h fun id e => by cases e⟩
    | ret => cases e' <;> first | exact his.elim | exact ⟨.inr rfl, fin h fun id e => by cases e⟩
    | exit id => cases h

/-! rounds -/
theorem roundTmps_size : ∀ (l : List (Tmp × Value)) (a : Array Value), (roundTmps a l).size = a.size
  | [], _ => rfl
  | (t, v) :: l, a => by
    show (roundTmps (a.setIfInBounds t v) l).size = a.size
    rw [roundTmps_size l]; simp
theorem round_frame {κ : Kn} : ∀ (ps : List Tmp) (xs : List AVal) (us : List Value) (tm : List AVal) (a : Array Value), LR κ tm a → LR κ xs us.toArray → LR κ (roundTm tm (ps.zip xs)) (roundTmps a (ps.zip us))
  | [], xs, us, tm, a, h, _ => h
  | t :: ps, [], us, tm, a, h, k => by
    have : us = [] := List.eq_nil_of_length_eq_zero (by simpa using k.1)
    subst this
    exact h
  | t :: ps, x :: xs, us, tm, a, h, k => by
    cases us with
    | nil => have := k.1; simp at this
    | cons u us =>
      have hu : VR κ x u := by have := k.2 0 x rfl; simpa using this
      have h1 : FR κ (putTm tm (some t) x) (({ tmps := a, defers := [] } : Act).put (some t) u) := FR.put (a := { tmps := a, defers := [] }) h hu (some t)
      refine round_frame ps xs us _ _ h1 ⟨by have := k.1; simpa using this, fun j y hy => ?_⟩
      have := k.2 (j + 1) y (by simpa using hy)
      simpa [Array.getD_eq_getD_getElem?] using this
theorem loop_object {w0 : World} {κ : Kn} {own : Nat → Nat → Option Nat} {σ : Store} {w : World} (hw : WRo w0 κ own σ w) {id : Nat} {l : ALoop} (h : getLoop σ id = some l) {p : Place} (hp : κ.base id = some p) :
    σ.get id = some (.loop l) ∧ ∃ r : Loop, w.heap[p.block]? = some (.loop r) ∧ LoopR κ l r ∧ own p.block 0 = some id := by
  unfold getLoop at h
  split at h
  · rename_i l' hg
    cases h
    have := (hw.objs id _ hg).2
    cases this with
    | loop _ r p' hp' hb hl ho => rw [hp] at hp'; cases hp'; exact ⟨hg, r, hb, hl, ho⟩
  · cases h
def exitOf : Exit → Option Code
  | .ret => some .ret
  | .exit id => some (.exit id)
  | _ => none
theorem round_sound {E : Env} {P : Program} {ex : Exec} (hex : ExecOk E P ex) {id : Nat} {args : List AVal} {σ σ' : Store} {x : AVal} (h : roundA ex id args σ = some (x, σ')) {w0 w : World} {κ : Kn} {vs : Array Value} {p : Place} (hw : WR w0 κ σ w) (hG : GlobOk E κ) (hl : LR κ args vs) (hp : κ.base id = some p) :
    YieldNext P p.block vs w (Left w0 κ σ x σ') := by
  unfold roundA at h
  simp only [Option.bind_eq_bind] at h
  obtain ⟨l, hl0, h⟩ := Option.bind_eq_some_iff.1 h
  split at h
  · cases h
  rename_i hsz
  have hsz : l.ps.size = args.length := Classical.not_not.1 hsz
  obtain ⟨⟨e1, tm1, σ1⟩, h1, h⟩ := Option.bind_eq_some_iff.1 h
  simp only at h
  split at h
  case h_2 => cases h
  obtain ⟨l1, hl1, h⟩ := Option.bind_eq_some_iff.1 h
  split at h
  · cases h
  rename_i hb
  simp only [Bool.or_eq_true, not_or, Bool.not_eq_true, Bool.not_eq_false'] at hb
  obtain ⟨⟨e2, tm2, σ2⟩, h2, h⟩ := Option.bind_eq_some_iff.1 h
  simp only at h
  obtain ⟨l2, hl2, h⟩ := Option.bind_eq_some_iff.1 h
  simp only [Option.some.injEq, Prod.mk.injEq] at h
  obtain ⟨rfl, rfl⟩ := h
  obtain ⟨own, hwo⟩ := hw
  obtain ⟨hg, r, hr, hlr, ho⟩ := loop_object hwo hl0 hp
  have hid : id < σ.next := (hwo.objs id _ hg).1
  have hoka := (hG.code _ _).1 hlr.oka
  have hokb := (hG.code _ _).1 hlr.okb
  refine ⟨r.fn, _, _, _, run_yield' hr (by rw [hlr.ps, hl.1, hsz]), round_of ?_⟩
  rw [hlr.assign, hlr.body, hlr.ps]
  have hf : FR κ (roundTm l.tm (l.ps.toList.zip args)) { tmps := roundTmps r.tmps (l.ps.toList.zip vs.toList), defers := [] } := round_frame _ _ _ _ _ hlr.tm (by simpa using hl)
  refine wpIn_mono (hex _ _ _ _ _ _ _ h1 hoka.1 (some p.block) (.inr hoka.2) w0 w κ _ ⟨own, hwo⟩ hG hf) fun e' a1 w1 hend => ?_
  obtain ⟨his, κ1, d1, d2, d3, d4, _⟩ := hend
  cases e' <;> first | exact his.elim | skip
  obtain ⟨own1, hwo1⟩ := d2
  have hp1 : κ1.base id = some p := by rw [d3.base id hid]; exact hp
  obtain ⟨hg1, r1, hr1, hlr1, ho1⟩ := loop_object hwo1 hl1 hp1
  have hfree := hlr1.free hb.1
  have hj1 : l1.jump = .none := by
    have := hb.2
    cases hj : l1.jump <;> first | rfl | (rw [hj] at this; cases this)
  rw [hj1] at hfree
  have hbusy : WR w0 κ1 (σ1.put id (.loop { l1 with busy := true })) (World.putBlock w1 p.block (.loop { r1 with state := .busy })) :=
    ⟨own1, hwo1.putBare (b := p.block) hg1 ho1 hr1 rfl rfl (.loop _ { r1 with state := .busy } p hp1 (heap_putBlock hr1) ⟨hlr1.tm, hlr1.ps, hlr1.assign, hlr1.body, hlr1.oka, hlr1.okb, fun _ => rfl, fun h => by cases h⟩ ho1)⟩
  refine ⟨rfl, _, run_begin hr1 hfree.1, ?_⟩
  refine wpIn_mono (hex _ _ _ _ _ _ _ h2 hokb.1 (some p.block) (.inr hokb.2) w0 _ κ1 a1 hbusy (hG.mono d3.le) d1) fun e'' a2 w2 hend => ?_
  obtain ⟨his2, κ2, f1, f2, f3, f4, _⟩ := hend
  have hid1 : id < σ1.next := by omega
  have hp2 : κ2.base id = some p := by rw [f3.base id (by simpa using hid1)]; exact hp1
  obtain ⟨own2, hwo2⟩ := f2
  obtain ⟨hg2, r2, hr2, hlr2, ho2⟩ := loop_object hwo2 hl2 hp2
  have hx : Ext σ.next κ κ2 := d3.trans f3 (by simpa using d4)
  have hnx : σ.next ≤ σ2.next := by have : σ1.next ≤ σ2.next := by simpa using f4
                                    omega
  have key : ∀ (jump : Option Code) (j : Jump), (jump = none ∧ j = .none) ∨ (∃ i, jump = some (.exit i) ∧ j = .exit i) ∨ (jump = some .ret ∧ j = .ret) →
      ∃ v w', (Instr.endRound p.block jump).run P w2 = .ok v w' ∧ Left w0 κ σ (.bool j.isNone) (σ2.put id (.loop { l2 with busy := false, jump := j })) v w' := fun jump j hj => by
    refine ⟨_, _, run_endR jump hr2, κ2, ?_, ⟨own2, hwo2.putBare (b := p.block) hg2 ho2 hr2 rfl rfl (.loop _ { r2 with state := if jump.isNone then .ready else .done, pending := jump } p hp2 (heap_putBlock hr2) ⟨hlr2.tm, hlr2.ps, hlr2.assign, hlr2.body, hlr2.oka, hlr2.okb, fun h => (by cases h), fun _ => ?_⟩ ho2)⟩, hx, by simpa using hnx⟩
    · rcases hj with ⟨rfl, rfl⟩ | ⟨i, rfl, rfl⟩ | ⟨rfl, rfl⟩ <;> exact .bool _
    · rcases hj with ⟨rfl, rfl⟩ | ⟨i, rfl, rfl⟩ | ⟨rfl, rfl⟩ <;> exact ⟨rfl, rfl⟩
  cases e2 with
  | normal => cases e'' <;> first | exact his2.elim | exact key none .none (.inl ⟨rfl, rfl⟩)
  | exit i =>
    cases e'' <;> first | exact his2.elim | skip
    rename_i i2
    have his2 : i = i2 := his2
    subst his2
    exact key (some (.exit i)) (.exit i) (.inr (.inl ⟨i, rfl, rfl⟩))
  | ret => cases e'' <;> first | exact his2.elim | exact key (some .ret) .ret (.inr (.inr ⟨rfl, rfl⟩))

theorem callFn_sound {E : Env} {P : Program} (hR : RunOk E P) {ex : Exec} (hex : ExecOk E P ex) (f : FuncId) {g : FuncId} {args : List AVal} {σ : Store} {x : AVal} {σ' : Store} (h : callF E ex f (.fn g) args σ = some (x, σ')) {w0 w : World} {κ : Kn} {vs : Array Value} (hw : WR w0 κ σ w) (hG : GlobOk E κ) (hl : LR κ args vs) :
    CallNext P g vs w (Left w0 κ σ x σ') ∧ (E.prim g = none → CallEnter P g vs w (Left w0 κ σ x σ')) := by
  unfold callF at h
  simp only [Option.bind_eq_bind] at h
  -- the result
  have tail2 : ∀ (v : AVal) (σ2 : Store) (κ1 : Kn) (σ1 : Store), (if (E.pol f g).res = true then some (v, σ2) else sealV 8 σ2 v) = some (x, σ') → Ext σ.next κ κ1 → σ.next ≤ σ1.next → ∀ rv w', Left w0 κ1 σ1 v σ2 rv w' → Left w0 κ σ x σ' rv w' := fun v σ2 κ1 σ1 h he hnx rv w' hleft => by
    obtain ⟨κ2, l1, l2, l3, l4⟩ := hleft
    split at h
    · cases h
      exact ⟨κ2, l1, l2, he.trans l3 hnx, by omega⟩
    · obtain ⟨κ3, s1, s2, s3, s4⟩ := sealV_sound 8 _ _ _ _ h w0 w' κ2 rv l2 l1
      exact ⟨κ3, s3, s2, (he.trans l3 hnx).trans s1 (by omega), by omega⟩
  have tail : ∀ (l : List AVal) (σ1 : Store) (κ1 : Kn), (match E.prim g with
      | some pr => (pr l σ1).bind fun __x => if (E.pol f g).res = true then some (__x.fst, __x.snd) else sealV 8 __x.snd __x.fst
      | none => (enter E ex g l σ1).bind fun __x => if (E.pol f g).res = true then some (__x.fst, __x.snd) else sealV 8 __x.snd __x.fst) = some (x, σ') →
      Ext σ.next κ κ1 → σ.next ≤ σ1.next → WR w0 κ1 σ1 w → LR κ1 l vs → CallNext P g vs w (Left w0 κ σ x σ') ∧ (E.prim g = none → CallEnter P g vs w (Left w0 κ σ x σ')) := fun l σ1 κ1 h he hnx hw1 hl1 => by
    split at h
    · rename_i pr hpr
      obtain ⟨⟨v, σ2⟩, hv, h⟩ := Option.bind_eq_some_iff.1 h
      exact ⟨(hR.prim g pr hpr _ _ _ _ hv w0 w κ1 vs hw1 (hG.mono he.le) hl1).mono (tail2 v σ2 κ1 σ1 h he hnx), fun hn => by rw [hn] at hpr; cases hpr⟩
    · obtain ⟨⟨v, σ2⟩, hv, h⟩ := Option.bind_eq_some_iff.1 h
      have key := (enter_sound hR hex hv hw1 (hG.mono he.le) hl1).mono (tail2 v σ2 κ1 σ1 h he hnx)
      exact ⟨.inr key, fun _ => key⟩
  split at h
  · exact tail args σ κ h (Ext.refl _ _) (Nat.le_refl _) hw hl
  · obtain ⟨⟨l, σ1⟩, hs, h⟩ := Option.bind_eq_some_iff.1 h
    obtain ⟨κ1, s1, s2, s3, s4⟩ := sealArgs_sound hs hw hl
    exact tail l σ1 κ1 h s1 (by omega) s2 s3
theorem callF_sound {E : Env} {P : Program} (hR : RunOk E P) {ex : Exec} (hex : ExecOk E P ex) (f : FuncId) : CallerOk E P (callF E ex f) :=
  ⟨fun _ _ _ _ _ h _ _ _ _ hw hG hl => (callFn_sound hR hex f h hw hG hl).1, fun _ _ _ _ _ h _ _ _ _ _ hw hG hl hp => round_sound hex h hw hG hl hp⟩

theorem Ends.trans {w0 : World} {κ κ1 : Kn} {σ σ1 : Store} {e : Ex} {tm' : List AVal} {σ' : Store} {ds ds' : List Deferred} {e' : Exit} {a' : Act} {w' : World} (h : Ends w0 κ1 σ1 e tm' σ' ds' e' a' w') (he : Ext σ.next κ κ1) (hn : σ.next ≤ σ1.next) (hd : Marks κ κ1 ds ds') : Ends w0 κ σ e tm' σ' ds e' a' w' := by
  obtain ⟨h1, κ', h2, h3, h4, h5, h6⟩ := h
  exact ⟨h1, κ', h2, h3, he.trans h4 hn, by omega, hd.trans h6 he.mark h4.mark⟩

/-- Loops, round by round. -/
def LoopsOk (E : Env) (P : Program) (k : Nat) (ex : Exec) : Prop :=
  ∀ f c tm σ e tm' σ', ex f (.loop c) tm σ = some (e, tm', σ') → codeOk E f c = true → ∀ (ro : Option Nat), (ro = none ∨ noRange c = true) → ∀ (w0 w : World) (κ : Kn) (a : Act), WR w0 κ σ w → GlobOk E κ → FR κ tm a → Code.roundsIn (Wide ro) 0 P c (Ends w0 κ σ e tm' σ' a.defers) k a w
theorem rounds_mono {ro : Option Nat} {P : Program} {c : Code} {Q Q' : Exit → Act → World → Prop} (h : ∀ e a w, Q e a w → Q' e a w) : ∀ (k : Nat) (a : Act) (w : World), Code.roundsIn (Wide ro) 0 P c Q k a w → Code.roundsIn (Wide ro) 0 P c Q' k a w
  | 0, a, w, hh => hh
  | k + 1, a, w, hh => by
    rw [roundsIn_succ] at hh ⊢
    refine wpIn_mono hh fun e a w he => ?_
    cases e <;> first | exact rounds_mono h k _ _ he | exact h _ _ _ he
theorem stepLoop_sound {E : Env} {P : Program} {k : Nat} {ex : Exec} (hex : ExecOk E P ex) (hlp : LoopsOk E P k ex) : LoopsOk E P (k + 1) (stepCode E ex) := by
  intro f c tm σ e tm' σ' h hok ro hro w0 w κ a hw hG hf
  simp only [stepCode, Option.bind_eq_bind] at h
  obtain ⟨⟨e1, tm1, σ1⟩, h1, h⟩ := Option.bind_eq_some_iff.1 h
  rw [roundsIn_succ]
  refine wpIn_mono (hex _ _ _ _ _ _ _ h1 hok ro hro w0 w κ a hw hG hf) fun e' a' w' hend => ?_
  have hend' := hend
  obtain ⟨his, κ1, d1, d2, d3, d4, d5⟩ := hend'
  cases e1 with
  | normal =>
    cases e' <;> first | exact his.elim | skip
    exact rounds_mono (fun e2 a2 w2 hend => hend.trans d3 d4 d5) k _ _ (hlp _ _ _ _ _ _ _ h hok ro hro w0 w' κ1 a' d2 (hG.mono d3.le) d1)
  | exit id =>
    cases e' <;> first | exact his.elim | skip
    cases h
    exact hend
  | ret =>
    cases e' <;> first | exact his.elim | skip
    cases h
    exact hend

/-- A record of a range over a function is laid. -/
theorem WRo.newLoop {w0 : World} {κ : Kn} {own : Nat → Nat → Option Nat} {σ : Store} {w : World} (hw : WRo w0 κ own σ w) (l : ALoop) (r : Loop) (hl : LoopR κ l r) :
    ∃ κ' p, Ext σ.next κ κ' ∧ WR w0 κ' (σ.new (.loop l)) (w.alloc (.loop r)) ∧ κ'.base σ.next = some p ∧ p.block = w.heap.size := by
  let p : Place := ⟨w.heap.size, 0, 0, 0⟩
  have hx := Kn.ext_with (p := p) (hw.fresh σ.next (Nat.le_refl _)) (Nat.le_refl σ.next)
  exact ⟨κ.with σ.next p, p, hx, ⟨_, hw.new (.loop r) p rfl (fun _ => true) (.loop l) (.loop l r p (Kn.base_with _ _ _) (heap_new _ _) ⟨hl.tm.mono hx.le, hl.ps, hl.assign, hl.body, hl.oka, hl.okb, hl.busy, hl.free⟩ (by simp [ownNew, p]))⟩, Kn.base_with _ _ _, rfl⟩

theorem range_sound {E : Env} {P : Program} (hR : RunOk E P) {ex : Exec} (hex : ExecOk E P ex) {f : FuncId} {g : Operand} {ps : Array Tmp} {assign body : Code} {tm tm' : List AVal} {σ σ' : Store} {e : Ex}
    (h : stepCode E ex f (.rangeFunc g ps assign body) tm σ = some (e, tm', σ')) (hok : codeOk E f (.rangeFunc g ps assign body) = true) {w0 w : World} {κ : Kn} {a : Act} (hw : WR w0 κ σ w) (hG : GlobOk E κ) (hf : FR κ tm a) :
    (Code.rangeFunc g ps assign body).wpIn (Wide none) 0 P (Ends w0 κ σ e tm' σ' a.defers) a w := by
  simp only [stepCode, Option.bind_eq_bind] at h
  obtain ⟨gv, hgv, h⟩ := Option.bind_eq_some_iff.1 h
  split at h
  case h_2 => cases h
  rename_i hh first caps
  split at h
  case isTrue => cases h
  rename_i hprim
  have hprim : E.prim hh = none := by
    cases hc : E.prim hh with
    | none => rfl
    | some p => rw [hc] at hprim; exact absurd rfl hprim
  obtain ⟨⟨v, σ1⟩, hcall, h⟩ := Option.bind_eq_some_iff.1 h
  simp only at h
  simp only [codeOk, Bool.and_eq_true] at hok
  have hv := eval_sound hG hf hgv
  generalize hc : a.eval g = c at hv
  cases hv with
  | func _ _ _ us vs hu hv h1 h2 =>
  refine wpIn_range hc fun fn w₁ hw₁ => ?_
  subst hw₁
  obtain ⟨own, hwo⟩ := hw
  have hm := hwo.newMark
  have hx1 : Ext σ.next κ (κ.withMark w.heap.size) := ⟨⟨fun _ _ h => h, fun _ _ _ h => h, rfl, rfl, rfl, rfl, fun _ _ _ h => .inl h⟩, fun _ _ => rfl, fun b hb => by
    show (κ.mark b || b == w.heap.size) = true
    rw [hb]; rfl⟩
  obtain ⟨κ2, p, hx2, hw2, hp, hpb⟩ := hm.newLoop { fn := f, tm, ps, assign, body, busy := false, jump := .none } { state := .ready, pending := none, fn, tmps := a.tmps, params := ps, assign, body, defers := w.heap.size }
    ⟨hf.mono hx1.le, rfl, rfl, rfl, (hG.code _ _).2 ⟨hok.1.1.1, hok.1.2⟩, (hG.code _ _).2 ⟨hok.1.1.2, hok.2⟩, fun h => (by cases h), fun _ => ⟨rfl, rfl⟩⟩
  have hsize : (w.alloc (.deferred (some []))).heap.size = w.heap.size + 1 := by simp
  have hx : Ext σ.next κ κ2 := hx1.trans hx2 (Nat.le_refl _)
  have hy : VR κ2 (.yield σ.next) (.func (.yield (w.heap.size + 1)) #[] #[]) := by
    have := VR.yield (κ := κ2) σ.next p hp
    rwa [hpb, hsize] at this
  have hargs : LR κ2 (first ++ [.yield σ.next] ++ caps) (us ++ #[.func (.yield (w.heap.size + 1)) #[] #[]] ++ vs) := by
    refine LR.append (LR.append ⟨hu, fun j y hj => (h1 j y hj).mono hx.le⟩ ⟨rfl, fun j y hj => ?_⟩) ⟨hv, fun j y hj => (h2 j y hj).mono hx.le⟩
    match j with
    | 0 => simp at hj; subst hj; exact hy
    | j + 1 => simp at hj
  obtain ⟨he1, he2⟩ := (callFn_sound hR hex f hcall hw2 (hG.mono hx.le) hargs).2 hprim
  refine ⟨he1, Calls.mono he2 fun en w₃ hen => ?_⟩
  cases en with
  | panicked c => exact hen.elim
  | outgrown => exact hen.elim
  | returned rv =>
  obtain ⟨κ3, _, hw3, hx3, hn3⟩ := hen
  have hn3' : σ.next + 1 ≤ σ1.next := by simpa using hn3
  unfold afterLoop at h
  simp only [Option.bind_eq_bind] at h
  obtain ⟨l, hl, h⟩ := Option.bind_eq_some_iff.1 h
  split at h
  · cases h
  rename_i hbusy
  have hbusy : l.busy = false := by cases hb : l.busy <;> simp_all
  have hp3 : κ3.base σ.next = some p := by rw [hx3.base σ.next (by simp)]; exact hp
  obtain ⟨own3, hwo3⟩ := hw3
  obtain ⟨hg3, r, hr, hlr, ho⟩ := loop_object hwo3 hl hp3
  have hfree := hlr.free hbusy
  rw [hpb, hsize] at hr
  have hnb : r.state ≠ .busy := by
    cases hj : l.jump <;> rw [hj] at hfree <;> rw [hfree.1] <;> simp
  have hdel : WR w0 κ3 (σ1.del σ.next) (World.putBlock w₃ (w.heap.size + 1) (.loop { r with state := .exhausted })) := by
    rw [hpb, hsize] at ho
    have := hwo3.putBare (b := w.heap.size + 1) (ob' := .itof 0) hg3 ho hr rfl (o' := .loop { r with state := .exhausted }) rfl (.itof 0)
    refine WR.drop (σ := σ1.put σ.next (.itof 0)) ⟨own3, this⟩ (fun i ob hi => ?_) rfl
    rw [Store.get_del] at hi
    rw [Store.get_put]
    split at hi
    · cases hi
    · rename_i hne; rw [if_neg hne]; exact hi
  have hxx : Ext σ.next κ κ3 := hx.trans hx3 (by simp)
  have hends : ∀ (e : Ex) (e' : Exit), e.is e' → Ends w0 κ σ e tm (σ1.del σ.next) a.defers e' { a with defers := mk w.heap.size :: a.defers } (World.putBlock w₃ (w.heap.size + 1) (.loop { r with state := .exhausted })) := fun e e' he => by
    refine ⟨he, κ3, hf.mono hxx.le, hdel, hxx, by simp; omega, [w.heap.size], rfl, by simp, fun b hb => ?_⟩
    simp only [List.mem_singleton] at hb
    subst hb
    refine ⟨hx3.mark _ (hx2.mark _ (by show (κ.mark _ || _) = true; simp)), ?_⟩
    cases hcm : κ.mark w.heap.size with
    | false => rfl
    | true => have := (Array.getElem?_eq_some_iff.1 (hwo.marks _ hcm).1).1; omega
  refine ⟨r.pending, _, run_endL hr hnb, ?_⟩
  clear hdel
  generalize World.putBlock w₃ (w.heap.size + 1) (.loop { r with state := .exhausted }) = w₄ at hends ⊢
  split at h <;> rename_i hj <;> rw [hj] at hfree <;> rw [hfree.2] <;> cases h
  · exact hends .normal .normal trivial
  · exact hends (.exit _) (.exit _) rfl
  · exact hends .ret .ret trivial

theorem stepCode_sound {E : Env} {P : Program} (hR : RunOk E P) {k : Nat} {ex : Exec} (hex : ExecOk E P ex) (hlp : LoopsOk E P k ex) (hfx : ExecFr ex) : ExecOk E P (stepCode E ex) := by
  intro f c tm σ e tm' σ' h hok ro hro w0 w κ a hw hG hf
  have here : ∀ e e', Ex.is e e' → Ends w0 κ σ e tm σ a.defers e' a w := fun e e' he => ⟨he, κ, hf, hw, Ext.refl _ _, Nat.le_refl _, Marks.refl _ _ _⟩
  have h0 := h
  unfold stepCode at h
  split at h
  · cases h; exact wpIn_skip (here _ _ trivial)
  · cases h; exact wpIn_label (here _ _ trivial)
  · rename_i id ops draw
    simp only [Option.map_eq_some_iff] at h
    obtain ⟨⟨tm1, σ1⟩, hr, h⟩ := h
    cases h
    cases draw with
    | false =>
      simp only [runRegion, Bool.false_eq_true, if_false] at hr
      exact wpIn_region (runOps_sound hR.env (callF_sound hR hex f) ro _ _ _ _ _ hr κ w a hw hG hf fun a' w' hd => .of trivial hd)
    | true =>
      simp only [codeOk] at hok
      split at hok
      · rename_i p hp
        exact drawn_sound ro hR.env (callF_sound hR hex f) (callF_frame hR.primFr hfx f) hp hok hr hw hG hf fun a' w' hd => .of trivial hd
      · cases hok
  · rename_i c1 c2
    simp only [codeOk, Bool.and_eq_true] at hok
    simp only [Option.bind_eq_bind] at h
    obtain ⟨⟨e1, tm1, σ1⟩, h1, h⟩ := Option.bind_eq_some_iff.1 h
    have hro1 : ro = none ∨ noRange c1 = true := hro.imp id fun h => by simp only [noRange, Bool.and_eq_true] at h; exact h.1
    have hro2 : ro = none ∨ noRange c2 = true := hro.imp id fun h => by simp only [noRange, Bool.and_eq_true] at h; exact h.2
    refine wpIn_seq (wpIn_mono (hex _ _ _ _ _ _ _ h1 hok.1 ro hro1 w0 w κ a hw hG hf) fun e' a' w' hend => ?_)
    have hend' := hend
    obtain ⟨his, κ1, d1, d2, d3, d4, d5⟩ := hend'
    simp only at h
    cases e1 with
    | normal =>
      cases e' <;> first | exact his.elim | skip
      simp only at h
      exact wpIn_mono (hex _ _ _ _ _ _ _ h hok.2 ro hro2 w0 w' κ1 a' d2 (hG.mono d3.le) d1) fun e2 a2 w2 hend => hend.trans d3 d4 d5
    | exit id =>
      cases e' <;> first | exact his.elim | skip
      cases h
      exact hend
    | ret =>
      cases e' <;> first | exact his.elim | skip
      cases h
      exact hend
  · rename_i x c1 c2
    simp only [codeOk, Bool.and_eq_true] at hok
    simp only [Option.bind_eq_bind] at h
    obtain ⟨v, hv, h⟩ := Option.bind_eq_some_iff.1 h
    split at h
    case h_2 => cases h
    rename_i t
    have hx := eval_sound hG hf hv
    have hxv : a.eval x = .bool t := by
      generalize a.eval x = c at hx
      cases hx; rfl
    have hro1 : ro = none ∨ noRange c1 = true := hro.imp id fun h => by simp only [noRange, Bool.and_eq_true] at h; exact h.1
    have hro2 : ro = none ∨ noRange c2 = true := hro.imp id fun h => by simp only [noRange, Bool.and_eq_true] at h; exact h.2
    refine wpIn_cond hxv ?_
    cases t with
    | true => exact hex _ _ _ _ _ _ _ h hok.1 ro hro1 w0 w κ a hw hG hf
    | false => exact hex _ _ _ _ _ _ _ h hok.2 ro hro2 w0 w κ a hw hG hf
  · rename_i id c1
    simp only [codeOk] at hok
    simp only [noRange] at hro
    simp only [Option.bind_eq_bind] at h
    obtain ⟨⟨e1, tm1, σ1⟩, h1, h⟩ := Option.bind_eq_some_iff.1 h
    simp only [Option.some.injEq, Prod.mk.injEq] at h
    obtain ⟨rfl, rfl, rfl⟩ := h
    refine wpIn_block (wpIn_mono (hex _ _ _ _ _ _ _ h1 hok ro hro w0 w κ a hw hG hf) fun e' a' w' hend => ?_)
    obtain ⟨his, hd⟩ := hend
    cases e1 with
    | normal =>
      cases e' <;> first | exact his.elim | skip
      exact ⟨trivial, hd⟩
    | exit id' =>
      cases e' <;> first | exact his.elim | skip
      rename_i id2
      have his : id' = id2 := his
      subst his
      simp only [Exit.inBlock]
      by_cases e : id' = id
      · subst e
        rw [if_pos rfl, if_pos rfl]
        exact ⟨trivial, hd⟩
      · rw [if_neg e, if_neg (fun h => e (by cases h; rfl))]
        exact ⟨rfl, hd⟩
    | ret =>
      cases e' <;> first | exact his.elim | skip
      exact ⟨trivial, hd⟩
  · rename_i c1
    simp only [codeOk] at hok
    simp only [noRange] at hro
    exact wpIn_loop_rounds (k + 1) (stepLoop_sound hex hlp f c1 tm σ e tm' σ' (by simpa only [stepCode] using h) hok ro hro w0 w κ a hw hG hf)
  · rename_i c1
    simp only [codeOk] at hok
    simp only [noRange] at hro
    refine wpIn_scope_straight (wpIn_mono (hex _ _ _ _ _ _ _ h hok ro hro w0 w κ a hw hG hf) fun e' a' w' hend => ?_)
    obtain ⟨his, hd⟩ := hend
    cases e <;> cases e' <;> first | exact his.elim | exact ⟨his, hd⟩
  · cases h; exact wpIn_exit (here _ _ rfl)
  · cases h; exact wpIn_ret (here _ _ trivial)
  · rcases hro with rfl | hro
    · exact range_sound hR hex h0 hok hw hG hf
    · cases hro
  · cases h

theorem exec_both {E : Env} {P : Program} (hR : RunOk E P) : ∀ k, ExecOk E P (exec E k) ∧ LoopsOk E P k (exec E k)
  | 0 => ⟨fun f c tm σ e tm' σ' h => (by cases h), fun f c tm σ e tm' σ' h => (by cases h)⟩
  | k + 1 => ⟨stepCode_sound hR (exec_both hR k).1 (exec_both hR k).2 (exec_frame hR.primFr k), stepLoop_sound (exec_both hR k).1 (exec_both hR k).2⟩
theorem exec_sound {E : Env} {P : Program} (hR : RunOk E P) (k : Nat) : ExecOk E P (exec E k) := (exec_both hR k).1

/-- THE MACHINE IS SOUND: what it says of a call is so. -/
theorem acall_sound {E : Env} {P : Program} (hR : RunOk E P) {k : Nat} {f g : FuncId} {args : List AVal} {σ σ' : Store} {x : AVal} (h : acall E k f g args σ = some (x, σ')) {w0 w : World} {κ : Kn} {vs : Array Value} (hw : WR w0 κ σ w) (hG : GlobOk E κ) (hl : LR κ args vs) :
    CallNext P g vs w (Left w0 κ σ x σ') := (callFn_sound hR (exec_sound hR k) f h hw hG hl).1

end Go.Ab

namespace Go.Ab

def cellsA (v : Value) : Option (List AVal) := ofCellList v.cells.toList
/-- Cells that are compared one by one: numbers, bools, texts. -/
def plainKnd : TypeDesc → Option Nat
  | .bool => some 0
  | .int _ => some 1
  | .string => some 2
  | _ => none
/-- The kinds of a structure's fields, which lie one behind the other. -/
def kndsOf (P : Program) : Nat → List Field → Option (List Nat)
  | _, [] => some []
  | i, f :: fs =>
    if f.offset = i ∧ (f.name == "_") = false then do
      let d ← P.underlying f.type
      let k ← plainKnd d
      let l ← kndsOf P (i + 1) fs
      some (k :: l)
    else none
def tabOf (P : Program) : Tab where
  und := fun t => if t < P.types.size then P.underlying t else none
  size := fun t => if t < P.types.size then P.cellsOf t else 0
  bytes := fun t => P.bytesOf t
  zero := fun t => if t < P.types.size then (P.info? t).bind fun i => i.zero.bind cellsA else none
  eqs := fun t => if t < P.types.size then match P.underlying t with
    | some (.struct fs) => if P.stoodInHeld t then none else kndsOf P 0 fs.toList
    | _ => none
    else none

/-- What is asked of each type. -/
def typeB (P : Program) (t : TypeId) : Bool :=
  let inT (u : TypeId) : Bool := decide (u < P.types.size) && (P.underlying u).isSome
  match P.info? t, P.underlying t with
  | some i, some d =>
    (match d with
     | .struct fs => fs.toList.all fun f => inT f.type
     | .array _ e => inT e
     | .slice e => inT e
     | _ => true) &&
    (match i.zero with
     | some v => match cellsA v with
       | some z => decide (z.length = i.size) && (match v with | .agg _ => isAgg d | _ => !isAgg d)
       | none => true
     | none => true) &&
    (match d with
     | .struct _ => !P.eqGuardType P.depth t
     | _ => true)
  | _, _ => false
def tabB (P : Program) : Bool := (List.range P.types.size).all (typeB P)

theorem ofCell_one {v : Value} {x : AVal} (h : ofCell v = some x) : x.one = true := by
  unfold ofCell at h
  split at h <;> cases h <;> rfl
theorem ofCellList_one : ∀ {vs : List Value} {xs : List AVal}, ofCellList vs = some xs → xs.all AVal.one = true
  | [], xs, h => by cases h; rfl
  | v :: vs, xs, h => by
    simp only [ofCellList, Option.bind_eq_bind] at h
    obtain ⟨a, ha, h⟩ := Option.bind_eq_some_iff.1 h
    obtain ⟨l, hl, h⟩ := Option.bind_eq_some_iff.1 h
    cases h
    simp only [List.all_cons, ofCell_one ha, ofCellList_one hl, Bool.and_self]

theorem eqFields_plain {P : Program} {d : Nat} {w : World} {xs ys : Array Value} : ∀ (fs : List Field) (i : Nat) (ks : List Nat) (r : Bool), kndsOf P i fs = some ks → (xs.toList.drop i).map valueKnd = ks → eqCellsV (xs.toList.drop i) (ys.toList.drop i) = some r →
    (Op.eqFields (d + 1) xs ys fs).run P w = .ok r w
  | [], i, ks, r, h, hk, he => by
    cases h
    have : xs.toList.drop i = [] := by simpa using hk
    rw [this] at he
    cases hy : ys.toList.drop i with
    | nil => rw [hy] at he; cases he; rfl
    | cons b bs => rw [hy] at he; cases he
  | f :: fs, i, ks, r, h, hk, he => by
    unfold kndsOf at h
    split at h
    case isFalse => cases h
    rename_i hc
    obtain ⟨hoff, hname⟩ := hc
    simp only [Option.bind_eq_bind] at h
    obtain ⟨dd, hd, h⟩ := Option.bind_eq_some_iff.1 h
    obtain ⟨k, hkk, h⟩ := Option.bind_eq_some_iff.1 h
    obtain ⟨l, hl, h⟩ := Option.bind_eq_some_iff.1 h
    cases h
    cases hx : xs.toList.drop i with
    | nil => rw [hx] at hk; cases hk
    | cons a as =>
    rw [hx] at hk he
    simp only [List.map_cons, List.cons.injEq] at hk
    cases hy : ys.toList.drop i with
    | nil => rw [hy] at he; cases he
    | cons b bs =>
    rw [hy] at he
    simp only [eqCellsV, Option.bind_eq_bind] at he
    obtain ⟨x, hxx, he⟩ := Option.bind_eq_some_iff.1 he
    obtain ⟨y, hyy, he⟩ := Option.bind_eq_some_iff.1 he
    cases he
    have has : xs.toList.drop (i + 1) = as := by rw [← List.drop_drop, hx]; rfl
    have hbs : ys.toList.drop (i + 1) = bs := by rw [← List.drop_drop, hy]; rfl
    have ih := eqFields_plain (w := w) (d := d) (xs := xs) (ys := ys) fs (i + 1) l y hl (by rw [has]; exact hk.2) (by rw [has, hbs]; exact hyy)
    have hxa : xs[i]? = some a := by
      have := congrArg (fun l => l[0]?) hx
      simpa using this
    have hya : ys[i]? = some b := by
      have := congrArg (fun l => l[0]?) hy
      simpa using this
    have hag : isAgg dd = false := by cases dd <;> first | rfl | cases hkk
    have hpart : ∀ (zs : Array Value) (z : Value), zs[i]? = some z → (part f.type zs f.offset).run P w = .ok z w := fun zs z hz => by
      have hag' : (Go.isAgg f.type).run P w = .ok false w := by
        simp only [Go.isAgg, Sem.run_bind, run_underlying hd, Result.andThen_ok]
        cases dd <;> first | rfl | cases hag
      unfold part
      rw [Sem.run_bind, hag']
      simp [hoff, hz]
    have heq : (Op.equalIn (d + 1) f.type a b).run P w = .ok x w := by
      have h1 := hk.1
      unfold eqCellV at hxx
      split at hxx
      · cases hxx
        cases dd <;> first | (cases hkk; done) | skip
        · exact run_equalIn_bool' w d f.type _ _ hd
        · cases hkk; cases h1
        · cases hkk; cases h1
      · split at hxx
        · rename_i e
          subst e
          cases hxx
          cases dd <;> first | (cases hkk; done) | skip
          · cases hkk; cases h1
          · exact run_equalIn_int w d f.type _ _ _ _ hd
          · cases hkk; cases h1
        · cases hxx
      · cases hxx
        cases dd <;> first | (cases hkk; done) | skip
        · cases hkk; cases h1
        · cases hkk; cases h1
        · exact run_equalIn_string w d f.type _ _ hd
      · cases hxx
    have hn : f.name ≠ "_" := fun e => by rw [e] at hname; simp at hname
    simp only [Op.eqFields, hn, ne_eq, not_false_eq_true, if_true, Sem.run_bind, hpart xs a hxa, hpart ys b hya, heq, Result.andThen_ok]
    cases x
    · simp
    · simp [ih]

theorem tab_ok {P : Program} (h : tabB P = true) : TabOk (tabOf P) P := by
  have hB : ∀ t, t < P.types.size → typeB P t = true := fun t ht => List.all_eq_true.1 h t (List.mem_range.2 ht)
  have guard : ∀ {α : Type} {t : TypeId} {o : Option α} {x : α}, (if t < P.types.size then o else none) = some x → t < P.types.size ∧ o = some x := fun {α t o x} h => by
    split at h
    · exact ⟨by assumption, h⟩
    · cases h
  have inf : ∀ t, t < P.types.size → ∃ i d, P.info? t = some i ∧ P.underlying t = some d := fun t ht => by
    have := hB t ht
    unfold typeB at this
    split at this
    · rename_i i d h1 h2; exact ⟨i, d, h1, h2⟩
    · cases this
  have inT : ∀ u, (decide (u < P.types.size) && (P.underlying u).isSome) = true → ((tabOf P).und u).isSome = true := fun u hu => by
    simp only [Bool.and_eq_true, decide_eq_true_eq] at hu
    simp only [tabOf, hu.1, if_true]
    exact hu.2
  refine ⟨fun t d hd => ?_, fun t ht => ?_, fun t fs hd f hf => ?_, fun t n e hd => ?_, fun t e hd => ?_, fun t z hz => ?_, fun t ks hk => ?_⟩
  · obtain ⟨hlt, hd⟩ := guard hd
    obtain ⟨i, d', h1, h2⟩ := inf t hlt
    refine ⟨hd, i, h1, ?_, ?_⟩
    · simp [tabOf, hlt, Program.cellsOf, h1]
    · simp [tabOf, Program.bytesOf, h1]
  · simp only [tabOf] at ht ⊢
    split at ht
    · rename_i hlt
      rw [if_pos hlt]
      obtain ⟨i, d, h1, h2⟩ := inf t hlt
      rw [h2]; rfl
    · exact absurd rfl ht
  · obtain ⟨hlt, hd⟩ := guard hd
    obtain ⟨i, d', h1, h2⟩ := inf t hlt
    rw [hd] at h2; cases h2
    have := hB t hlt
    simp only [typeB, h1, hd, Bool.and_eq_true, List.all_eq_true] at this
    exact inT _ (by simpa using this.1.1 f hf)
  · obtain ⟨hlt, hd⟩ := guard hd
    obtain ⟨i, d', h1, h2⟩ := inf t hlt
    rw [hd] at h2; cases h2
    have := hB t hlt
    simp only [typeB, h1, hd, Bool.and_eq_true] at this
    exact inT _ (by simpa using this.1.1)
  · obtain ⟨hlt, hd⟩ := guard hd
    obtain ⟨i, d', h1, h2⟩ := inf t hlt
    rw [hd] at h2; cases h2
    have := hB t hlt
    simp only [typeB, h1, hd, Bool.and_eq_true] at this
    exact inT _ (by simpa using this.1.1)
  · obtain ⟨hlt, hz⟩ := guard hz
    obtain ⟨i, d, h1, h2⟩ := inf t hlt
    simp only [h1, Option.bind_some] at hz
    obtain ⟨v, hv, hz⟩ := Option.bind_eq_some_iff.1 hz
    have := hB t hlt
    simp only [typeB, h1, h2, hv, hz, Bool.and_eq_true, decide_eq_true_eq] at this
    obtain ⟨⟨_, h3, h4⟩, _⟩ := this
    have hsz : (tabOf P).size t = i.size := by simp [tabOf, hlt, Program.cellsOf, h1]
    refine ⟨i, v, d, h1, hv, hsz.symm, by rw [hsz]; exact h3, ofCellList_one hz, fun κ => ?_, by simp [tabOf, hlt, h2], fun ha => ?_, fun ha => ?_⟩
    · obtain ⟨k1, k2⟩ := ofCellList_sound hz κ
      exact LR.of (by simpa using k1) fun j y hy => by simpa using k2 j y hy
    · rw [ha] at h4
      cases v <;> first | rfl | (simp at h4; done)
    · rw [ha] at h4
      cases v <;> first | rfl | (simp at h4; done)
  · obtain ⟨hlt, hk⟩ := guard hk
    obtain ⟨i, d, h1, h2⟩ := inf t hlt
    rw [h2] at hk
    split at hk
    case h_2 => cases hk
    rename_i fs hd
    cases hd
    split at hk
    · cases hk
    rename_i hst
    have := hB t hlt
    simp only [typeB, h1, h2, Bool.and_eq_true, Bool.not_eq_true'] at this
    refine ⟨this.2, fun xs ys r w hkx _ _ he => ?_⟩
    have hf : P.fieldsOf t = fs := by simp [Program.fieldsOf, h2]
    rw [run_equalIn_agg w 9999 t xs ys (by rw [hf]; exact h2) (by simpa using hst), hf]
    exact eqFields_plain (d := 9998) fs.toList 0 ks r hk (by simpa using hkx) (by simpa using he)

end Go.Ab

namespace Go.Ab

def fnB (P : Program) (plan : Nat → Option Plan) (F : Func) : Bool :=
  !(F.name == "runtime.NumGoroutine") && match F.body with
  | some c => go c
  | none => true
where
  go : Code → Bool
  | .region id ops true => match plan id with | some p => planOk (tabOf P) ops p | none => false
  | .seq a b | .cond _ a b => go a && go b
  | .block _ b | .loop b | .scope b => go b
  | .rangeFunc _ _ a b => go a && go b && noRange a && noRange b
  | _ => true
/-- The program's functions have good names and good plans: asked function by function. -/
def fnsB (P : Program) (plan : FuncId → Nat → Option Plan) (lo hi : Nat) : Bool :=
  (List.range (hi - lo)).all fun i => match P.funcs[lo + i]? with
    | some F => fnB P (plan (lo + i)) F
    | none => true

/-- What stands for slices and numbers that are not written out. -/
structure Hidden where
  hid : Nat → List AVal := fun _ => []
  hint : Nat → Int := fun _ => 0
  orc : BinOp → AVal → AVal → Option AVal := fun _ _ _ => none
  hlen : Nat → Option Nat := fun _ => none
  hidx : Nat → Int → Option Nat := fun _ _ => none
  hidh : Nat → Nat → Option Nat := fun _ _ => none
def envOf (P : Program) (n : Nat) (plan : FuncId → Nat → Option Plan) (pol : FuncId → FuncId → Pol) (glob : Nat → Option (List AVal)) (prim : FuncId → Option (List AVal → Store → Option (AVal × Store))) (H : Hidden) : Env where
  T := tabOf P
  fn := fun f => if f < n then P.funcs[f]? else none
  prim := prim
  glob := glob
  pol := pol
  plan := plan
  hid := H.hid
  hint := H.hint
  orc := H.orc
  hlen := H.hlen
  hidx := H.hidx
  hidh := H.hidh

theorem go_ok {P : Program} {n : Nat} {plan : FuncId → Nat → Option Plan} {pol : FuncId → FuncId → Pol} {glob : Nat → Option (List AVal)} {prim : FuncId → Option (List AVal → Store → Option (AVal × Store))} {H : Hidden} {f : FuncId} : ∀ {c : Code}, fnB.go P (plan f) c = true → codeOk (envOf P n plan pol glob prim H) f c = true := by
  intro c
  induction c with
  | region id ops draw => cases draw <;> exact fun h => h
  | seq a b iha ihb =>
    intro h
    simp only [fnB.go, codeOk, Bool.and_eq_true] at h ⊢
    exact ⟨iha h.1, ihb h.2⟩
  | cond x a b iha ihb =>
    intro h
    simp only [fnB.go, codeOk, Bool.and_eq_true] at h ⊢
    exact ⟨iha h.1, ihb h.2⟩
  | block id b ih => intro h; simp only [fnB.go, codeOk] at h ⊢; exact ih h
  | loop b ih => intro h; simp only [fnB.go, codeOk] at h ⊢; exact ih h
  | scope b ih => intro h; simp only [fnB.go, codeOk] at h ⊢; exact ih h
  | rangeFunc g ps a b iha ihb =>
    intro h
    simp only [fnB.go, codeOk, Bool.and_eq_true] at h ⊢
    exact ⟨⟨⟨iha h.1.1.1, ihb h.1.1.2⟩, h.1.2⟩, h.2⟩
  | _ => intro _; rfl

theorem run_ok {P : Program} {n : Nat} {plan : FuncId → Nat → Option Plan} {pol : FuncId → FuncId → Pol} {glob : Nat → Option (List AVal)} {prim : FuncId → Option (List AVal → Store → Option (AVal × Store))} {H : Hidden}
    (ht : tabB P = true) (hf : ∀ f, f < n → ∀ F, P.funcs[f]? = some F → fnB P (plan f) F = true) (hm : P.follows .mixedOrders = true) (ho : OrcOk (envOf P n plan pol glob prim H)) (hp : PrimOk (envOf P n plan pol glob prim H) P) (hpf : PrimFr (envOf P n plan pol glob prim H)) :
    RunOk (envOf P n plan pol glob prim H) P := by
  have hfn : ∀ f F, (envOf P n plan pol glob prim H).fn f = some F → f < n ∧ P.funcs[f]? = some F := fun f F h => by
    have h : (if f < n then P.funcs[f]? else none) = some F := h
    split at h
    · exact ⟨by assumption, h⟩
    · cases h
  refine ⟨⟨tab_ok ht, fun f F h => (hfn f F h).2, hm, ho⟩, fun f F h => ?_, fun f F c h hc => ?_, hp, hpf⟩
  · obtain ⟨h1, h2⟩ := hfn f F h
    have := hf f h1 F h2
    simp only [fnB, Bool.and_eq_true, Bool.not_eq_true'] at this
    exact this.1
  · obtain ⟨h1, h2⟩ := hfn f F h
    have := hf f h1 F h2
    simp only [fnB, Bool.and_eq_true, hc] at this
    exact go_ok this.2

theorem fns_of {P : Program} {plan : FuncId → Nat → Option Plan} {lo hi : Nat} (h : fnsB P plan lo hi = true) {f : Nat} (h1 : lo ≤ f) (h2 : f < hi) {F : Func} (hF : P.funcs[f]? = some F) : fnB P (plan f) F = true := by
  have := List.all_eq_true.1 h (f - lo) (List.mem_range.2 (by omega))
  rw [show lo + (f - lo) = f by omega, hF] at this
  exact this

end Go.Ab

namespace Go.Ab
open Go.RowKit (Below)

abbrev Prim := List AVal → Store → Option (AVal × Store)
/-- A primitive is what a call of the function comes to. -/
def PrimIs (E : Env) (P : Program) (g : FuncId) (pr : Prim) : Prop := ∀ args σ x σ', pr args σ = some (x, σ') → ∀ (w0 w : World) (κ : Kn) (vs : Array Value), WR w0 κ σ w → GlobOk E κ → LR κ args vs → CallNext P g vs w (Left w0 κ σ x σ')
def PrimFrame (pr : Prim) : Prop := ∀ args σ x σ', pr args σ = some (x, σ') → ∀ X τ, Sub X σ τ → Fr X τ x σ' (pr args τ)

/-! maps.clone -/
def primClone : Prim
  | [.iface t (.map m)], σ => (mapEntries σ (.map m)).bind fun es => some (.iface t (.map σ.next), σ.new (.map es))
  | _, _ => none
theorem run_clone {P : Program} {w : World} {r : Nat} {es : Array MapEntry} {clock : Nat} (t : TypeId) (hb : w.heap[r]? = some (.map es clock)) :
    (Extern.MapsClone.clone #[.iface t (.map (some r))]).run P w = .ok (.iface t (.map (some w.heap.size))) (w.alloc (.map es clock)) := by
  have e : Extern.MapsClone.clone #[.iface t (.map (some r))] = (getObj r >>= fun o => match o with
      | .map entries clock => (newObj (.map entries clock) >>= fun n => pure (.iface t (.map (some n))))
      | _ => stuck "maps.clone: a map expected") := rfl
  rw [e]
  simp [Ab.run_getObj_map hb, run_newObj']
theorem primClone_is {E : Env} {P : Program} {g : FuncId} {fn : Func} (hf : P.funcs[g]? = some fn) (hname : (fn.name == "runtime.NumGoroutine") = false) (hb : fn.body.isNone = true) (hn : Extern.findNext fn = none) (he : Extern.find fn = some Extern.MapsClone.clone) :
    PrimIs E P g primClone := by
  intro args σ x σ' h w0 w κ vs hw hG hl
  unfold primClone at h
  split at h
  case h_2 => cases h
  rename_i t m
  obtain ⟨es, hes, h⟩ := Option.bind_eq_some_iff.1 h
  cases h
  have hv : vs = #[vs.getD 0 undef] := by
    have h1 : vs.size = 1 := hl.1
    obtain ⟨a, rfl⟩ := Array.size_eq_one_iff.1 h1
    rfl
  have h0 := hl.2 0 (.iface t (.map m)) rfl
  rw [hv]
  generalize vs.getD 0 undef = c at h0
  cases h0 with
  | iface _ _ u hu =>
  rcases mapEntries_sound hw hes hu with ⟨e, _⟩ | ⟨id, p, ms, clock, e, hp, rfl, hg, hb', he', hn'⟩
  · cases e
  cases e
  obtain ⟨own, hwo⟩ := hw
  let q : Place := ⟨w.heap.size, 0, 0, 0⟩
  have hx := Kn.ext_with (p := q) (hwo.fresh σ.next (Nat.le_refl _)) (Nat.le_refl σ.next)
  refine .inl ⟨_, _, by rw [run_callFunc_extern hf hname hb hn he, run_clone t hb']; rfl, κ.with σ.next q, .iface _ _ _ (.map σ.next q (Kn.base_with _ _ _)), ⟨_, hwo.new (.map ms clock) q rfl (fun _ => true) (.map es)
    (.map es q ms clock (Kn.base_with _ _ _) (heap_new _ _) ⟨he'.1, fun j e m h1 h2 => ⟨(he'.2 j e m h1 h2).1.mono hx.le, (he'.2 j e m h1 h2).2.mono hx.le⟩⟩ hn' (by simp [ownNew, q]))⟩, hx, by simp⟩
theorem primClone_frame : PrimFrame primClone := by
  intro args σ x σ' h X τ hx
  unfold primClone at h ⊢
  split at h
  case h_2 => cases h
  obtain ⟨es, hes, h⟩ := Option.bind_eq_some_iff.1 h
  rw [mapEntries_frame hx hes]
  cases h
  rw [Option.bind_some, ← hx.next]
  exact .new hx _

/-- What is known of a world, but of none of its new objects. -/
def Kn.bare (κ : Kn) (n : Nat) : Kn := { κ with base := fun _ => none, mark := fun _ => false, hid := fun _ => [], hint := fun _ => 0, lim := n }

/-! values that no object of the store is part of, and nothing hidden -/
mutual
def AVal.closed : AVal → Bool
  | .ptr _ _ | .oslice _ _ _ _ | .map _ | .yield _ | .hid _ | .hint _ => false
  | .rptr cs _ => AVal.closedL cs
  | .slice xs _ => AVal.closedL xs
  | .func _ a b => AVal.closedL a && AVal.closedL b
  | .iface _ v => AVal.closed v
  | .agg cs => AVal.closedL cs
  | .tuple cs => AVal.closedL cs
  | .bool _ | .int _ _ | .str _ | .nilptr | .nils | .nilmap | .nilfunc | .niliface => true
def AVal.closedL : List AVal → Bool
  | [] => true
  | a :: as => AVal.closed a && AVal.closedL as
end
theorem AVal.closedL_get : ∀ {as : List AVal} {j : Nat} {y : AVal}, AVal.closedL as = true → as[j]? = some y → AVal.closed y = true
  | [], j, y, _, e => by simp at e
  | a :: as, 0, y, h, e => by
    simp only [AVal.closedL, Bool.and_eq_true] at h
    cases e; exact h.1
  | a :: as, j + 1, y, h, e => by
    simp only [AVal.closedL, Bool.and_eq_true] at h
    exact AVal.closedL_get h.2 (by simpa using e)
theorem AVal.closed_cells {x : AVal} (h : AVal.closed x = true) {j : Nat} {y : AVal} (e : x.cells[j]? = some y) : AVal.closed y = true := by
  cases x with
  | agg cs => simp only [AVal.closed] at h; exact AVal.closedL_get h e
  | _ => exact AVal.closedL_get (as := [_]) (by simp only [AVal.closedL, h, Bool.and_true]) e
theorem VR.closed {κ κ' : Kn} (hk : ∀ b o v, κ.imm b o = some v → κ'.imm b o = some v) {x : AVal} {v : Value} (h : VR κ x v) (hx : AVal.closed x = true) : VR κ' x v := by
  induction h with
  | bool b => exact .bool b
  | int k n => exact .int k n
  | str s => exact .str s
  | nilptr => exact .nilptr
  | ptr id off p h => cases hx
  | rptr cs off b o f h1 h2 ih => exact .rptr cs off b o f (fun j hj => hk _ _ _ (h1 j hj)) fun j y e => ih j y e (AVal.closedL_get hx e)
  | nils => exact .nils
  | yield id p h => cases hx
  | hint i => cases hx
  | hid i a n cap h ih => cases hx
  | nilslice ex a cap h => exact .nilslice ex a cap h
  | slice xs ex b o s cap f hne hc he hs h1 h2 ih => exact .slice xs ex b o s cap f hne hc he hs (fun i j hi hj => hk _ _ _ (h1 i j hi hj)) fun i x j y hi hj => ih i x j y hi hj (AVal.closed_cells (AVal.closedL_get hx hi) hj)
  | oslice id off len ex p cap h hc he hl hn => cases hx
  | nilmap => exact .nilmap
  | map id p h => cases hx
  | func f xs ys us vs hu hv h1 h2 ih1 ih2 =>
    simp only [AVal.closed, Bool.and_eq_true] at hx
    exact .func f xs ys us vs hu hv (fun j y e => ih1 j y e (AVal.closedL_get hx.1 e)) fun j y e => ih2 j y e (AVal.closedL_get hx.2 e)
  | nilfunc => exact .nilfunc
  | iface t x v h ih => exact .iface t x v (ih hx)
  | niliface => exact .niliface
  | agg cs vs hv h ih => exact .agg cs vs hv fun j y e => ih j y e (AVal.closedL_get hx e)
  | tuple cs vs hv h ih => exact .tuple cs vs hv fun j y e => ih j y e (AVal.closedL_get hx e)

/-- What is told of a call on closed values: it answers by a closed value, whatever the store is. -/
def primPure (pr : List AVal → Option AVal) : Prim := fun args σ => (pr args).map fun x => (x, σ)
theorem primPure_frame (pr : List AVal → Option AVal) : PrimFrame (primPure pr) := by
  intro args σ x σ' h X τ hx
  unfold primPure at h ⊢
  obtain ⟨y, h1, h2⟩ := Option.map_eq_some_iff.1 h
  cases h2
  rw [h1]
  exact .refl hx
theorem primPure_is {E E0 : Env} {P : Program} (hR : RunOk E0 P) {g : FuncId} {pr : List AVal → Option AVal} (hp : ∀ args x, pr args = some x → AVal.closedL args = true ∧ AVal.closed x = true ∧ ∃ k f σ1, acall E0 k f g args Store.empty = some (x, σ1)) (hE : ∀ κ n, GlobOk E κ → GlobOk E0 (κ.bare n)) : PrimIs E P g (primPure pr) := by
  intro args σ x σ' hd w0 w κ vs hw hG hl
  unfold primPure at hd
  obtain ⟨y, h1, h2⟩ := Option.map_eq_some_iff.1 hd
  cases h2
  obtain ⟨hca, hcx, k, f, σ1, h⟩ := hp args x h1
  obtain ⟨own, hwo⟩ := hw
  have h0 : WR w (κ.bare w.heap.size) Store.empty w := ⟨fun _ _ => none, ⟨rfl, rfl, rfl, Nat.le_refl _, fun _ _ => rfl⟩, hwo.imm, fun _ _ _ h => (by cases h), fun _ _ h => (by simp at h), fun _ _ => rfl, fun _ h => (by cases h), Nat.le_refl _⟩
  refine (acall_sound hR h h0 (hE κ _ hG) ⟨hl.1, fun j y e => VR.closed (κ := κ) (κ' := κ.bare w.heap.size) (fun _ _ _ h => h) (hl.2 j y e) (AVal.closedL_get hca e)⟩).mono fun rv w' hleft => ?_
  obtain ⟨κ', l1, ⟨own', l2⟩, l3, l4⟩ := hleft
  have hb := l2.below
  have hheap : ∀ b, b < w.heap.size → w'.heap[b]? = w.heap[b]? := fun b hb' => hb.block b hb'
  have hlt : ∀ b o v, w.cell? ⟨b, o, none⟩ = some v → b < w.heap.size := fun b o v h => World.block_lt_of_cell? _ _ h
  have hcell : ∀ b o, b < w.heap.size → w'.cell? ⟨b, o, none⟩ = w.cell? ⟨b, o, none⟩ ∧ w'.frozen? ⟨b, o, none⟩ = w.frozen? ⟨b, o, none⟩ := fun b o h => by
    unfold World.cell? World.frozen?
    simp only [hheap b h, and_self]
  let κ2 : Kn := { κ with imm := fun b o => if b < w.heap.size then κ.imm b o else κ'.imm b o }
  have hle : κ.Le κ2 := ⟨fun _ _ h => h, fun b o v hi => by
    show (if b < w.heap.size then κ.imm b o else κ'.imm b o) = some v
    rw [if_pos (hlt _ _ _ (hwo.imm b o v hi))]; exact hi, rfl, rfl, rfl, rfl, fun b o v hi => by
    have hi : (if b < w.heap.size then κ.imm b o else κ'.imm b o) = some v := hi
    split at hi
    · exact .inl hi
    · exact .inr (by have := hwo.lim; have := hwo.below.size; omega)⟩
  have hval : VR κ2 x rv := l1.closed (fun b o v hi => by
    show (if b < w.heap.size then κ.imm b o else κ'.imm b o) = some v
    rcases l3.le.news b o v hi with h1 | h1
    · have h1 : κ.imm b o = some v := h1
      rw [if_pos (hlt _ _ _ (hwo.imm b o v h1))]; exact h1
    · have h1 : w.heap.size ≤ b := h1
      rw [if_neg (by omega)]; exact hi) hcx
  refine ⟨κ2, hval, ⟨own, hwo.below.trans ⟨hb.os, hb.tape, hb.output, hb.size, fun i hi => hb.block i (Nat.lt_of_lt_of_le hi hwo.below.size)⟩, fun b o v hi => ?_, fun b o id ho => ?_, fun id ob hg => ⟨(hwo.objs id ob hg).1, (hwo.objs id ob hg).2.keep hle ⟨fun _ _ h => h, fun b o ho => hcell b o (hwo.ownd b o id ho).2.2, fun b ho _ => hheap b (hwo.ownd b 0 id ho).2.2⟩⟩, hwo.fresh, fun b hb' => ?_, hwo.lim⟩, ⟨hle, fun _ _ => rfl, fun _ h => h⟩, Nat.le_refl _⟩
  · have hi : (if b < w.heap.size then κ.imm b o else κ'.imm b o) = some v := hi
    split at hi
    · have h1 := hwo.imm b o v hi
      rw [(hcell b o (hlt _ _ _ h1)).1]; exact h1
    · exact l2.imm b o v hi
  · obtain ⟨q1, q2, q3⟩ := hwo.ownd b o id ho
    refine ⟨?_, q2, Nat.lt_of_lt_of_le q3 hb.size⟩
    show (if b < w.heap.size then κ.imm b o else κ'.imm b o) = none
    rw [if_pos q3]; exact q1
  · obtain ⟨q1, q2, q3⟩ := hwo.marks b hb'
    exact ⟨by rw [hheap b (Array.getElem?_eq_some_iff.1 q1).1]; exact q1, q2, q3⟩

/-! a call that was run once, from an empty store -/
def pureDone (v : AVal) : List AVal → Option AVal
  | [] => some v
  | _ => none
def primDone (v : AVal) : Prim := primPure (pureDone v)
theorem primDone_frame (v : AVal) : PrimFrame (primDone v) := primPure_frame _
theorem primDone_is {E E0 : Env} {P : Program} (hR : RunOk E0 P) {k : Nat} {f g : FuncId} {v : AVal} {σ1 : Store} (hv : AVal.closed v = true) (h : acall E0 k f g [] Store.empty = some (v, σ1)) (hE : ∀ κ n, GlobOk E κ → GlobOk E0 (κ.bare n)) : PrimIs E P g (primDone v) :=
  primPure_is hR (fun args x e => by
    unfold pureDone at e
    split at e
    case h_2 => cases e
    cases e
    exact ⟨rfl, hv, k, f, σ1, h⟩) hE
/-- Many calls that were run once. -/
structure Row where
  args : List AVal
  res : AVal
def rowsFind (rs : List Row) : List AVal → Option AVal := fun args => (rs.find? fun r => AVal.beqL args r.args).map (·.res)
def Row.ok (E : Env) (k : Nat) (g : FuncId) (r : Row) : Bool := AVal.closedL r.args && AVal.closed r.res && match acall E k 0 g r.args Store.empty with
  | some (v, _) => AVal.beq v r.res
  | none => false
theorem primRows_is {E E0 : Env} {P : Program} (hR : RunOk E0 P) {k : Nat} {g : FuncId} {rs : List Row} (h : ∀ r ∈ rs, r.ok E0 k g = true) (hE : ∀ κ n, GlobOk E κ → GlobOk E0 (κ.bare n)) : PrimIs E P g (primPure (rowsFind rs)) :=
  primPure_is hR (fun args x e => by
    obtain ⟨r, h1, rfl⟩ := Option.map_eq_some_iff.1 e
    have ha := AVal.eq_of_beqL _ _ (List.find?_some (p := fun r : Row => AVal.beqL args r.args) h1)
    subst ha
    have hr := h r (List.mem_of_find?_eq_some h1)
    unfold Row.ok at hr
    simp only [Bool.and_eq_true] at hr
    obtain ⟨⟨r1, r2⟩, r3⟩ := hr
    split at r3
    case h_2 => cases r3
    rename_i v σ1 hrun
    rw [AVal.eq_of_beq _ _ r3] at hrun
    exact ⟨r1, r2, k, 0, σ1, hrun⟩) hE
end Go.Ab

namespace Go.Ab

structure Memo where
  args : List AVal
  next : Nat
  pre : List (Nat × AObj)
  res : AVal
  post : List (Nat × AObj)
  gone : List Nat
  next' : Nat

def entriesEq : List (AVal × AVal) → List (AVal × AVal) → Bool
  | [], [] => true
  | a :: as, b :: bs => AVal.beq a.1 b.1 && AVal.beq a.2 b.2 && entriesEq as bs
  | _, _ => false
theorem entriesEq_eq : ∀ {as bs : List (AVal × AVal)}, entriesEq as bs = true → as = bs
  | [], [], _ => rfl
  | [], _ :: _, h => by cases h
  | _ :: _, [], h => by cases h
  | (a, b) :: as, (c, d) :: bs, h => by
    simp only [entriesEq, Bool.and_eq_true] at h
    rw [AVal.eq_of_beq _ _ h.1.1, AVal.eq_of_beq _ _ h.1.2, entriesEq_eq h.2]
def objEq : AObj → AObj → Bool
  | .cells as, .cells bs => AVal.beqL as bs
  | .arr g s as, .arr h t bs => g == h && s == t && AVal.beqL as bs
  | .map as, .map bs => entriesEq as bs
  | .rmap as i n, .rmap bs j m => entriesEq as bs && i == j && n == m
  | _, _ => false
theorem objEq_eq {a b : AObj} (h : objEq a b = true) : a = b := by
  cases a <;> cases b <;> first | cases h | skip
  · rw [AVal.eq_of_beqL _ _ h]
  · simp only [objEq, Bool.and_eq_true, beq_iff_eq] at h
    rw [h.1.1, h.1.2, AVal.eq_of_beqL _ _ h.2]
  · rw [entriesEq_eq h]
  · simp only [objEq, Bool.and_eq_true, beq_iff_eq] at h
    rw [entriesEq_eq h.1.1, h.1.2, h.2]

def has (σ : Store) (p : Nat × AObj) : Bool := match σ.get p.1 with | some o => objEq o p.2 | none => false
theorem has_get {σ : Store} {p : Nat × AObj} (h : has σ p = true) : σ.get p.1 = some p.2 := by
  unfold has at h
  split at h
  · rename_i o hg; rw [hg, objEq_eq h]
  · cases h
def putAll (σ : Store) : List (Nat × AObj) → Store
  | [] => σ
  | p :: l => putAll (σ.put p.1 p.2) l
def delAll (σ : Store) : List Nat → Store
  | [] => σ
  | i :: l => delAll (σ.del i) l
def Memo.left (m : Memo) (σ : Store) : Store := { delAll (putAll σ m.post) m.gone with next := m.next' }
def Memo.fits (m : Memo) (args : List AVal) (σ : Store) : Bool := AVal.beqL args m.args && σ.next == m.next && m.pre.all (has σ)
def Memo.run (m : Memo) : Prim := fun args σ => if m.fits args σ then some (m.res, m.left σ) else none
def memoRun (ms : List Memo) : Prim := fun args σ => (ms.find? fun m => AVal.beqL args m.args && σ.next == m.next).bind fun m => m.run args σ
def Memo.wf (m : Memo) : Bool := decide (m.next ≤ m.next') && (m.post.all fun p => decide (p.1 < m.next') && (decide (m.next ≤ p.1) || m.pre.any fun q => q.1 == p.1)) && (m.gone.all fun i => m.pre.any fun q => q.1 == i)
def Memo.store (m : Memo) : Store := { putAll Store.empty m.pre with next := m.next }
/-- The run that the memo tells of. -/
def Memo.ok (E : Env) (k : Nat) (g : FuncId) (m : Memo) : Bool :=
  m.wf && m.pre.all (has m.store) && m.pre.all (fun p => decide (p.1 < m.next)) &&
  match enter E (exec E k) g m.args m.store with
  | some (v, σ) => AVal.beq v m.res && σ.next == m.next' && m.post.all (has σ) && m.pre.all fun p => (m.post.any fun q => q.1 == p.1) || m.gone.contains p.1 || has σ p
  | none => false

theorem get_delAll : ∀ (l : List Nat) (σ : Store) (i : Nat), (delAll σ l).get i = if i ∈ l then none else σ.get i
  | [], σ, i => by simp [delAll]
  | j :: l, σ, i => by
    rw [delAll, get_delAll l, Store.get_del]
    by_cases h : i ∈ l
    · simp [h]
    · by_cases e : i = j
      · simp [e]
      · simp [h, e]
theorem get_putAll : ∀ (l : List (Nat × AObj)) (σ τ : Store) (i : Nat), σ.get i = τ.get i → (putAll σ l).get i = (putAll τ l).get i
  | [], _, _, _, h => h
  | p :: l, σ, τ, i, h => get_putAll l _ _ i (by simp only [Store.get_put, h])
theorem get_putAll_out : ∀ (l : List (Nat × AObj)) (σ : Store) (i : Nat), (∀ p ∈ l, p.1 ≠ i) → (putAll σ l).get i = σ.get i
  | [], _, _, _ => rfl
  | p :: l, σ, i, h => by
    rw [putAll, get_putAll_out l _ i fun q hq => h q (List.mem_cons_of_mem p hq), Store.get_put, if_neg (fun e => h p List.mem_cons_self e.symm)]
theorem get_putAll_in : ∀ (l : List (Nat × AObj)) (σ : Store) (i : Nat), (∃ p ∈ l, p.1 = i) → ∃ p ∈ l, p.1 = i ∧ (putAll σ l).get i = some p.2
  | [], _, _, h => by obtain ⟨p, h, _⟩ := h; cases h
  | p :: l, σ, i, h => by
    by_cases hl : ∃ q ∈ l, q.1 = i
    · obtain ⟨q, hq, h1, h2⟩ := get_putAll_in l (σ.put p.1 p.2) i hl
      exact ⟨q, List.mem_cons_of_mem p hq, h1, h2⟩
    · have hp : p.1 = i := by
        obtain ⟨q, hq, e⟩ := h
        rcases List.mem_cons.1 hq with rfl | hq
        · exact e
        · exact absurd ⟨q, hq, e⟩ hl
      refine ⟨p, List.mem_cons_self, hp, ?_⟩
      rw [putAll, get_putAll_out l _ i fun q hq e => hl ⟨q, hq, e⟩, Store.get_put, if_pos hp.symm]
theorem next_putAll : ∀ (l : List (Nat × AObj)) (σ : Store), (putAll σ l).next = σ.next
  | [], _ => rfl
  | p :: l, σ => by rw [putAll, next_putAll l]; rfl

theorem Memo.run_frame {m : Memo} (hw : m.wf = true) : PrimFrame m.run := by
  intro args σ x σ' h X τ hx
  unfold Memo.run at h ⊢
  split at h
  case isFalse => cases h
  rename_i hf
  cases h
  have hf' := hf
  simp only [Memo.fits, Bool.and_eq_true, beq_iff_eq, List.all_eq_true] at hf'
  obtain ⟨⟨f1, f2⟩, f3⟩ := hf'
  have hpre : ∀ p ∈ m.pre, ¬ X p.1 := fun p hp => hx.notX (has_get (f3 p hp))
  have hft : m.fits args τ = true := by
    simp only [Memo.fits, Bool.and_eq_true, beq_iff_eq, List.all_eq_true]
    refine ⟨⟨f1, by rw [hx.next]; exact f2⟩, fun p hp => ?_⟩
    have := f3 p hp
    unfold has at this ⊢
    rw [hx.get (has_get (f3 p hp))]
    rwa [has_get (f3 p hp)] at this
  rw [if_pos hft]
  simp only [Memo.wf, Bool.and_eq_true, decide_eq_true_eq, List.all_eq_true, Bool.or_eq_true, List.any_eq_true, beq_iff_eq] at hw
  have hpost : ∀ p ∈ m.post, ¬ X p.1 := fun p hp hX => by
    rcases (hw.1.2 p hp).2 with h | ⟨q, hq, e⟩
    · have := (hx.none _ hX).2; omega
    · exact hpre q hq (e ▸ hX)
  have hgone : ∀ i ∈ m.gone, ¬ X i := fun i hi hX => by
    obtain ⟨q, hq, e⟩ := hw.2 i hi
    exact hpre q hq (e ▸ hX)
  have hout : ∀ (ρ : Store) id, X id → (m.left ρ).get id = ρ.get id := fun ρ id hid => by
    show (delAll (putAll ρ m.post) m.gone).get id = _
    rw [get_delAll, if_neg (fun h => hgone id h hid), get_putAll_out _ _ _ fun p hp e => hpost p hp (e ▸ hid)]
  refine ⟨_, rfl, ⟨rfl, fun id hid => ?_, fun id hid => ⟨(hout σ id hid).trans (hx.none id hid).1, ?_⟩⟩, fun id hid => hout τ id hid⟩
  · show (delAll (putAll τ m.post) m.gone).get id = (delAll (putAll σ m.post) m.gone).get id
    rw [get_delAll, get_delAll, get_putAll _ _ _ _ (hx.same id hid)]
  · have := (hx.none id hid).2
    show id < m.next'
    omega
theorem memoRun_frame {ms : List Memo} (hw : ∀ m ∈ ms, m.wf = true) : PrimFrame (memoRun ms) := by
  intro args σ x σ' h X τ hx
  unfold memoRun at h ⊢
  rw [hx.next]
  obtain ⟨m, hm, h⟩ := Option.bind_eq_some_iff.1 h
  rw [hm, Option.bind_some]
  exact Memo.run_frame (hw m (List.mem_of_find?_eq_some hm)) args σ x σ' h X τ hx

theorem Memo.run_is {E E0 : Env} {P : Program} (hR : RunOk E0 P) {k : Nat} {g : FuncId} {m : Memo} (hok : m.ok E0 k g = true) (hE : ∀ κ, GlobOk E κ → GlobOk E0 κ) : PrimIs E P g m.run := by
  intro args σ x σ' h w0 w κ vs hw hG hl
  unfold Memo.run at h
  split at h
  case isFalse => cases h
  rename_i hf
  cases h
  simp only [Memo.fits, Bool.and_eq_true, beq_iff_eq, List.all_eq_true] at hf
  obtain ⟨⟨f1, f2⟩, f3⟩ := hf
  have hargs := AVal.eq_of_beqL _ _ f1
  subst hargs
  unfold Memo.ok at hok
  simp only [Bool.and_eq_true, List.all_eq_true, decide_eq_true_eq] at hok
  obtain ⟨⟨⟨hwf, hpre⟩, hlt⟩, hok⟩ := hok
  split at hok
  case h_2 => cases hok
  rename_i v σ1 hrun
  simp only [Bool.and_eq_true, List.all_eq_true, Bool.or_eq_true, List.any_eq_true, beq_iff_eq] at hok
  obtain ⟨⟨⟨o1, o2⟩, o3⟩, o4⟩ := hok
  have hv := AVal.eq_of_beq _ _ o1
  subst hv
  obtain ⟨own, hwo⟩ := hw
  let X : Nat → Prop := fun id => id < m.next ∧ ∀ p ∈ m.pre, p.1 ≠ id
  have hsub : Sub X m.store σ := by
    refine ⟨f2, fun id hid => ?_, fun id hid => ⟨?_, hid.1⟩⟩
    · by_cases hm : ∃ p ∈ m.pre, p.1 = id
      · obtain ⟨p, hp, e⟩ := hm
        rw [← e, has_get (f3 p hp), has_get (hpre p hp)]
      · have h1 : ¬ id < m.next := fun h => hid ⟨h, fun p hp e => hm ⟨p, hp, e⟩⟩
        have h2 : m.store.get id = none := by
          show (putAll Store.empty m.pre).get id = none
          rw [get_putAll_out _ _ _ fun p hp e => hm ⟨p, hp, e⟩]; rfl
        rw [h2]
        cases hg : σ.get id with
        | none => rfl
        | some ob => have := (hwo.objs id ob hg).1; omega
    · show (putAll Store.empty m.pre).get id = none
      rw [get_putAll_out _ _ _ hid.2]; rfl
  obtain ⟨τ', e1, e2, e3⟩ := enter_frame (exec_frame hR.primFr k) hrun hsub
  refine .inr ((enter_sound hR (exec_sound hR k) e1 ⟨own, hwo⟩ (hE κ hG) hl).mono fun rv w' hleft => ?_)
  obtain ⟨κ', l1, l2, l3, l4⟩ := hleft
  refine ⟨κ', l1, l2.drop (fun id ob hg => ?_) (show m.next' = τ'.next by rw [e2.next, o2]), l3, by have := e2.next; show σ.next ≤ m.next'; rw [← o2, ← this]; exact l4⟩
  have hg : (delAll (putAll σ m.post) m.gone).get id = some ob := hg
  rw [get_delAll] at hg
  split at hg
  · cases hg
  rename_i hng
  by_cases hm : ∃ p ∈ m.post, p.1 = id
  · obtain ⟨p, hp, h1, h2⟩ := get_putAll_in m.post σ id hm
    rw [h2] at hg
    cases hg
    rw [← h1]
    exact e2.get (has_get (o3 p hp))
  · rw [get_putAll_out _ _ _ fun p hp e => hm ⟨p, hp, e⟩] at hg
    by_cases hx : X id
    · rw [e3 id hx]; exact hg
    · have hlt' : id < m.next := by have := (hwo.objs id ob hg).1; omega
      have hex : ∃ p ∈ m.pre, p.1 = id := Classical.byContradiction fun hno => hx ⟨hlt', fun p hp e => hno ⟨p, hp, e⟩⟩
      obtain ⟨p, hp, e⟩ := hex
      rcases o4 p hp with (⟨q, hq, e'⟩ | h4) | h4
      · exact absurd ⟨q, hq, e'.trans e⟩ hm
      · exact absurd (e ▸ List.contains_iff_mem.1 h4) hng
      · have h5 := has_get (f3 p hp)
        rw [e, hg] at h5
        cases h5
        rw [← e]
        exact e2.get (has_get h4)
theorem memoRun_is {E : Env} {P : Program} {g : FuncId} {ms : List Memo} (h : ∀ m ∈ ms, PrimIs E P g m.run) : PrimIs E P g (memoRun ms) := by
  intro args σ x σ' hm w0 w κ vs hw hG hl
  obtain ⟨m, hf, hm⟩ := Option.bind_eq_some_iff.1 hm
  exact h m (List.mem_of_find?_eq_some hf) args σ x σ' hm w0 w κ vs hw hG hl

end Go.Ab

namespace Go.Ab

/-! lists, by their recursor -/
section lists
variable {α : Type}
noncomputable def nth (l : List α) : Nat → Option α := List.rec (fun _ => none) (fun a _ ih n => Nat.rec (some a) (fun m _ => ih m) n) l
theorem nth_eq : ∀ (l : List α) (n : Nat), nth l n = l[n]?
  | [], n => by simp [nth]
  | a :: l, 0 => rfl
  | a :: l, n + 1 => by
    rw [List.getElem?_cons_succ, ← nth_eq l n]; rfl
noncomputable def nthD (d : α) (l : List α) : Nat → α := List.rec (fun _ => d) (fun a _ ih n => Nat.rec a (fun m _ => ih m) n) l
theorem nthD_eq (d : α) : ∀ (l : List α) (n : Nat), nthD d l n = l.getD n d
  | [], n => by simp [nthD]
  | a :: l, 0 => rfl
  | a :: l, n + 1 => by
    rw [List.getD_cons_succ, ← nthD_eq d l n]; rfl
noncomputable def setN (l : List α) : Nat → α → List α := List.rec (fun _ _ => []) (fun a l ih n v => Nat.rec (v :: l) (fun m _ => a :: ih m v) n) l
theorem setN_eq : ∀ (l : List α) (n : Nat) (v : α), setN l n v = l.set n v
  | [], n, v => by simp [setN]
  | a :: l, 0, v => rfl
  | a :: l, n + 1, v => by
    rw [List.set_cons_succ, ← setN_eq l n v]; rfl
end lists
noncomputable def evalF (E : Env) (tm : List AVal) (x : Operand) : Option AVal :=
  match x with
  | .tmp t => some (nthD .undef tm t)
  | .const v => ofConst v
  | .global g => (E.glob g).map fun cs => .rptr cs 0
  | .func f => some (.func f [] [])
theorem evalF_eq {E : Env} {tm : List AVal} : evalF E tm = eval E tm := by
  funext x
  cases x <;> first | rfl | simp only [evalF, eval, nthD_eq]
noncomputable def evalsF (ev : Operand → Option AVal) (l : List Operand) : Option (List AVal) := List.rec (some []) (fun x _ ih => (ev x).bind fun v => ih.bind fun vs => some (v :: vs)) l
theorem evalsF_eq {E : Env} {tm : List AVal} : ∀ (l : List Operand), evalsF (eval E tm) l = evals E tm l
  | [] => rfl
  | x :: l => by
    simp only [evals, Option.bind_eq_bind, ← evalsF_eq l]; rfl
noncomputable def partsF (ev : Operand → Option AVal) (l : List (Nat × Operand)) : Option (List (Nat × AVal)) := List.rec (some []) (fun x _ ih => (ev x.2).bind fun v => ih.bind fun vs => some ((x.1, v) :: vs)) l
theorem partsF_eq {E : Env} {tm : List AVal} : ∀ (l : List (Nat × Operand)), partsF (eval E tm) l = evalParts E tm l
  | [] => rfl
  | (i, x) :: l => by
    simp only [evalParts, Option.bind_eq_bind, ← partsF_eq l]; rfl
def optF (ev : Operand → Option AVal) (o : Option Operand) : Option (Option AVal) :=
  match o with
  | none => some none
  | some x => (ev x).map some
theorem optF_eq {E : Env} {tm : List AVal} (o : Option Operand) : optF (eval E tm) o = evalOpt E tm o := by cases o <;> rfl

section ops
variable (E : Env) (ev : Operand → Option AVal) (σ : Store)
def oMove (x : Operand) : Option (AVal × Store) := (ev x).map (·, σ)
def oPick (c a b : Operand) : Option (AVal × Store) := do
    let .bool t ← ev c | none
    let v ← ev (if t then a else b)
    some (v, σ)
def oBox (x : Operand) : Option (AVal × Store) := do box σ (← ev x)
noncomputable def oBuild (t : TypeId) (ps : Array (Nat × Operand)) : Option (AVal × Store) := do
    let l ← partsF ev ps.toList
    (build E t l).map (·, σ)
noncomputable def oBuildSlice (t : TypeId) (n : Nat) (ps : Array (Nat × Operand)) : Option (AVal × Store) := do
    let l ← partsF ev ps.toList
    (buildSlice E t n l).map (·, σ)
def oLoad (t : TypeId) (a : Operand) : Option (AVal × Store) := do (load E σ t (← ev a)).map (·, σ)
def oStore (t : TypeId) (a x : Operand) : Option (AVal × Store) := do (store E σ t (← ev a) (← ev x)).map (AVal.undef, ·)
def oNil (x : Operand) : Option (AVal × Store) := do (nilCheck (← ev x)).map (·, σ)
def oBin (o : BinOp) (t : TypeId) (x y : Operand) : Option (AVal × Store) := do (binOp E o t (← ev x) (← ev y)).map (·, σ)
def oUn (o : UnOp) (x : Operand) : Option (AVal × Store) := do (unOp o (← ev x)).map (·, σ)
def oConv (a b : TypeId) (x : Operand) : Option (AVal × Store) := do convert E σ a b (← ev x)
def oIface (t : TypeId) (x : Operand) : Option (AVal × Store) := do (makeInterface E t (← ev x)).map (·, σ)
noncomputable def oFunc (fn : Fn) (first caps : Array Operand) : Option (AVal × Store) :=
  match fn with
  | .func f => do
    let a ← evalsF ev first.toList
    let b ← evalsF ev caps.toList
    some (.func f a b, σ)
  | _ => none
def oMap (r : Option Operand) : Option (AVal × Store) :=
  match r with
  | none => some (.map σ.next, σ.new (.map []))
  | _ => none
def oMakeSlice (t : TypeId) (l c : Operand) : Option (AVal × Store) := do makeSlice E σ t (← ev l) (← ev c)
def oSlice (t : TypeId) (x : Operand) (lo hi mx : Option Operand) : Option (AVal × Store) := do (slice E σ t (← ev x) (← optF ev lo) (← optF ev hi) (← optF ev mx)).map (·, σ)
def oFieldAddr (t : TypeId) (x : Operand) (i : Nat) : Option (AVal × Store) := do (fieldAddr E t i (← ev x)).map (·, σ)
def oField (t : TypeId) (x : Operand) (i : Nat) : Option (AVal × Store) := do (field E t i (← ev x)).map (·, σ)
def oIndexAddr (t : TypeId) (x i : Operand) : Option (AVal × Store) := do (indexAny E σ t (← ev x) (← ev i)).map (·, σ)
def oIndex (t : TypeId) (x i : Operand) : Option (AVal × Store) := do (index E t (← ev x) (← intOf (← ev i))).map (·, σ)
def oLookup (t : TypeId) (x k : Operand) (ok : Bool) : Option (AVal × Store) := do (lookup E σ t (← ev x) (← ev k) ok).map (·, σ)
def oMapUpdate (t : TypeId) (m k v : Operand) : Option (AVal × Store) := do (mapUpdate E σ t (← ev m) (← ev k) (← ev v)).map (AVal.undef, ·)
def oRange (t : TypeId) (x : Operand) : Option (AVal × Store) := do
    match E.T.und t, (← ev x) with
    | some .string, .str s => some (.ptr σ.next 0, σ.new (.iter s 0))
    | some (.map _ _), .map m => do
      let es ← mapEntries σ (.map m)
      some (.ptr σ.next 0, (σ.put m (.rmap es σ.next 0)).new (.itof m))
    | _, _ => none
def oNext (it : Operand) (b : Bool) : Option (AVal × Store) := do next σ (← ev it) b
def oEntry (it : Operand) : Option (AVal × Store) := do (entry σ (← ev it)).map (·, σ)
def oAssert (x : Operand) (t : TypeId) (ok : Bool) : Option (AVal × Store) := do (typeAssert E (← ev x) t ok).map (·, σ)
def oExtract (x : Operand) (i : Nat) : Option (AVal × Store) := do
    match (← ev x) with
    | .tuple vs => (vs[i]?).map (·, σ)
    | _ => none
noncomputable def oBuiltin (b : Builtin) (args : Array Operand) (argTypes : Array TypeId) : Option (AVal × Store) := do builtin E σ b argTypes (← evalsF ev args.toList)
noncomputable def oValue (call : Caller) (f : Operand) (args : Array Operand) : Option (AVal × Store) := do
    let fv ← ev f
    match fv with
    | .func g first caps =>
      let l ← evalsF ev args.toList
      call (.fn g) (first ++ l ++ caps) σ
    | .yield id =>
      let l ← evalsF ev args.toList
      call (.yield id) l σ
    | _ => none
noncomputable def oCall (call : Caller) (c : Call) : Option (AVal × Store) :=
  match c.callee with
  | .builtin b => oBuiltin E ev σ b c.args c.argTypes
  | .value f => oValue ev σ call f c.args
  | _ => none
/-- One operation. -/
noncomputable def opF (call : Caller) (op : Op) : Option (AVal × Store) :=
  match op with
  | .move x => oMove ev σ x
  | .assign x => oMove ev σ x
  | .pick c a b => oPick ev σ c a b
  | .alloc t => alloc E σ t
  | .box _ x => oBox ev σ x
  | .build t ps => oBuild E ev σ t ps
  | .buildSlice t n ps => oBuildSlice E ev σ t n ps
  | .load t a => oLoad E ev σ t a
  | .store t a x => oStore E ev σ t a x
  | .nilCheck x => oNil ev σ x
  | .binOp o t x y _ => oBin E ev σ o t x y
  | .unOp o _ x => oUn ev σ o x
  | .convert a b x => oConv E ev σ a b x
  | .makeInterface t x => oIface E ev σ t x
  | .makeFunc fn first caps => oFunc ev σ fn first caps
  | .makeMap _ r => oMap σ r
  | .makeSlice t l c => oMakeSlice E ev σ t l c
  | .slice t x lo hi mx => oSlice E ev σ t x lo hi mx
  | .fieldAddr t x i => oFieldAddr E ev σ t x i
  | .field t x i => oField E ev σ t x i
  | .indexAddr t x i => oIndexAddr E ev σ t x i
  | .index t x i => oIndex E ev σ t x i
  | .lookup t x k ok => oLookup E ev σ t x k ok
  | .mapUpdate t m k v => oMapUpdate E ev σ t m k v
  | .range t x => oRange E ev σ t x
  | .next it b => oNext ev σ it b
  | .entry it => oEntry ev σ it
  | .typeAssert x _ t ok => oAssert E ev σ x t ok
  | .extract x i => oExtract ev σ x i
  | .call c => oCall E ev σ call c
  | _ => none
end ops
theorem opF_eq {E : Env} {tm : List AVal} {σ : Store} {call : Caller} {o : Oper} : opF E (evalF E tm) σ call o.op = stepOp E call o tm σ := by
  rw [evalF_eq]
  obtain ⟨dst, op, ty, pos, after, guard⟩ := o
  cases op <;> first | rfl | (simp only [opF, oBuild, stepOp, aop, partsF_eq]; done) | (simp only [opF, oBuildSlice, stepOp, aop, partsF_eq]; done) | (simp only [opF, oSlice, stepOp, aop, optF_eq]; done) | skip
  case makeFunc fn first caps => cases fn <;> first | rfl | simp only [opF, oFunc, stepOp, aop, evalsF_eq]
  case makeMap t r => cases r <;> rfl
  case call c =>
    obtain ⟨callee, args, at_⟩ := c
    cases callee with
    | builtin b => simp only [opF, oCall, oBuiltin, stepOp, aop, evalsF_eq]
    | value f =>
      simp only [opF, oCall, oValue, stepOp, evalsF_eq]
      rfl
    | invoke a b => rfl
theorem aopF_eq {E : Env} {tm : List AVal} {σ : Store} {op : Op} : opF E (evalF E tm) σ (fun _ _ _ => none) op = aop E tm σ op := by
  have h := opF_eq (E := E) (tm := tm) (σ := σ) (call := fun _ _ _ => none) (o := { dst := none, op, type := 0, pos := "", after := #[], guard := none })
  rw [h]
  unfold stepOp
  split
  · rename_i f args at_ hop
    have hop : op = _ := hop
    subst hop
    simp only [aop, Option.bind_eq_bind]
    cases eval E tm f with
    | none => rfl
    | some v =>
      cases v <;> first | rfl | skip
      all_goals (simp only [Option.bind_some]; cases evals E tm args.toList <;> rfl)
  · rfl

noncomputable def nextTm (E : Env) (call : Caller) (o : Oper) (w : Bool) (tm : List AVal) (σ : Store) : Option (AVal × Store) := if w then opF E (evalF E tm) σ call o.op else some (.undef, σ)
def guardF (b : Option AVal) (want : Bool) : Bool :=
  match b with
  | some (.bool b) => b == want
  | _ => false
noncomputable def wantedF (ops : Array Oper) (tm : List AVal) (o : Oper) : Option Bool :=
  match o.guard with
  | none => some true
  | some g =>
    match (nth ops.toList g.1).bind (·.dst) with
    | some d => some (guardF (nth tm d) g.2)
    | none => some false
theorem wantedF_eq {o : Oper} {ops : Array Oper} {tm : List AVal} : wantedF ops tm o = wantedA o ops tm := by
  unfold wantedF wantedA
  cases o.guard with
  | none => rfl
  | some g =>
    obtain ⟨j, want⟩ := g
    simp only [nth_eq, Array.getElem?_toList]
    cases (ops[j]?).bind (·.dst) with
    | none => rfl
    | some d =>
      simp only
      cases tm[d]? with
      | none => rfl
      | some v => cases v <;> rfl
noncomputable def putF (tm : List AVal) (dst : Option Tmp) (v : AVal) : List AVal :=
  match dst with
  | some d => setN tm d v
  | none => tm
theorem putF_eq {tm : List AVal} {dst : Option Tmp} {v : AVal} : putF tm dst v = putTm tm dst v := by
  cases dst <;> first | rfl | exact setN_eq _ _ _
/-- The operations of a region, as a list. -/
noncomputable def runList (E : Env) (call : Caller) (ops : Array Oper) (l : List Oper) : List AVal → Store → Option (List AVal × Store) :=
  List.rec (fun tm σ => some (tm, σ)) (fun o _ ih tm σ => (wantedF ops tm o).bind fun w => (nextTm E call o w tm σ).bind fun r => ih (putF tm o.dst r.1) r.2) l
theorem runList_eq {E : Env} {call : Caller} {ops : Array Oper} : ∀ (l : List Nat) (os : List Oper), l.map (ops[·]?) = os.map some → ∀ tm σ, runList E call ops os tm σ = runOps E call ops l tm σ
  | [], [], _, tm, σ => rfl
  | [], o :: os, h, tm, σ => by cases h
  | i :: l, [], h, tm, σ => by cases h
  | i :: l, o :: os, h, tm, σ => by
    simp only [List.map_cons, List.cons.injEq] at h
    unfold runOps
    show (wantedF ops tm o).bind (fun w => (nextTm E call o w tm σ).bind fun r => runList E call ops os (putF tm o.dst r.1) r.2) = _
    rw [h.1, wantedF_eq]
    simp only [Option.bind_eq_bind]
    congr 1
    funext w
    cases w with
    | true =>
      simp only [nextTm, if_true, opF_eq]
      congr 1
      funext r
      rw [putF_eq]
      exact runList_eq l os h.2 _ _
    | false =>
      simp only [nextTm, Bool.false_eq_true, if_false, Option.bind_some, putF_eq]
      exact runList_eq l os h.2 _ _
theorem range_ops (ops : Array Oper) : (List.range ops.size).map (ops[·]?) = ops.toList.map some := by
  apply List.ext_getElem?
  intro i
  simp only [List.getElem?_map, Array.getElem?_toList]
  by_cases h : i < ops.size
  · rw [List.getElem?_range h, Array.getElem?_eq_getElem h]; simp [h]
  · rw [List.getElem?_eq_none (by simp; omega), Array.getElem?_eq_none (by omega)]; rfl

noncomputable def stepAtF (E : Env) (call : Caller) (o : Oper) (tm : List AVal) (σ : Store) (id : Option Nat) : Option (AVal × Store) :=
  match id with
  | none => opF E (evalF E tm) σ call o.op
  | some id => (birth E tm o.op).map fun b => (b.1 id, σ.put id b.2)
noncomputable def nextAt (E : Env) (call : Caller) (o : Oper) (w : Bool) (id : Option Nat) (tm : List AVal) (σ : Store) : Option (AVal × Store) := if w then stepAtF E call o tm σ id else some (.undef, σ)
def logOf (lg : Log) (eff : Bool) (i : Nat) (tm : List AVal) (v : AVal) (σ : Store) : Log := { seen := (i, tm, v) :: lg.seen, stores := if eff then lg.stores ++ [σ] else lg.stores }
noncomputable def runPlanF (E : Env) (call : Caller) (ops : Array Oper) (effs allocs : List Nat) (base : Nat) (l : List Nat) : List AVal → Store → Log → Option (List AVal × Store × Log) :=
  List.rec (fun tm σ lg => some (tm, σ, lg)) (fun i _ ih tm σ lg => (nth ops.toList i).bind fun o => (wantedF ops tm o).bind fun w => (nextAt E call o w ((allocs.idxOf? i).map (base + ·)) tm σ).bind fun r =>
      ih (putF tm o.dst r.1) r.2 (logOf lg (effs.contains i) i tm r.1 r.2)) l
theorem runPlanF_eq {E : Env} {call : Caller} {ops : Array Oper} {effs allocs : List Nat} {base : Nat} : ∀ (l : List Nat) (tm : List AVal) (σ : Store) (lg : Log), runPlanF E call ops effs allocs base l tm σ lg = runPlan E call ops effs allocs base l tm σ lg
  | [], tm, σ, lg => rfl
  | i :: l, tm, σ, lg => by
    unfold runPlan
    show ((nth ops.toList i).bind fun o => (wantedF ops tm o).bind fun w => (nextAt E call o w ((allocs.idxOf? i).map (base + ·)) tm σ).bind fun r => runPlanF E call ops effs allocs base l (putF tm o.dst r.1) r.2 (logOf lg (effs.contains i) i tm r.1 r.2)) = _
    rw [nth_eq, Array.getElem?_toList]
    cases ops[i]? with
    | none => rfl
    | some o =>
      simp only [Option.bind_eq_bind, Option.bind_some, wantedF_eq]
      congr 1
      funext w
      have h1 : ∀ id, stepAtF E call o tm σ id = stepAt E call o tm σ id := fun id => by
        cases id with
        | none => exact opF_eq
        | some id => rfl
      have h2 : ∀ v σ', logOf lg (effs.contains i) i tm v σ' = { seen := (i, tm, v) :: (if effs.contains i = true then { seen := lg.seen, stores := lg.stores ++ [σ'] } else lg).seen, stores := (if effs.contains i = true then { seen := lg.seen, stores := lg.stores ++ [σ'] } else lg : Log).stores } := fun v σ' => by
        cases effs.contains i <;> rfl
      cases w with
      | true =>
        simp only [nextAt, if_true, h1]
        congr 1
        funext r
        rw [putF_eq, runPlanF_eq l, h2]
      | false =>
        simp only [nextAt, Bool.false_eq_true, if_false, Option.bind_some]
        rw [putF_eq, runPlanF_eq l, h2]
/-- A read, once more. -/
noncomputable def sameF (E : Env) (op : Op) (tm : List AVal) (v : AVal) (σ : Option Store) : Bool :=
  match σ with
  | some σ => match opF E (evalF E tm) σ (fun _ _ _ => none) op with
    | some r => AVal.beq r.1 v
    | none => false
  | none => false
noncomputable def checkF (E : Env) (ops : Array Oper) (lg : Log) (c : Nat × Nat × Nat) : Bool :=
  match lg.seen.find? (fun x => x.1 == c.1), nth ops.toList c.1 with
  | some x, some o => wantedF ops x.2.1 o == some false || (List.range (c.2.2 + 1)).all fun j => Nat.blt j c.2.1 || sameF E o.op x.2.1 x.2.2 (nth lg.stores j)
  | _, _ => false
theorem checkF_eq {E : Env} {ops : Array Oper} {lg : Log} {c : Nat × Nat × Nat} : checkF E ops lg c = checkRead E ops lg c := by
  unfold checkF checkRead
  rw [nth_eq, Array.getElem?_toList]
  cases lg.seen.find? (fun x => x.1 == c.1) with
  | none => rfl
  | some x =>
    obtain ⟨i, tm, v⟩ := x
    cases ops[c.1]? with
    | none => rfl
    | some o =>
      simp only [wantedF_eq]
      congr 2
      funext j
      congr 1
      · rw [Bool.eq_iff_iff]; simp [Nat.blt_eq]
      · rw [nth_eq]
        cases lg.stores[j]? with
        | none => rfl
        | some σ =>
          simp only [sameF, aopF_eq]
          cases aop E tm σ o.op with
          | none => simp
          | some r =>
            rw [Bool.eq_iff_iff]
            simp only [Option.map_some, Option.some.injEq, decide_eq_true_eq]
            exact ⟨AVal.eq_of_beq _ _, fun h => by rw [h]; exact AVal.beq_self v⟩

noncomputable def rDraw (E : Env) (call : Caller) (ops : Array Oper) (p : Plan) (tm : List AVal) (σ : Store) : Option (List AVal × Store) :=
  (runPlanF E call ops p.effs p.allocs σ.next p.order tm { σ with next := σ.next + p.allocs.length } { seen := [], stores := [{ σ with next := σ.next + p.allocs.length }] }).bind fun r =>
    if p.checks.all (checkF E ops r.2.2) then some (r.1, r.2.1) else none
noncomputable def rRegion (E : Env) (call : Caller) (f : FuncId) (id : Nat) (ops : Array Oper) (draw : Bool) (tm : List AVal) (σ : Store) : Option (List AVal × Store) :=
  match draw with
  | true => (E.plan f id).bind fun p => rDraw E call ops p tm σ
  | false => runList E call ops ops.toList tm σ
theorem rRegion_eq {E : Env} {call : Caller} {f : FuncId} {id : Nat} {ops : Array Oper} {draw : Bool} {tm : List AVal} {σ : Store} : rRegion E call f id ops draw tm σ = runRegion E call f id ops draw tm σ := by
  cases draw with
  | false => simp only [rRegion, runRegion, Bool.false_eq_true, if_false]; exact runList_eq _ _ (range_ops ops) _ _
  | true =>
    simp only [rRegion, runRegion, if_true, Option.bind_eq_bind]
    congr 1
    funext p
    simp only [rDraw, runPlanF_eq]
    congr 1
    funext r
    have : checkF E ops r.2.2 = checkRead E ops r.2.2 := funext fun c => checkF_eq
    rw [this]

/-! code -/
noncomputable def cRegion (E : Env) (ex : Exec) (f : FuncId) (id : Nat) (ops : Array Oper) (draw : Bool) (tm : List AVal) (σ : Store) : Option (Ex × List AVal × Store) := (rRegion E (callF E ex f) f id ops draw tm σ).map fun r => (.normal, r.1, r.2)
def cThen (ex : Exec) (f : FuncId) (b : Code) (r : Ex × List AVal × Store) : Option (Ex × List AVal × Store) :=
  match r.1 with
  | .normal => ex f b r.2.1 r.2.2
  | _ => some r
def cSeq (ex : Exec) (f : FuncId) (a b : Code) (tm : List AVal) (σ : Store) : Option (Ex × List AVal × Store) := (ex f a tm σ).bind (cThen ex f b)
def cPick (x : AVal) (a b : Code) : Option Code :=
  match x with
  | .bool true => some a
  | .bool false => some b
  | _ => none
def cCond (E : Env) (ex : Exec) (f : FuncId) (x : Operand) (a b : Code) (tm : List AVal) (σ : Store) : Option (Ex × List AVal × Store) := (eval E tm x).bind fun v => (cPick v a b).bind fun c => ex f c tm σ
def cOut (id : Nat) (r : Ex × List AVal × Store) : Option (Ex × List AVal × Store) := some (if r.1 = .exit id then .normal else r.1, r.2.1, r.2.2)
def cBlock (ex : Exec) (f : FuncId) (id : Nat) (b : Code) (tm : List AVal) (σ : Store) : Option (Ex × List AVal × Store) := (ex f b tm σ).bind (cOut id)
def cRange (E : Env) (ex : Exec) (f : FuncId) (g : Operand) (ps : Array Tmp) (assign body : Code) (tm : List AVal) (σ : Store) : Option (Ex × List AVal × Store) := stepCode E ex f (.rangeFunc g ps assign body) tm σ
noncomputable def stepF (E : Env) (ex : Exec) : Exec := fun f c tm σ =>
  match c with
  | .skip => some (.normal, tm, σ)
  | .label _ => some (.normal, tm, σ)
  | .region id ops draw => cRegion E ex f id ops draw tm σ
  | .seq a b => cSeq ex f a b tm σ
  | .cond x a b => cCond E ex f x a b tm σ
  | .block id b => cBlock ex f id b tm σ
  | .loop b => cSeq ex f b (.loop b) tm σ
  | .scope b => ex f b tm σ
  | .exit id => some (.exit id, tm, σ)
  | .ret => some (.ret, tm, σ)
  | .rangeFunc g ps assign body => cRange E ex f g ps assign body tm σ
  | _ => none
theorem cThen_eq {ex : Exec} {f : FuncId} {b : Code} {o : Option (Ex × List AVal × Store)} : o.bind (cThen ex f b) = o.bind fun (x : Ex × List AVal × Store) => match x.1 with
    | .normal => ex f b x.2.1 x.2.2
    | e => some (e, x.2.1, x.2.2) := by
  cases o with
  | none => rfl
  | some r => obtain ⟨e, tm, σ⟩ := r; cases e <;> rfl
theorem stepF_eq {E : Env} {ex : Exec} : stepF E ex = stepCode E ex := by
  funext f c tm σ
  cases c <;> try rfl
  case region id ops draw => simp only [stepF, cRegion, rRegion_eq, stepCode]
  case seq a b => simp only [stepF, cSeq, stepCode, Option.bind_eq_bind]; exact cThen_eq
  case loop b => simp only [stepF, cSeq, stepCode, Option.bind_eq_bind]; exact cThen_eq
  case cond x a b =>
    simp only [stepF, cCond, stepCode, Option.bind_eq_bind]
    congr 1
    funext v
    cases v <;> try rfl
    rename_i t
    cases t <;> rfl
noncomputable def execF (E : Env) (k : Nat) : Exec := Nat.rec (fun _ _ _ _ => none) (fun _ ex => stepF E ex) k
theorem execF_eq {E : Env} : ∀ k, execF E k = exec E k
  | 0 => rfl
  | k + 1 => by
    show stepF E (execF E k) = stepCode E (exec E k)
    rw [stepF_eq, execF_eq k]
/-- The run that the memo tells of, by the quick machine. -/
noncomputable def Memo.okF (E : Env) (k : Nat) (g : FuncId) (m : Memo) : Bool :=
  m.wf && m.pre.all (has m.store) && m.pre.all (fun p => decide (p.1 < m.next)) &&
  match enter E (execF E k) g m.args m.store with
  | some (v, σ) => AVal.beq v m.res && σ.next == m.next' && m.post.all (has σ) && m.pre.all fun p => (m.post.any fun q => q.1 == p.1) || m.gone.contains p.1 || has σ p
  | none => false
theorem Memo.okF_eq {E : Env} {k : Nat} {g : FuncId} {m : Memo} : m.okF E k g = m.ok E k g := by
  unfold Memo.okF Memo.ok
  rw [execF_eq] <;> rfl

noncomputable def Row.okF (E : Env) (k : Nat) (g : FuncId) (r : Row) : Bool := AVal.closedL r.args && AVal.closed r.res && match callF E (execF E k) 0 (.fn g) r.args Store.empty with
  | some (v, _) => AVal.beq v r.res
  | none => false
theorem Row.okF_eq {E : Env} {k : Nat} {g : FuncId} {r : Row} : r.okF E k g = r.ok E k g := by
  unfold Row.okF Row.ok
  rw [execF_eq] <;> rfl

end Go.Ab
