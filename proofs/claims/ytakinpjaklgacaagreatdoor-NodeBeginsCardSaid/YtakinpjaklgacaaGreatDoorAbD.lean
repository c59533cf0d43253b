/-
  SOUNDNESS, seventh part: elements' addresses, pieces of slices, assertions, what is built.
  SOUNDNESS, eighth part: elements as cells, what is built, assertions, conversions.
  SOUNDNESS, ninth part: literals of slices; assertions; conversions.
  SOUNDNESS, tenth part: stores, variables, make; assertions and conversions; maps; iterators.
-/
import Derived.Test.YtakinpjaklgacaaGreatDoorAbC
import Derived.IntWalk
namespace Go.Ab
open Go.RowKit (Below)

theorem lt_of_get {α : Type} {l : List α} {i : Nat} {x : α} (h : l[i]? = some x) : i < l.length := by
  rcases Nat.lt_or_ge i l.length with e | e
  · exact e
  · rw [List.getElem?_eq_none e] at h; cases h

theorem index_slice {E : Env} {P : Program} (hT : TabOk E.T P) {κ : Kn} {t e : TypeId} {xs : List AVal} {ex : Bool} {x : AVal} {i : Int} {k : IntKind} {c : Value} (hu : E.T.und t = some (.slice e))
    (h : (if 0 ≤ i then do
      let v ← xs[i.toNat]?
      if v.cells.length = E.T.size e ∧ E.T.size e ≠ 0 then some (.rptr v.cells 0) else none
    else none) = some x) (ha : VR κ (.slice xs ex) c) (w : World) : ∃ r, (Instr.indexAt t c (.int k i)).run P w = .ok r w ∧ VR κ x r := by
  simp only [Option.bind_eq_bind] at h
  split at h
  · rename_i hi
    cases hv : xs[i.toNat]? with
    | none => simp [hv] at h
    | some v =>
      simp only [hv, Option.bind_some] at h
      split at h
      · rename_i hc
        obtain ⟨h1, h3⟩ := hc
        cases h
        have hlt := lt_of_get hv
        cases ha with
        | nilslice => simp at hlt
        | slice _ _ b o s cap f hx hcap he hs g1 g2 =>
          have hss : s = E.T.size e := by rw [← hs _ _ hv, h1]
          subst hss
          refine ⟨.pointer (some ⟨b, o + i.toNat * E.T.size e, none⟩), ?_, ?_⟩
          · have : i < (xs.length : Int) := by omega
            simp [Instr.indexAt, asIntOf, hT.run_und hu, hi, this, size_und hT h3 hT.tot, addr_add]
          · have := VR.rptr (κ := κ) v.cells 0 b (o + i.toNat * E.T.size e) (f i.toNat) (fun j hj => g1 _ _ hlt (by rw [← h1]; exact hj)) (fun j y hy => g2 _ _ _ _ hv hy)
            simpa using this
      · cases h
  · cases h

theorem hid_at {E : Env} {P : Program} (hT : TabOk E.T P) {κ : Kn} {t e : TypeId} {xs : List AVal} {i : Int} {j : Nat} {k : IntKind} {c : Value} (hI : κ.hint = E.hint) (hu : E.T.und t = some (.slice e)) (h1 : E.T.size e = 1) (g1 : 0 ≤ i) (g2 : xs[i.toNat]? = some (.int .i64 (E.hint j)))
    (ha : VR κ (.slice xs false) c) (w : World) : ∃ r, (Instr.indexAt t c (.int k i)).run P w = .ok r w ∧ VR κ (.rptr [.hint j] 0) r := by
  have hs : (if 0 ≤ i then do
      let v ← xs[i.toNat]?
      if v.cells.length = E.T.size e ∧ E.T.size e ≠ 0 then some (AVal.rptr v.cells 0) else none
    else none) = some (.rptr [.int .i64 (E.hint j)] 0) := by
    rw [if_pos g1, g2]
    simp [AVal.cells, h1]
  obtain ⟨r, r1, r2⟩ := index_slice hT hu hs ha w
  refine ⟨r, r1, ?_⟩
  cases r2 with
  | rptr _ _ b o f f1 f2 =>
  refine .rptr _ _ b o f f1 fun j' y hy => ?_
  match j' with
  | 0 =>
    simp at hy
    subst hy
    have := f2 0 _ rfl
    generalize f 0 = v at this ⊢
    cases this
    rw [← hI]
    exact .hint j
  | j' + 1 => simp at hy
theorem indexAddr_sound {E : Env} {P : Program} (hT : TabOk E.T P) {κ : Kn} {σ : Store} {t : TypeId} {a x : AVal} {i : Int} {k : IntKind} {c : Value} (hO : OrcOk E) (hI : κ.hint = E.hint) (hH : κ.hid = E.hid) (h : indexAddr E σ t a i = some x) (ha : VR κ a c) (w : World) :
    ∃ r, (Instr.indexAt t c (.int k i)).run P w = .ok r w ∧ VR κ x r := by
  unfold indexAddr at h
  split at h
  · rename_i e xs ex hu
    exact index_slice hT hu h ha w
  · rename_i e hd hu
    split at h
    case isFalse => cases h
    rename_i h1
    obtain ⟨j, hj, rfl⟩ := Option.map_eq_some_iff.1 h
    cases ha with
    | hid _ a n cap ha =>
      rw [hH] at ha
      obtain ⟨g1, g2⟩ := hO.idx _ _ _ hj
      exact hid_at hT hI hu h1 g1 g2 ha w
  · rename_i e id off len ex hu
    split at h
    · rename_i hc
      obtain ⟨h0, h1, h2⟩ := hc
      cases h
      cases ha with
      | oslice _ _ _ _ p cap hp hcap he hl =>
        refine ⟨.pointer (some ⟨p.block, p.off + off + i.toNat * E.T.size e, none⟩), ?_, ?_⟩
        · simp [Instr.indexAt, asIntOf, hT.run_und hu, h0, h1, size_und hT h2 hT.tot, addr_add]
        · rw [Nat.add_assoc]; exact .ptr _ _ p hp
    · cases h
  · rename_i n e id off hu
    split at h
    · rename_i hc
      obtain ⟨h0, h1, h2⟩ := hc
      cases h
      cases ha with
      | ptr _ _ p hp =>
        refine ⟨.pointer (some ⟨p.block, p.off + off + i.toNat * E.T.size e, none⟩), ?_, ?_⟩
        · simp [Instr.indexAt, asIntOf, hT.run_und hu, h0, h1, size_und hT h2 hT.tot, addr_add, Instr.sureAddr]
        · rw [Nat.add_assoc]; exact .ptr _ _ p hp
    · cases h
  · rename_i n e cs off hu
    split at h
    · rename_i hc
      obtain ⟨h0, h1, h2⟩ := hc
      cases h
      cases ha with
      | rptr _ _ b o f g1 g2 =>
        refine ⟨.pointer (some ⟨b, o + off + i.toNat * E.T.size e, none⟩), ?_, ?_⟩
        · simp [Instr.indexAt, asIntOf, hT.run_und hu, h0, h1, size_und hT h2 hT.tot, addr_add, Instr.sureAddr]
        · rw [Nat.add_assoc]; exact .rptr _ _ b o f g1 g2
    · cases h
  · cases h

theorem indexAny_sound {E : Env} {P : Program} (hT : TabOk E.T P) {κ : Kn} {σ : Store} {t : TypeId} {a iv x : AVal} {c d : Value} (hO : OrcOk E) (hI : κ.hint = E.hint) (hH : κ.hid = E.hid) (h : indexAny E σ t a iv = some x) (ha : VR κ a c) (hi : VR κ iv d) (w : World) :
    ∃ r, (Instr.indexAt t c d).run P w = .ok r w ∧ VR κ x r := by
  unfold indexAny at h
  split at h
  · rename_i j
    unfold indexHint at h
    split at h
    case h_2 => cases h
    rename_i e hd hu
    split at h
    case isFalse => cases h
    rename_i h1
    obtain ⟨m, hm, rfl⟩ := Option.map_eq_some_iff.1 h
    cases hi
    cases ha with
    | hid _ a n cap ha =>
      rw [hH] at ha
      obtain ⟨g1, g2⟩ := hO.idh _ _ _ hm
      rw [hI]
      exact hid_at hT hI hu h1 g1 g2 ha w
  · obtain ⟨i, hn, h⟩ := Option.bind_eq_some_iff.1 h
    obtain ⟨k, rfl⟩ := intOf_sound hn hi
    exact indexAddr_sound hT hO hI hH h ha w

theorem bnd_sound {P : Program} {κ : Kn} {v : AVal} {y n : Nat} {c : Value} (h : bnd v y = some n) (hv : VR κ v c) (code : BoundsCode) (w : World) : (Instr.sliceBound c y code).run P w = .ok n w ∧ n ≤ y := by
  simp only [bnd, Option.bind_eq_bind] at h
  cases hi : intOf v with
  | none => simp [hi] at h
  | some i =>
    simp only [hi, Option.bind_some] at h
    split at h
    · rename_i hc
      cases h
      obtain ⟨k, rfl⟩ := intOf_sound hi hv
      exact ⟨by simp [Instr.sliceBound, asIntOf, hc], by omega⟩
    · cases h
/-- A bound may lie further out in the model than in the machine. -/
theorem bnd_sound_le {P : Program} {κ : Kn} {v : AVal} {y y' n : Nat} {c : Value} (h : bnd v y = some n) (hy : y ≤ y') (hv : VR κ v c) (code : BoundsCode) (w : World) : (Instr.sliceBound c y' code).run P w = .ok n w ∧ n ≤ y := by
  simp only [bnd, Option.bind_eq_bind] at h
  cases hi : intOf v with
  | none => simp [hi] at h
  | some i =>
    simp only [hi, Option.bind_some] at h
    split at h
    · rename_i hc
      cases h
      obtain ⟨k, rfl⟩ := intOf_sound hi hv
      have : 0 ≤ i ∧ i ≤ (y' : Int) := by omega
      exact ⟨by simp [Instr.sliceBound, asIntOf, this], by omega⟩
    · cases h

/-- Optional operands. -/
inductive OptR (κ : Kn) : Option AVal → Option Value → Prop
  | none : OptR κ none none
  | some (a : AVal) (c : Value) (h : VR κ a c) : OptR κ (some a) (some c)

/-- The bounds of a slice expression. -/
theorem bounds_sound {P : Program} {κ : Kn} {lo hi mx : Option AVal} {clo chi cmx : Option Value} (hl : OptR κ lo clo) (hh : OptR κ hi chi) (hm : OptR κ mx cmx) {len cap : Nat} (hc : len ≤ cap) (isS : Bool) (w : World)
    {l h : Nat} {m : Option Nat} (e : bounds lo hi mx len = some (l, h, m)) :
    (Instr.sliceBounds isS len cap clo chi cmx).run P w = .ok (l, h, m.getD cap) w ∧ l ≤ h ∧ h ≤ len ∧ h ≤ m.getD cap ∧ m.getD cap ≤ cap := by
  unfold bounds at e
  cases hm with
  | some a c hv =>
    simp only at e
    cases e1 : bnd a len with
    | none => simp [e1] at e
    | some m' =>
      simp only [e1, Option.bind_some] at e
      cases hh with
      | none => simp [hiB] at e
      | some b d hw =>
        simp only [hiB] at e
        cases e2 : bnd b m' with
        | none => simp [e2] at e
        | some h' =>
          simp only [e2, Option.bind_some] at e
          obtain ⟨r1, q1⟩ := bnd_sound_le (P := P) e1 hc hv (if isS then .slice3Acap else .slice3Alen) w
          obtain ⟨r2, q2⟩ := bnd_sound (P := P) e2 hw .slice3B w
          cases hl with
          | none =>
            simp only [loB, Option.map_some, Option.some.injEq, Prod.mk.injEq] at e
            obtain ⟨rfl, rfl, rfl⟩ := e
            exact ⟨by simp [Instr.sliceBounds, r1, r2], by omega, by omega, q2, by simp; omega⟩
          | some z y hz =>
            simp only [loB] at e
            cases e3 : bnd z h' with
            | none => simp [e3] at e
            | some l' =>
              simp only [e3, Option.map_some, Option.some.injEq, Prod.mk.injEq] at e
              obtain ⟨rfl, rfl, rfl⟩ := e
              obtain ⟨r3, q3⟩ := bnd_sound (P := P) e3 hz .slice3C w
              exact ⟨by simp [Instr.sliceBounds, r1, r2, r3], q3, by omega, q2, by simp; omega⟩
  | none =>
    simp only at e
    have key : ∀ h', hiB hi len (some len) = some h' → (match chi with | some v => Instr.sliceBound v cap (if isS then .sliceAcap else .sliceAlen) | none => (pure len : Sem Nat)).run P w = .ok h' w ∧ h' ≤ len := by
      intro h' eh
      cases hh with
      | none => cases eh; exact ⟨rfl, Nat.le_refl _⟩
      | some b d hw => exact bnd_sound_le (P := P) eh hc hw _ w
    cases e1 : hiB hi len (some len) with
    | none => simp [e1] at e
    | some h' =>
      simp only [e1, Option.bind_some] at e
      obtain ⟨r2, q2⟩ := key h' e1
      cases hl with
      | none =>
        simp only [loB, Option.map_some, Option.some.injEq, Prod.mk.injEq] at e
        obtain ⟨rfl, rfl, rfl⟩ := e
        refine ⟨?_, by omega, q2, by simp; omega, by simp⟩
        cases chi <;> simp_all [Instr.sliceBounds]
      | some z y hz =>
        simp only [loB] at e
        cases e3 : bnd z h' with
        | none => simp [e3] at e
        | some l' =>
          simp only [e3, Option.map_some, Option.some.injEq, Prod.mk.injEq] at e
          obtain ⟨rfl, rfl, rfl⟩ := e
          obtain ⟨r3, q3⟩ := bnd_sound (P := P) e3 hz .sliceB w
          refine ⟨?_, q3, q2, by simp; omega, by simp⟩
          cases chi <;> simp_all [Instr.sliceBounds]

/-- A piece of a slice that is a value. 'cap' is what is left of the room. -/
theorem VR.piece {κ : Kn} {xs : List AVal} {ex : Bool} {n cap : Nat} {a : Option Addr} (hv : VR κ (.slice xs ex) (.slice a n cap)) (l h m s : Nat) (hl : l ≤ h) (hh : h ≤ xs.length) (hm : h ≤ m) (hmc : m ≤ cap) (ex' : Bool) (he : ex' = true → m = h)
    (hs : ∀ (i : Nat) (x : AVal), xs[i]? = some x → x.cells.length = s) :
    VR κ (.slice ((xs.take h).drop l) ex') (.slice (if m = l then a else a.map (·.add (l * s))) (h - l) (m - l)) := by
  have hlen : ((xs.take h).drop l).length = h - l := by simp; omega
  by_cases hz : h = l
  · subst hz
    have : (xs.take h).drop h = [] := List.eq_nil_of_length_eq_zero (by simp)
    rw [this, Nat.sub_self]
    cases hv with
    | nilslice _ a0 =>
      have e1 : (if m = h then some a0 else (some a0).map (·.add (h * s))) = some (if m = h then a0 else a0.add (h * s)) := by split <;> rfl
      rw [e1]
      exact .nilslice ex' _ _ (fun e => by have := he e; omega)
    | slice _ _ b o =>
      have e1 : (if m = h then some (⟨b, o, none⟩ : Addr) else (some (⟨b, o, none⟩ : Addr)).map (·.add (h * s))) = some (if m = h then ⟨b, o, none⟩ else ⟨b, o + h * s, none⟩) := by split <;> simp [addr_add]
      rw [e1]
      exact .nilslice ex' _ _ (fun e => by have := he e; omega)
  · cases hv with
    | nilslice => simp at hh; omega
    | slice _ _ b o s' _ f hx hcap hex hs' g1 g2 =>
      have h0 : xs ≠ [] := hx
      have hss : s' = s := by
        obtain ⟨x, r, rfl⟩ := List.exists_cons_of_ne_nil h0
        rw [← hs' 0 x rfl, hs 0 x rfl]
      subst hss
      have hm' : m ≠ l := by omega
      rw [if_neg hm']
      simp only [Option.map_some, addr_add]
      have key := VR.slice (κ := κ) ((xs.take h).drop l) ex' b (o + l * s') s' (m - l) (fun i j => f (l + i) j)
        (fun e => by rw [e] at hlen; simp at hlen; omega) (by rw [hlen]; omega) (fun e => by rw [hlen, he e])
        (fun i x hi => by
          rw [List.getElem?_drop, List.getElem?_take] at hi
          split at hi
          · exact hs' _ _ hi
          · cases hi)
        (fun i j hi hj => by
          rw [hlen] at hi
          have := g1 (l + i) j (by omega) hj
          rwa [show o + l * s' + i * s' + j = o + (l + i) * s' + j by rw [Nat.add_mul]; omega])
        (fun i x j y hi hy => by
          rw [List.getElem?_drop, List.getElem?_take] at hi
          split at hi
          · exact g2 _ _ _ _ hi hy
          · cases hi)
      rwa [hlen] at key

theorem headSize_all {κ : Kn} {xs : List AVal} {ex : Bool} {c : Value} (hv : VR κ (.slice xs ex) c) {s : Nat} (h : headSize s xs = true) : ∀ (i : Nat) (x : AVal), xs[i]? = some x → x.cells.length = s := by
  intro i x hi
  cases hv with
  | nilslice => simp at hi
  | slice _ _ b o s' cap f hx hcap hex hs' g1 g2 =>
    obtain ⟨y, r, rfl⟩ := List.exists_cons_of_ne_nil hx
    rw [hs' i x hi, ← hs' 0 y rfl]
    simpa [headSize] using h

theorem exactOf_eq {ex : Bool} {len h cap : Nat} {m : Option Nat} (he : ex = true → cap = len) (e : exactOf ex len h m = true) : m.getD cap = h := by
  cases m with
  | some m => simpa [exactOf] using (eq_of_beq e).symm
  | none =>
    simp only [exactOf, Bool.and_eq_true, beq_iff_eq] at e
    simp [he e.1, e.2]

theorem slice_sound {E : Env} {P : Program} (hT : TabOk E.T P) {w0 : World} {κ : Kn} {σ : Store} {w : World} (hw : WR w0 κ σ w) {t : TypeId} {a x : AVal} {lo hi mx : Option AVal} {clo chi cmx : Option Value} {c : Value} (h : slice E σ t a lo hi mx = some x) (ha : VR κ a c)
    (hl : OptR κ lo clo) (hh : OptR κ hi chi) (hm : OptR κ mx cmx) :
    ∃ r, (Instr.sliceAt t c clo chi cmx).run P w = .ok r w ∧ VR κ x r := by
  unfold slice at h
  split at h
  · rename_i s hu
    split at h
    · cases h
    · rename_i hmx
      have hmn : mx = none := by cases mx <;> simp_all
      subst hmn
      cases ha
      simp only [Option.map_eq_some_iff] at h
      obtain ⟨⟨l, h', m⟩, hb, rfl⟩ := h
      cases hm
      have := (bounds_sound (P := P) hl hh .none (Nat.le_refl s.size) false w hb).1
      exact ⟨_, by simp [Instr.sliceAt, Instr.slice, hT.run_und hu, this] <;> rfl, .str _⟩
  · rename_i e hu
    cases ha
    simp only [Option.map_eq_some_iff] at h
    obtain ⟨⟨l, h', m⟩, hb, rfl⟩ := h
    obtain ⟨r1, q1, q2, q3, q4⟩ := bounds_sound (P := P) hl hh hm (Nat.le_refl 0) true w hb
    have hl0 : l = 0 := by omega
    have hh0 : h' = 0 := by omega
    have hm0 : m.getD 0 = 0 := by omega
    subst hl0 hh0
    refine ⟨.slice none 0 0, ?_, .nils⟩
    obtain ⟨d, hd⟩ := Option.isSome_iff_exists.1 (hT.cslice t e hu)
    simp [Instr.sliceAt, Instr.slice, hT.run_und hu, r1, hT.run_size hd, hm0]
  · rename_i e xs ex hu
    split at h
    · rename_i hc
      obtain ⟨hhd, hz⟩ := hc
      have hall := headSize_all ha hhd
      have hc : ∃ a0 cap, c = .slice a0 xs.length cap ∧ xs.length ≤ cap ∧ (ex = true → cap = xs.length) := by
        cases ha with
        | nilslice _ a0 cap h1 => exact ⟨some a0, cap, rfl, by simp, fun e => by simpa using h1 e⟩
        | slice _ _ b o s' cap f hx hcap hex => exact ⟨_, cap, rfl, hcap, hex⟩
      obtain ⟨a0, cap, rfl, hcap, hex⟩ := hc
      simp only [Option.map_eq_some_iff] at h
      obtain ⟨⟨l, h', m⟩, hb, rfl⟩ := h
      obtain ⟨r1, q1, q2, q3, q4⟩ := bounds_sound (P := P) hl hh hm hcap true w hb
      refine ⟨_, by simp [Instr.sliceAt, Instr.slice, hT.run_und hu, r1, size_und hT hz hT.tot] <;> rfl, ?_⟩
      exact ha.piece l h' (m.getD cap) _ q1 q2 q3 q4 _ (fun e => exactOf_eq hex e) hall
    · cases h
  · rename_i e id off len ex hu
    split at h
    · rename_i hc
      obtain ⟨hsz, hz⟩ := hc
      obtain ⟨own, hw⟩ := hw
      cases ha with
      | oslice _ _ _ _ p cap hp hcap hex hlim hnx =>
        have hps : p.size = E.T.size e := by
          unfold arrSize at hsz
          split at hsz
          · rename_i g s cs hg
            cases hsz
            have := (hw.objs _ _ hg).2
            cases this with
            | arr _ _ _ p' hp' hz' => rw [hp] at hp'; cases hp'; exact hz'
          · cases hsz
        simp only [Option.bind_eq_some_iff] at h
        obtain ⟨⟨l, h', m⟩, hb, h⟩ := h
        dsimp only at h
        obtain ⟨r1, q1, q2, q3, q4⟩ := bounds_sound (P := P) hl hh hm hcap true w hb
        have hmul : l * E.T.size e ≤ cap * p.size := by rw [hps]; exact Nat.mul_le_mul_right _ (by omega)
        have hrun : (Instr.sliceAt t (.slice (some ⟨p.block, p.off + off, none⟩) len cap) clo chi cmx).run P w = .ok (.slice (if m.getD cap = l then some ⟨p.block, p.off + off, none⟩ else some ⟨p.block, p.off + off + l * E.T.size e, none⟩) (h' - l) (m.getD cap - l)) w := by
          simp [Instr.sliceAt, Instr.slice, hT.run_und hu, r1, size_und hT hz hT.tot, addr_add]
        split at h
        · cases h
        · rename_i hnc
          refine ⟨_, hrun, ?_⟩
          split at h
          · rename_i h0
            cases h
            rw [h0.1, Nat.sub_self]
            have e2 : (if m.getD cap = l then some (⟨p.block, p.off + off, none⟩ : Addr) else some ⟨p.block, p.off + off + l * E.T.size e, none⟩) = some (if m.getD cap = l then ⟨p.block, p.off + off, none⟩ else ⟨p.block, p.off + off + l * E.T.size e, none⟩) := by split <;> rfl
            rw [e2]
            refine .nilslice _ _ _ (fun e => ?_)
            rw [← h0.1] at e
            have := exactOf_eq hex e
            omega
          · rename_i h0
            cases h
            have hl0 : m.getD cap = l → l = 0 := fun e => by
              rcases Nat.eq_zero_or_pos l with e0 | e0
              · exact e0
              · exact absurd ⟨by omega, by omega⟩ h0
            have hadd : (if m.getD cap = l then some (⟨p.block, p.off + off, none⟩ : Addr) else some ⟨p.block, p.off + off + l * E.T.size e, none⟩) = some ⟨p.block, p.off + (off + l * E.T.size e), none⟩ := by
              split
              · rename_i e; rw [hl0 e, Nat.zero_mul, Nat.add_zero]
              · rw [Nat.add_assoc]
            rw [hadd]
            have hsum : (m.getD cap - l) * p.size + l * p.size = m.getD cap * p.size := by rw [← Nat.add_mul]; congr 1; omega
            have hmc : m.getD cap * p.size ≤ cap * p.size := Nat.mul_le_mul_right _ q4
            refine .oslice id _ _ _ p _ hp (by omega) (fun e => by have := exactOf_eq hex e; omega) ?_ (fun e => ?_)
            · rw [hps] at hsum hmc ⊢; rw [hps] at hlim; omega
            · have hmn : m = none ∧ ex = false := by
                refine ⟨?_, ?_⟩
                · cases m with
                  | none => rfl
                  | some m => exact absurd ⟨e, .inr rfl⟩ hnc
                · cases ex with
                  | false => rfl
                  | true => exact absurd ⟨e, .inl rfl⟩ hnc
              obtain ⟨rfl, rfl⟩ := hmn
              have := hnx rfl
              simp only [Option.getD_none] at hsum ⊢
              rw [hps] at hsum this ⊢
              omega
    · cases h
  · cases h

end Go.Ab

namespace Go.Ab
open Go.RowKit (Below)

/-! elements as cells -/
theorem Stands.flat {κ : Kn} {w : World} {b s : Nat} : ∀ {xs : List AVal} {o : Nat}, (∀ (i : Nat) (x : AVal), xs[i]? = some x → x.cells.length = s ∧ Stands κ w b (o + i * s) x.cells) → Stands κ w b o (xs.flatMap AVal.cells)
  | [], _, _, j, y, hy => by simp at hy
  | x :: xs, o, h, j, y, hy => by
    rw [List.flatMap_cons, List.getElem?_append] at hy
    obtain ⟨h1, h2⟩ := h 0 x rfl
    split at hy
    · have := h2 j y hy
      simpa using this
    · rename_i hj
      have ih := Stands.flat (κ := κ) (w := w) (b := b) (s := s) (xs := xs) (o := o + s) (fun i x hi => by
        have := h (i + 1) x (by simpa using hi)
        rwa [show o + (i + 1) * s = o + s + i * s by rw [Nat.add_mul]; omega] at this) _ y hy
      rwa [h1, show o + s + (j - s) = o + j by omega] at ih
theorem length_flat {s : Nat} : ∀ {xs : List AVal}, (∀ (i : Nat) (x : AVal), xs[i]? = some x → x.cells.length = s) → (xs.flatMap AVal.cells).length = xs.length * s
  | [], _ => by simp
  | x :: xs, h => by
    rw [List.flatMap_cons, List.length_append, h 0 x rfl, length_flat (fun i y hy => h (i + 1) y (by simpa using hy)), List.length_cons, Nat.add_mul]
    omega

theorem lenOf_sound {P : Program} {κ : Kn} {x : AVal} {n : Nat} {c : Value} (h : lenOf x = some n) (hx : VR κ x c) (w : World) : (Builtin.lenOf c).run P w = .ok n w := by
  unfold lenOf at h
  split at h <;> cases h <;> cases hx <;> rfl

theorem elemCells0_sound {E : Env} {P : Program} {w0 : World} {κ : Kn} {σ : Store} {w : World} (hw : WR w0 κ σ w) {size n : Nat} {x : AVal} {cs : List AVal} {c : Value} (h : elemCells0 E σ size n x = some cs) (hx : VR κ x c) :
    (∃ vs : Array Value, (Builtin.firstCells size n c).run P w = .ok vs w ∧ LR κ cs vs) ∧ cs.length = n * size := by
  obtain ⟨own, hw⟩ := hw
  unfold elemCells0 at h
  split at h
  · rename_i xs ex
    split at h
    · rename_i hc
      obtain ⟨hn, hh⟩ := hc
      cases h
      have hall := headSize_all hx hh
      have hall' : ∀ (i : Nat) (x : AVal), (xs.take n)[i]? = some x → x.cells.length = size := fun i x hi => by
        rw [List.getElem?_take] at hi
        split at hi
        · exact hall i x hi
        · cases hi
      have hlen : ((xs.take n).flatMap AVal.cells).length = n * size := by rw [length_flat hall']; simp [Nat.min_eq_left hn]
      refine ⟨?_, hlen⟩
      cases hx with
      | nilslice _ a cap =>
        simp at hn
        subst hn
        exact ⟨#[], by simp [Builtin.firstCells, loadCells, loadCellsFrom], by simp [LR]⟩
      | slice _ _ b o s cap f hne hcap hex hs g1 g2 =>
        have hss : s = size := by
          obtain ⟨y, r, rfl⟩ := List.exists_cons_of_ne_nil hne
          rw [← hs 0 y rfl, hall 0 y rfl]
        subst hss
        have hst : Stands κ w b o ((xs.take n).flatMap AVal.cells) := Stands.flat (s := s) fun i x hi => by
          refine ⟨hall' i x hi, fun j y hy => ?_⟩
          rw [List.getElem?_take] at hi
          split at hi
          · have hj := lt_of_get hy
            rw [hall i x hi] at hj
            exact ⟨f i j, hw.imm _ _ _ (g1 i j (lt_of_get hi) hj), g2 i x j y hi hy⟩
          · cases hi
        obtain ⟨vs, r1, r2⟩ := hst.run_loadCells P
        rw [hlen] at r1
        exact ⟨vs, r1, r2⟩
    · cases h
  · rename_i id off len ex
    cases hg : σ.get id with
    | none => simp [hg] at h
    | some ob =>
      simp only [hg, Option.bind_eq_bind, Option.bind_some] at h
      cases ob with
      | arr g sz cells =>
        simp only at h
        split at h
        · rename_i hc
          obtain ⟨hn, hl, hz⟩ := hc
          cases h
          have hlen : ((cells.drop off).take (n * size)).length = n * size := by simp; omega
          refine ⟨?_, hlen⟩
          cases hx with
          | oslice _ _ _ _ p cap hp hcap hex hlim hnx =>
            obtain ⟨p', hp', hst, _⟩ := (hw.objs id _ hg).2.stands (cs := cells) rfl
            rw [hp] at hp'; cases hp'
            obtain ⟨vs, r1, r2⟩ := ((hst.drop off).take (n * size)).run_loadCells P
            rw [hlen] at r1
            exact ⟨vs, r1, r2⟩
        · cases h
      | cells => simp at h
      | map => simp at h
      | iter => simp at h
      | rmap => simp at h
      | itof => simp at h
      | loop => simp at h
  · rename_i s
    split at h
    · rename_i hc
      obtain ⟨hn, rfl⟩ := hc
      cases h
      have hlen : ((s.data.toList.take n).map fun b => AVal.int .u8 b.toNat).length = n := by
        simp only [List.length_map, List.length_take, Array.length_toList]
        exact Nat.min_eq_left hn
      refine ⟨?_, by rw [hlen, Nat.mul_one]⟩
      cases hx
      refine ⟨_, rfl, LR.of ?_ fun j y hy => ?_⟩
      · rw [hlen]
        simp only [Array.size_map]
        show (s.extract 0 n).size = n
        rw [ByteArray.size_extract]
        simp only [Nat.sub_zero]
        exact Nat.min_eq_left hn
      · simp only [List.getElem?_map, Option.map_eq_some_iff] at hy
        obtain ⟨b, hb, rfl⟩ := hy
        refine ⟨.int .u8 b.toNat, ?_, .int _ _⟩
        rw [List.getElem?_take] at hb
        split at hb
        · rename_i hj
          have hjs : j < s.data.size := by simpa using lt_of_get hb
          have e : (s.extract 0 n).data = s.data.extract 0 n := by
            simp [ByteArray.extract, ByteArray.copySlice]
          rw [Array.getElem?_map, e, Array.getElem?_extract]
          have : j < min n s.data.size - 0 := by omega
          simp only [Array.getElem?_toList] at hb
          rw [if_pos this, Nat.zero_add, hb]
          rfl
        · cases hb
    · cases h
  · split at h
    · rename_i h0
      cases h
      subst h0
      cases hx
      exact ⟨⟨#[], rfl, by simp [LR]⟩, by simp⟩
    · cases h
  · cases h

theorem elemCells_of {E : Env} {σ : Store} {size n : Nat} {x : AVal} {cs : List AVal} (h : elemCells E σ size n x = some cs) : elemCells0 E σ size n x = some cs ∧ cs.all AVal.one = true := by
  simp only [elemCells, Option.bind_eq_some_iff] at h
  obtain ⟨cs', h1, h2⟩ := h
  split at h2
  · rename_i h3; cases h2; exact ⟨h1, h3⟩
  · cases h2
theorem elemCells_sound {E : Env} {P : Program} {w0 : World} {κ : Kn} {σ : Store} {w : World} (hw : WR w0 κ σ w) {size n : Nat} {x : AVal} {cs : List AVal} {c : Value} (h : elemCells E σ size n x = some cs) (hx : VR κ x c) :
    (∃ vs : Array Value, (Builtin.firstCells size n c).run P w = .ok vs w ∧ LR κ cs vs) ∧ cs.length = n * size := elemCells0_sound hw (elemCells_of h).1 hx
theorem LR.ones {κ : Kn} {cs : List AVal} {vs : Array Value} (h : LR κ cs vs) (ho : cs.all AVal.one = true) : ∀ v ∈ vs.toList, v.oneCell' = true := by
  intro v hv
  obtain ⟨j, hj, rfl⟩ := List.getElem_of_mem hv
  simp only [Array.length_toList] at hj
  have hj' : j < cs.length := by rw [← h.1]; exact hj
  obtain ⟨v', g1, g2⟩ := h.get (List.getElem?_eq_getElem hj')
  rw [Array.getElem?_eq_getElem hj] at g1
  cases g1
  rw [Array.getElem_toList]
  exact g2.one (List.all_eq_true.1 ho _ (List.getElem_mem _))

/-! 'fill' -/
theorem foldl_set (l : List Value) : ∀ (k off : Nat) (cs : Array Value) (j : Nat), ((l.zipIdx k).foldl (fun cs (p : Value × Nat) => cs.setIfInBounds (off + p.2) p.1) cs)[j]? =
    if off + k ≤ j ∧ j < off + k + l.length ∧ j < cs.size then l[j - (off + k)]? else cs[j]? := by
  induction l with
  | nil => intro k off cs j; simp only [List.zipIdx_nil, List.foldl_nil, List.length_nil]; rw [if_neg (by omega)]
  | cons v l ih =>
    intro k off cs j
    rw [List.zipIdx_cons, List.foldl_cons, ih]
    simp only [Array.size_setIfInBounds, List.length_cons]
    by_cases h1 : off + (k + 1) ≤ j ∧ j < off + (k + 1) + l.length ∧ j < cs.size
    · rw [if_pos h1, if_pos (by omega), show j - (off + k) = (j - (off + (k + 1))) + 1 by omega, List.getElem?_cons_succ]
    · rw [if_neg h1, Array.getElem?_setIfInBounds]
      by_cases h2 : off + k = j
      · rw [if_pos h2]
        by_cases h3 : j < cs.size
        · rw [if_pos (by omega), if_pos (by omega), show j - (off + k) = 0 by omega]; rfl
        · rw [if_neg (by omega), if_neg (by omega), Array.getElem?_eq_none (by omega)]
      · rw [if_neg h2, if_neg (by omega)]
theorem size_foldl_set (l : List (Value × Nat)) (off : Nat) : ∀ (cs : Array Value), (l.foldl (fun cs (p : Value × Nat) => cs.setIfInBounds (off + p.2) p.1) cs).size = cs.size := by
  induction l with
  | nil => intro cs; rfl
  | cons p l ih => intro cs; rw [List.foldl_cons, ih]; simp

/-- Parts of a literal. -/
inductive PartsR (κ : Kn) : List (Nat × AVal) → List (Nat × Value) → Prop
  | nil : PartsR κ [] []
  | cons (i : Nat) (a : AVal) (c : Value) (ps : List (Nat × AVal)) (qs : List (Nat × Value)) (h : VR κ a c) (r : PartsR κ ps qs) : PartsR κ ((i, a) :: ps) ((i, c) :: qs)

theorem fill_sound {κ : Kn} {place : Nat → Option (Nat × Nat)} : ∀ {ps : List (Nat × AVal)} {qs : List (Nat × Value)} {cs cs' : List AVal} {vs : Array Value}, PartsR κ ps qs → LR κ cs vs → fillA place cs ps = some cs' →
    ∃ vs', Instr.fill place vs qs = some vs' ∧ LR κ cs' vs' ∧ cs'.length = cs.length ∧ (cs.all AVal.one = true → cs'.all AVal.one = true) := by
  intro ps
  induction ps with
  | nil =>
    intro qs cs cs' vs hp hl h
    cases hp
    cases h
    exact ⟨vs, rfl, hl, rfl, id⟩
  | cons p ps ih =>
    intro qs cs cs' vs hp hl h
    cases hp with
    | cons i a c _ qs hv hr =>
      simp only [fillA, Option.bind_eq_bind] at h
      cases hpl : place i with
      | none => simp [hpl] at h
      | some os =>
        obtain ⟨off, size⟩ := os
        simp only [hpl, Option.bind_some] at h
        split at h
        · rename_i hc
          obtain ⟨h1, h2, h3⟩ := hc
          have hcell := hv.cells
          have hsz : c.cells.size = size := by rw [hcell.1, h1]
          have hle : off + c.cells.size ≤ vs.size := by rw [hcell.1, hl.1]; exact h2
          have hl' : LR κ (setRange cs off a.cells) (c.cells.zipIdx.foldl (fun cs (p : Value × Nat) => cs.setIfInBounds (off + p.2) p.1) vs) := by
            rw [← Array.foldl_toList, Array.toList_zipIdx]
            refine LR.of (by rw [size_foldl_set, hl.1, length_setRange h2]) fun j y hy => ?_
            rw [getElem?_setRange h2] at hy
            rw [foldl_set]
            have hcl : c.cells.toList.length = a.cells.length := by simpa using hcell.1
            by_cases e : off ≤ j ∧ j < off + a.cells.length
            · rw [if_pos e] at hy
              obtain ⟨u, g1, g2⟩ := hcell.get hy
              refine ⟨u, ?_, g2⟩
              rw [if_pos ⟨by omega, by omega, by rw [hl.1]; omega⟩]
              simpa using g1
            · rw [if_neg e] at hy
              obtain ⟨u, g1, g2⟩ := hl.get hy
              refine ⟨u, ?_, g2⟩
              rw [if_neg (by omega)]
              exact g1
          obtain ⟨vs', k1, k2, k3, k4⟩ := ih hr hl' h
          refine ⟨vs', ?_, k2, by rw [k3, length_setRange h2], fun e => k4 ?_⟩
          · rw [Instr.fill]
            simp only [hpl]
            rw [if_neg (by simp [hsz]; omega)]
            exact k1
          · simp only [setRange, List.all_append, Bool.and_eq_true]
            exact ⟨⟨List.all_eq_true.2 fun x hx => List.all_eq_true.1 e x (List.mem_of_mem_take hx), h3⟩, List.all_eq_true.2 fun x hx => List.all_eq_true.1 e x (List.mem_of_mem_drop hx)⟩
        · cases h

theorem run_mapM {α β : Type} {P : Program} {w : World} (f : α → Sem β) (g : α → β) : ∀ (l : List α), (∀ x ∈ l, (f x).run P w = .ok (g x) w) → (l.mapM f).run P w = .ok (l.map g) w
  | [], _ => rfl
  | x :: l, h => by
    rw [List.mapM_cons]
    simp only [Sem.run_bind, h x (by simp), Result.andThen_ok, run_mapM f g l (fun y hy => h y (by simp [hy])), Sem.run_pure, List.map_cons]

theorem build_sound {E : Env} {P : Program} (hT : TabOk E.T P) {κ : Kn} {t : TypeId} {ps : List (Nat × AVal)} {qs : Array (Nat × Value)} {x : AVal} (h : build E t ps = some x) (hp : PartsR κ ps qs.toList)
    (w : World) : ∃ r, (Instr.build t qs).run P w = .ok r w ∧ VR κ x r := by
  unfold build at h
  simp only [Option.bind_eq_bind] at h
  cases hz : E.T.zero t with
  | none => simp [hz] at h
  | some z =>
    simp only [hz, Option.bind_some] at h
    obtain ⟨zv, d, z1, z2, z3, z4, z5, z6⟩ := hT.run_zero hz w
    simp only [Instr.build, Sem.run_bind, z1, Result.andThen_ok]
    split at h
    · rename_i fs hu
      simp only [Option.map_eq_some_iff] at h
      obtain ⟨cs', hf, rfl⟩ := h
      have hmap : (fs.mapM fun (f : Field) => do pure (f.offset, ← sizeOf f.type) : Sem (Array (Nat × Nat))).run P w = .ok (fs.map fun f => (f.offset, E.T.size f.type)) w := by
        rw [Array.mapM_eq_mapM_toList]
        have := run_mapM (P := P) (w := w) (fun f : Field => (do pure (f.offset, ← sizeOf f.type) : Sem (Nat × Nat))) (fun f => (f.offset, E.T.size f.type)) fs.toList fun f hf => by
          obtain ⟨d, hd⟩ := Option.isSome_iff_exists.1 (hT.cstruct t fs hu f hf)
          simp [hT.run_size hd]
        simp only [Sem.run_map, this, Result.andThen_ok]
        congr 1
        apply Array.ext'
        simp
      obtain ⟨vs', k1, k2, _⟩ := fill_sound hp (z2 κ) hf
      refine ⟨.agg vs', ?_, .agg _ _ k2.1 k2.2⟩
      simp only [hT.run_und hu, Result.andThen_ok, Sem.run_bind, hmap]
      have e : (fun (i : Nat) => (fs.map fun f => (f.offset, E.T.size f.type))[i]?) = fun (i : Nat) => (fs[i]?).map fun f => (f.offset, E.T.size f.type) := by
        funext i; simp
      rw [e, k1]
      rfl
    · rename_i n e hu
      simp only [Option.map_eq_some_iff] at h
      obtain ⟨cs', hf, rfl⟩ := h
      obtain ⟨vs', k1, k2, _⟩ := fill_sound hp (z2 κ) hf
      obtain ⟨de, hde⟩ := Option.isSome_iff_exists.1 (hT.carr t n e hu)
      refine ⟨.agg vs', ?_, .agg _ _ k2.1 k2.2⟩
      simp only [hT.run_und hu, Result.andThen_ok, Sem.run_bind, hT.run_size hde]
      simp only [k1]
      rfl
    · cases h

end Go.Ab

namespace Go.Ab
open Go.RowKit (Below)

theorem length_pieces (ag : Bool) (size : Nat) : ∀ (n : Nat) (cs : List AVal), (pieces ag size n cs).length = n
  | 0, _ => rfl
  | n + 1, cs => by simp [pieces, length_pieces ag size n]
theorem getElem?_pieces (ag : Bool) (size : Nat) : ∀ (n : Nat) (cs : List AVal) (i : Nat), i < n → (pieces ag size n cs)[i]? = some (if ag then .agg ((cs.drop (i * size)).take size) else (cs.drop (i * size)).headD .undef)
  | 0, _, _, h => by omega
  | n + 1, cs, 0, _ => by simp [pieces]
  | n + 1, cs, i + 1, h => by
    rw [pieces, List.getElem?_cons_succ, getElem?_pieces ag size n _ i (by omega), List.drop_drop, show size + i * size = (i + 1) * size by rw [Nat.add_mul]; omega]

theorem one_cells {x : AVal} (h : x.one = true) : x.cells = [x] := by
  cases x <;> first | rfl | cases h

/-- Cells that stay, as the elements of a slice. -/
theorem pieces_VR {κ : Kn} {ag ex : Bool} {size n cap b o : Nat} {cs : List AVal} (h : ∀ (k : Nat) (y : AVal), cs[k]? = some y → ∃ v, κ.imm b (o + k) = some v ∧ VR κ y v) (hl : n * size ≤ cs.length) (hz : size ≠ 0) (ho : cs.all AVal.one = true)
    (ha : ag = true ∨ size = 1) (hc : n ≤ cap) (he : ex = true → cap = n) : VR κ (.slice (pieces ag size n cs) ex) (.slice (some ⟨b, o, none⟩) n cap) := by
  by_cases hn : n = 0
  · subst hn
    exact .nilslice ex _ cap he
  · have hlen := length_pieces ag size n cs
    have hf : ∀ k, ∃ v, k < cs.length → κ.imm b (o + k) = some v ∧ ∀ y, cs[k]? = some y → VR κ y v := fun k => by
      by_cases hk : k < cs.length
      · obtain ⟨v, h1, h2⟩ := h k cs[k] (List.getElem?_eq_getElem hk)
        exact ⟨v, fun _ => ⟨h1, fun y hy => by rw [List.getElem?_eq_getElem hk] at hy; cases hy; exact h2⟩⟩
      · exact ⟨default, fun e => absurd e hk⟩
    have hlt : ∀ i j, i < n → j < size → i * size + j < cs.length := fun i j hi hj => by
      have : (i + 1) * size ≤ n * size := Nat.mul_le_mul_right _ hi
      rw [Nat.add_mul] at this
      omega
    have hcell : ∀ (i : Nat) (x : AVal), (pieces ag size n cs)[i]? = some x → i < n ∧ x.cells.length = size ∧ ∀ (j : Nat) (y : AVal), x.cells[j]? = some y → cs[i * size + j]? = some y := fun i x hi => by
      have hin : i < n := by have := lt_of_get hi; omega
      rw [getElem?_pieces ag size n cs i hin] at hi
      have h0 := hlt i 0 hin (by omega)
      by_cases hag : ag = true
      · rw [if_pos hag] at hi
        cases hi
        refine ⟨hin, ?_, fun j y hy => ?_⟩
        · have := hlt i (size - 1) hin (by omega)
          simp [AVal.cells]
          omega
        · simp only [AVal.cells, List.getElem?_take, List.getElem?_drop] at hy
          split at hy
          · exact hy
          · cases hy
      · rw [if_neg hag] at hi
        have hs1 : size = 1 := ha.resolve_left hag
        subst hs1
        cases hi
        simp only [Nat.mul_one] at *
        have hd : (cs.drop i).headD .undef = cs[i] := by
          rw [List.headD_eq_head?_getD, List.head?_drop, List.getElem?_eq_getElem (by omega)]
          rfl
        have h1 : (cs[i]).one = true := List.all_eq_true.1 ho _ (List.getElem_mem _)
        rw [hd, one_cells h1]
        refine ⟨hin, rfl, fun j y hy => ?_⟩
        cases j with
        | zero => simp at hy; subst hy; exact List.getElem?_eq_getElem (by omega)
        | succ j => simp at hy
    have key := VR.slice (κ := κ) (pieces ag size n cs) ex b o size cap (fun i j => Classical.choose (hf (i * size + j))) (fun e => by rw [e] at hlen; exact hn hlen.symm) (by omega) (fun e => by rw [hlen]; exact he e)
      (fun i x hi => (hcell i x hi).2.1)
      (fun i j hi hj => by
        rw [hlen] at hi
        have := (Classical.choose_spec (hf (i * size + j)) (hlt i j hi hj)).1
        exact (congrArg (κ.imm b) (Nat.add_assoc o (i * size) j)).trans this)
      (fun i x j y hi hy => by
        obtain ⟨h1, h2, h3⟩ := hcell i x hi
        have hj := lt_of_get hy
        exact (Classical.choose_spec (hf (i * size + j)) (hlt i j h1 (by omega))).2 y (h3 j y hy))
    rwa [hlen] at key

/-- A row that nobody owns: it stays as it is. -/
theorem WR.newImm {w0 : World} {κ : Kn} {σ : Store} {w : World} (hw : WR w0 κ σ w) (vs : Array Value) (e : TypeId) (fr : Nat × Nat) :
    ∃ κ', Ext σ.next κ κ' ∧ WR w0 κ' σ (w.alloc (.cells vs e fr)) ∧ ∀ (j : Nat) (v : Value), vs[j]? = some v → κ'.imm w.heap.size j = some v := by
  obtain ⟨own, hw⟩ := hw
  let κ' : Kn := { κ with imm := fun b o => if b = w.heap.size then vs[o]? else κ.imm b o }
  have hlt : ∀ b x v, κ.imm b x = some v → b < w.heap.size := fun b x v hi => World.block_lt_of_cell? _ _ (hw.imm b x v hi)
  have hle : κ.Le κ' := ⟨fun _ _ h => h, fun b o v hi => by
    show (if b = w.heap.size then vs[o]? else κ.imm b o) = some v
    rw [if_neg (by have := hlt b o v hi; omega)]; exact hi, rfl, rfl, rfl, rfl, fun b o v hi => by
    have hi : (if b = w.heap.size then vs[o]? else κ.imm b o) = some v := hi
    by_cases hb : b = w.heap.size
    · exact .inr (by rw [hb]; exact Nat.le_trans hw.lim hw.below.size)
    · rw [if_neg hb] at hi; exact .inl hi⟩
  have hg := hw.grow (.cells vs e fr)
  refine ⟨κ', ⟨hle, fun _ _ => rfl, fun _ h => h⟩, ⟨own, hg.below, fun b o v hi => ?_, fun b o id ho => ?_, fun id ob h => ⟨(hg.objs id ob h).1, (hg.objs id ob h).2.keep hle ⟨fun _ _ h => h, fun _ _ _ => ⟨rfl, rfl⟩, fun _ _ _ => rfl⟩⟩, hw.fresh, hg.marks, hw.lim⟩, fun j v hv => ?_⟩
  · have hi' : (if b = w.heap.size then vs[o]? else κ.imm b o) = some v := hi
    by_cases hb : b = w.heap.size
    · rw [if_pos hb] at hi'
      subst hb
      rw [cell_new]; exact hi'
    · rw [if_neg hb] at hi'
      exact hg.imm b o v hi'
  · obtain ⟨h1, h2, h3⟩ := hg.ownd b o id ho
    refine ⟨?_, h2, h3⟩
    show (if b = w.heap.size then vs[o]? else κ.imm b o) = none
    rw [if_neg (by have := (hw.ownd b o id ho).2.2; omega)]
    exact h1
  · show (if w.heap.size = w.heap.size then vs[j]? else κ.imm _ j) = some v
    rw [if_pos rfl]; exact hv

theorem get_flat_replicate (z : List AVal) : ∀ (n k : Nat), k < n * z.length → ((List.replicate n z).flatten)[k]? = z[k % z.length]?
  | 0, k, h => by omega
  | n + 1, k, h => by
    rw [List.replicate_succ, List.flatten_cons, List.getElem?_append]
    split
    · rename_i hk
      rw [Nat.mod_eq_of_lt hk]
    · rename_i hk
      have hz : 0 < z.length := by
        rcases Nat.eq_zero_or_pos z.length with e | e
        · rw [e] at h; simp at h
        · exact e
      rw [get_flat_replicate z n _ (by rw [Nat.add_mul] at h; omega), ← Nat.mod_eq_sub_mod (by omega)]
theorem zeros_LR {κ : Kn} {z : List AVal} {zv : Array Value} (h : LR κ z zv) (n : Nat) : LR κ ((List.replicate n z).flatten) ((Array.range (n * zv.size)).map (zv[· % zv.size]!)) := by
  have hl : ((List.replicate n z).flatten).length = n * z.length := by simp
  refine LR.of (by simp [hl, h.1]) fun k y hy => ?_
  have hk := lt_of_get hy
  rw [hl] at hk
  rw [get_flat_replicate z n k hk] at hy
  obtain ⟨u, h1, h2⟩ := h.get hy
  refine ⟨u, ?_, h2⟩
  rw [← h.1] at hk h1
  rw [Array.getElem?_map, Array.getElem?_range, if_pos hk, Option.map_some, getElem!_def, h1]

theorem buildSlice_sound {E : Env} {P : Program} (hT : TabOk E.T P) {w0 : World} {κ : Kn} {σ : Store} {w : World} (hw : WR w0 κ σ w) {t : TypeId} {len : Nat} {ps : List (Nat × AVal)} {qs : Array (Nat × Value)} {x : AVal}
    (h : buildSlice E t len ps = some x) (hp : PartsR κ ps qs.toList) : ∃ r w' κ', (Instr.buildSlice t len qs).run P w = .ok r w' ∧ VR κ' x r ∧ WR w0 κ' σ w' ∧ Ext σ.next κ κ' := by
  unfold buildSlice at h
  simp only [Option.bind_eq_bind] at h
  split at h
  · rename_i e hu
    cases hd : E.T.und e with
    | none => simp [hd] at h
    | some d =>
      simp only [hd, Option.bind_some] at h
      split at h
      · cases h
      · rename_i hsz
        have hsz1 : ¬ len * E.T.size e > 2 ^ 24 := by
          have := not_or.1 hsz
          omega
        have hz0 : E.T.size e ≠ 0 := (not_or.1 hsz).2
        simp only [Instr.buildSlice, Sem.run_bind, hT.run_und hu, Result.andThen_ok, hT.run_size hd, if_neg hsz1, Sem.run_pure]
        by_cases hl : len = 0
        · subst hl
          simp only [if_true, Option.bind_some, List.replicate_zero, List.flatten_nil] at h
          cases hf : fillA (fun i => some (i * E.T.size e, E.T.size e)) [] ps with
          | none => simp [hf] at h
          | some cs =>
            simp only [hf, Option.bind_some] at h
            split at h
            · cases h
              obtain ⟨vs', k1, k2, k3, k4⟩ := fill_sound (κ := κ) hp (vs := #[]) ⟨rfl, fun j y hy => by simp at hy⟩ hf
              obtain ⟨κ', e1, e2, e3⟩ := hw.newImm vs' e (0, 0)
              refine ⟨.slice (some ⟨w.heap.size, 0, none⟩) 0 0, _, κ', ?_, .nilslice _ _ _ (fun _ => rfl), e2, e1⟩
              simp only [Nat.zero_mul, if_true, Sem.run_bind, Sem.run_pure, Result.andThen_ok]
              rw [show (Array.range 0).map (fun x => (#[] : Array Value)[x % (#[] : Array Value).size]!) = #[] from by simp, k1]
              simp [newRow]
            · cases h
        · simp only [if_neg hl] at h
          cases hz : E.T.zero e with
          | none => simp [hz] at h
          | some z =>
            simp only [hz, Option.bind_some] at h
            obtain ⟨zv, d', z1, z2, z3, z4, z5, z6⟩ := hT.run_zero hz w
            rw [hd] at z5; cases z5
            cases hf : fillA (fun i => some (i * E.T.size e, E.T.size e)) ((List.replicate len z).flatten) ps with
            | none => simp [hf] at h
            | some cs =>
              simp only [hf, Option.bind_some] at h
              split at h
              · rename_i hc
                obtain ⟨hc1, hc2⟩ := hc
                cases h
                have hzs : zv.cells.size = E.T.size e := by rw [(z2 κ).1, z3]
                have hlr := zeros_LR (z2 κ) len
                rw [hzs] at hlr
                obtain ⟨vs', k1, k2, k3, k4⟩ := fill_sound hp hlr hf
                obtain ⟨κ', e1, e2, e3⟩ := hw.newImm vs' e (0, 0)
                have hone : cs.all AVal.one = true := k4 (List.all_eq_true.2 fun x hx => by
                  obtain ⟨l, hl1, hl2⟩ := List.mem_flatten.1 hx
                  rw [List.eq_of_mem_replicate hl1] at hl2
                  exact List.all_eq_true.1 z4 x hl2)
                refine ⟨.slice (some ⟨w.heap.size, 0, none⟩) len len, _, κ', ?_, pieces_VR (fun k y hy => ?_) (by rw [k3, hc1]; exact Nat.le_refl _) hz0 hone hc2 (Nat.le_refl _) (fun _ => rfl), e2, e1⟩
                · have hne : ¬ len * E.T.size e = 0 := by
                    intro e0
                    rcases Nat.mul_eq_zero.1 e0 with e0 | e0
                    · exact hl e0
                    · exact hz0 e0
                  simp only [if_neg hne, Sem.run_bind, z1, Result.andThen_ok, Sem.run_pure, hzs]
                  rw [k1]
                  simp [newRow]
                · obtain ⟨u, g1, g2⟩ := k2.get hy
                  exact ⟨u, by rw [Nat.zero_add]; exact e3 k u g1, g2.mono e1.le⟩
              · cases h
  · cases h

end Go.Ab

namespace Go.Ab
open Go.RowKit (Below)

/-- What an operation leaves: a value, a world, what is known. -/
def Leaves (w0 : World) (κ : Kn) (σ : Store) (x : AVal) (σ' : Store) (res : Result Value) : Prop :=
  ∃ r w' κ', res = .ok r w' ∧ VR κ' x r ∧ WR w0 κ' σ' w' ∧ Ext σ.next κ κ' ∧ σ.next ≤ σ'.next
theorem Leaves.pure {w0 : World} {κ : Kn} {σ : Store} {w : World} {x : AVal} {res : Result Value} (hw : WR w0 κ σ w) (h : ∃ r, res = .ok r w ∧ VR κ x r) : Leaves w0 κ σ x σ res :=
  let ⟨r, h1, h2⟩ := h; ⟨r, w, κ, h1, h2, hw, Ext.refl _ _, Nat.le_refl _⟩

theorem store_sound {E : Env} {P : Program} (hT : TabOk E.T P) {w0 : World} {κ : Kn} {σ σ' : Store} {w : World} (hw : WR w0 κ σ w) {t : TypeId} {p x : AVal} {c u : Value}
    (h : store E σ t p x = some σ') (hp : VR κ p c) (hx : VR κ x u) : ∃ w', (Instr.storeAt t c u).run P w = .ok () w' ∧ WR w0 κ σ' w' ∧ σ'.next = σ.next := by
  obtain ⟨own, hw⟩ := hw
  unfold store at h
  split at h
  · rename_i id off
    simp only [Option.bind_eq_bind] at h
    cases hg : σ.get id with
    | none => simp [hg] at h
    | some ob =>
      simp only [hg, Option.bind_some] at h
      cases hc : ob.cells? with
      | none => simp [hc] at h
      | some cs =>
        simp only [hc, Option.bind_some] at h
        split at h
        · rename_i hcond
          obtain ⟨h1, h2, h3, h4⟩ := hcond
          cases h
          cases hp with
          | ptr _ _ q hq =>
            have hcell := hx.cells
            have hsz : u.cells.size = E.T.size t := by rw [hcell.1, h1]
            obtain ⟨q', hq', hst, hcs⟩ := (hw.objs id ob hg).2.stands hc
            rw [hq] at hq'; cases hq'
            refine ⟨w.setCells q.block (q.off + off) u.cells.toList, ?_, ⟨own, hw.write hg hc hq h3 (by simpa using hcell.1) fun j y v hy hv => ?_⟩, rfl⟩
            · simp only [Instr.storeAt, Instr.sureAddr, Sem.run_bind, Sem.run_pure, Result.andThen_ok, storeVar, size_und hT (t := t) (by rw [← h1]; exact h2) hT.tot, hsz, ne_eq, not_true_eq_false, if_false]
              have key := run_storeCells_cells (P := P) q.block (q.off + off) u.cells.toList 0 w (fun j hj => ?_) (fun j hj => ?_) (fun v hv => ?_)
              · simpa using key
              · simp only [Array.length_toList] at hj
                obtain ⟨v, g1, _⟩ := hst (off + j) cs[off + j] (List.getElem?_eq_getElem (by have := hcell.1; omega))
                rw [show q.off + off + 0 + j = q.off + (off + j) by omega, g1]; rfl
              · simp only [Array.length_toList] at hj
                have := (hcs (off + j) cs[off + j] (List.getElem?_eq_getElem (by have := hcell.1; omega))).2.1
                rwa [show q.off + off + 0 + j = q.off + (off + j) by omega]
              · obtain ⟨j, hj, rfl⟩ := List.getElem_of_mem hv
                simp only [Array.length_toList] at hj
                have hj' : j < x.cells.length := by rw [← hcell.1]; exact hj
                obtain ⟨v', g1, g2⟩ := hcell.get (List.getElem?_eq_getElem hj')
                rw [Array.getElem?_eq_getElem hj] at g1
                cases g1
                rw [Array.getElem_toList]
                exact g2.one (List.all_eq_true.1 h4 _ (List.getElem_mem _))
            · obtain ⟨v', g1, g2⟩ := hcell.get hy
              simp only [Array.getElem?_toList] at hv
              rw [hv] at g1
              cases g1
              exact g2
        · cases h
  · cases h

theorem alloc_sound {E : Env} {P : Program} (hT : TabOk E.T P) {w0 : World} {κ : Kn} {σ σ' : Store} {w : World} (hw : WR w0 κ σ w) {t : TypeId} {x : AVal} (h : alloc E σ t = some (x, σ')) :
    Leaves w0 κ σ x σ' ((Instr.alloc t true (.tuple #[])).run P w) := by
  simp only [alloc, Option.bind_eq_bind] at h
  cases hz : E.T.zero t with
  | none => simp [hz] at h
  | some z =>
    simp only [hz, Option.bind_some, Option.some.injEq, Prod.mk.injEq] at h
    obtain ⟨rfl, rfl⟩ := h
    obtain ⟨zv, d, z1, z2, z3, z4, z5, z6⟩ := hT.run_zero hz w
    obtain ⟨κ', e1, e2, e3⟩ := hw.newVar (z2 κ) t
    exact ⟨_, _, κ', by simp [Instr.alloc, z1, newVar, newRow], e3, e2, e1, by simp⟩

theorem box_sound {P : Program} {w0 : World} {κ : Kn} {σ σ' : Store} {w : World} (hw : WR w0 κ σ w) {t : TypeId} {v x : AVal} {c : Value} (hv : VR κ v c) (h : box σ v = some (x, σ')) :
    Leaves w0 κ σ x σ' ((Instr.box t c).run P w) := by
  unfold box at h
  split at h
  · cases h
    obtain ⟨κ', e1, e2, e3⟩ := hw.newVar hv.cells t
    exact ⟨_, _, κ', by simp [Instr.box, newVar, newRow], e3, e2, e1, by simp⟩
  · cases h

theorem makeSlice_sound {E : Env} {P : Program} (hT : TabOk E.T P) {w0 : World} {κ : Kn} {σ σ' : Store} {w : World} (hw : WR w0 κ σ w) {t : TypeId} {l c x : AVal} {lv cv : Value} (hl : VR κ l lv) (hc : VR κ c cv)
    (h : makeSlice E σ t l c = some (x, σ')) : Leaves w0 κ σ x σ' ((Instr.makeSlice t lv cv).run P w) := by
  unfold makeSlice at h
  simp only [Option.bind_eq_bind] at h
  split at h
  · rename_i e hu
    cases hli : intOf l with
    | none => simp [hli] at h
    | some li =>
      cases hci : intOf c with
      | none => simp [hli, hci] at h
      | some ci =>
        simp only [hli, hci, Option.bind_some] at h
        split at h
        · rename_i hcond
          obtain ⟨h0, rfl, h2, h3, h4⟩ := hcond
          cases hz : E.T.zero e with
          | none => simp [hz] at h
          | some z =>
            cases hd : E.T.und e with
            | none => simp [hz, hd] at h
            | some d =>
              simp only [hz, hd, Option.bind_some] at h
              split at h
              · rename_i hzc
                cases h
                obtain ⟨k1, rfl⟩ := intOf_sound hli hl
                obtain ⟨k2, rfl⟩ := intOf_sound hci hc
                obtain ⟨zv, d', z1, z2, z3, z4, z5, z6⟩ := hT.run_zero hz w
                obtain ⟨inf, i1, i2, i3⟩ := hT.run_bytes hd w
                have hwrap : IntKind.i64.wrap li = li := by
                  have : (2:Int) ^ 24 = 16777216 := by decide
                  exact IntWalk.i64_in _ (by omega)
                have hbig : ¬ ((inf.bytes : Int) * li > 2 ^ 48) := by
                  rw [i2]
                  have : (E.T.bytes e : Int) * li ≤ 2 ^ 20 * 2 ^ 24 := Int.mul_le_mul (by exact_mod_cast h3) h2 h0 (by decide)
                  have e4 : (2:Int) ^ 20 * 2 ^ 24 ≤ 2 ^ 48 := by decide
                  omega
                have hzs : zv.cells.size = E.T.size e := by rw [(z2 κ).1, z3]
                have hlr := zeros_LR (z2 κ) li.toNat
                rw [hzs] at hlr
                obtain ⟨κ', e1, e2, e3⟩ := hw.newArr (cs := (List.replicate li.toNat z).flatten) (vs := (Array.range (li.toNat * E.T.size e)).map (zv.cells[· % E.T.size e]!)) (fun j y hy => hlr.get hy) (by rw [hlr.1]; exact Nat.le_refl _) e (0, 0) (fun j _ => by simp) (isAgg d) (E.T.size e)
                  (len := li.toNat) (cap := li.toNat) (ex := true) (Nat.le_refl _) (fun _ => rfl) (by simp)
                refine ⟨.slice (some ⟨w.heap.size, 0, none⟩) li.toNat li.toNat, _, κ', ?_, e3, e2, e1, by simp⟩
                have hneg : ¬ li < 0 := by omega
                simp only [Instr.makeSlice, Sem.run_bind, hT.run_und hu, Result.andThen_ok, asInt, asIntOf, Sem.run_pure, i1, hwrap, hneg, decide_false, hbig, Bool.or_self, Bool.false_or, gt_iff_lt, Int.lt_irrefl, run_askRoom, hT.run_size hd]
                by_cases hn : li.toNat * E.T.size e = 0
                · have hr : ∀ f : Nat → Value, (Array.range 0).map f = #[] := fun f => by simp
                  simp [hT.run_size hd, hn, newRow, hr]
                · simp [hT.run_size hd, hn, newRow, z1, hzs]
              · cases h
        · cases h
  · cases h


theorem makeInterface_sound {E : Env} {P : Program} (hT : TabOk E.T P) {κ : Kn} {t : TypeId} {a x : AVal} {c : Value} (h : makeInterface E t a = some x) (ha : VR κ a c) (w : World) :
    ∃ r, (Instr.makeInterface t c).run P w = .ok r w ∧ VR κ x r := by
  unfold makeInterface at h
  split at h
  · cases h
  · cases h
  · rename_i h1 h2
    cases h
    cases hd : E.T.und t with
    | none => exact absurd hd h1
    | some d =>
      refine ⟨.iface t c, ?_, .iface t a c ha⟩
      simp only [Instr.makeInterface, Sem.run_bind, hT.run_und hd, Result.andThen_ok]
      cases d <;> first | rfl | exact absurd hd (h2 _)

theorem zeroOf_sound {T : Tab} {P : Program} (hT : TabOk T P) {t : TypeId} {z : AVal} (h : zeroOf T t = some z) (κ : Kn) (w : World) : ∃ v, (zeroValue t).run P w = .ok v w ∧ VR κ z v := by
  simp only [zeroOf, Option.bind_eq_bind] at h
  cases hz : T.zero t with
  | none => simp [hz] at h
  | some l =>
    cases hd : T.und t with
    | none => simp [hz, hd] at h
    | some d =>
      simp only [hz, hd, Option.bind_some] at h
      obtain ⟨v, d', z1, z2, z3, z4, z5, z6⟩ := hT.run_zero hz w
      rw [hd] at z5; cases z5
      refine ⟨v, z1, ?_⟩
      split at h
      · rename_i ha
        cases h
        rw [z6.1 ha]
        exact .agg _ _ (z2 κ).1 (z2 κ).2
      · obtain ⟨u, g1, g2⟩ := (z2 κ).get h
        rename_i hna
        rw [z6.2 (by simpa using hna)] at g1
        simp at g1
        subst g1
        exact g2

theorem VR.pair {κ : Kn} {a b : AVal} {u v : Value} (ha : VR κ a u) (hb : VR κ b v) : VR κ (.tuple [a, b]) (.tuple #[u, v]) := by
  refine .tuple _ _ rfl fun j y hy => ?_
  match j, hy with
  | 0, hy => simp at hy; subst hy; exact ha
  | 1, hy => simp at hy; subst hy; exact hb
  | j + 2, hy => simp at hy

theorem typeAssert_sound {E : Env} {P : Program} (hT : TabOk E.T P) {κ : Kn} {a x : AVal} {xt t : TypeId} {ok : Bool} {c : Value} (h : typeAssert E a t ok = some x) (ha : VR κ a c) (w : World) :
    ∃ r, (Instr.typeAssert c xt t ok).run P w = .ok r w ∧ VR κ x r := by
  unfold typeAssert at h
  split at h
  · cases h
  · cases h
  · rename_i d hni hd
    have hno : ∀ y, assertNo E t ok = some y → ok = true ∧ ∃ r, (zeroValue t).run P w = .ok r w ∧ VR κ y (.tuple #[r, .bool false]) := by
      intro y hy
      cases ok with
      | false => cases hy
      | true =>
        refine ⟨rfl, ?_⟩
        simp only [assertNo, if_true, Option.map_eq_some_iff] at hy
        obtain ⟨z, hz, rfl⟩ := hy
        obtain ⟨r, g1, g2⟩ := zeroOf_sound hT hz κ w
        exact ⟨r, g1, g2.pair (.bool _)⟩
    split at h
    · rename_i u v
      cases ha with
      | iface _ _ v' hv =>
        split at h
        · rename_i he
          subst he
          cases h
          have hrun : (Instr.typeAssert (.iface u v') xt u ok).run P w = .ok (if ok then .tuple #[v', .bool true] else v') w := by
            simp only [Instr.typeAssert, Sem.run_bind, hT.run_und hd, Result.andThen_ok]
            cases d <;> first | exact absurd hd (hni _) | simp
          refine ⟨_, hrun, ?_⟩
          cases ok with
          | false => exact hv
          | true => exact hv.pair (.bool _)
        · rename_i hne
          obtain ⟨rfl, r, g1, g2⟩ := hno _ h
          refine ⟨_, ?_, g2⟩
          simp only [Instr.typeAssert, Sem.run_bind, hT.run_und hd, Result.andThen_ok]
          cases d <;> first | exact absurd hd (hni _) | simp [hne, g1]
    · cases ha
      obtain ⟨rfl, r, g1, g2⟩ := hno _ h
      refine ⟨_, ?_, g2⟩
      simp only [Instr.typeAssert, Sem.run_bind, hT.run_und hd, Result.andThen_ok]
      cases d <;> first | exact absurd hd (hni _) | simp [g1]
    · cases h

end Go.Ab
