/-
  SOUNDNESS, fourteenth part: maps that change, conversions, iterators.
  SOUNDNESS, fifteenth part: conversions, iterators; every operation that is no call of a function.
  SOUNDNESS, sixteenth part: every operation that is no call of a function.
-/
import Derived.Test.YtakinpjaklgacaaGreatDoorAbE
import Derived.MapKept
import Derived.Laws.IdiomStrings
namespace Go.Ab
open Go.RowKit (Below)

def World.putBlock (w : World) (b : Nat) (o : Obj) : World := { w with heap := w.heap.setIfInBounds b o }
theorem heap_putBlock_ne (w : World) (b : Nat) (o : Obj) (k : Nat) (h : k ≠ b) : (World.putBlock w b o).heap[k]? = w.heap[k]? := by
  show (w.heap.setIfInBounds b o)[k]? = _
  rw [Array.getElem?_setIfInBounds, if_neg (Ne.symm h)]
theorem heap_putBlock {w : World} {b : Nat} {o o' : Obj} (h : w.heap[b]? = some o) : (World.putBlock w b o').heap[b]? = some o' := by
  have hlt : b < w.heap.size := (Array.getElem?_eq_some_iff.1 h).1
  show (w.heap.setIfInBounds b o')[b]? = _
  rw [Array.getElem?_setIfInBounds, if_pos rfl, if_pos hlt]
theorem size_putBlock (w : World) (b : Nat) (o : Obj) : (World.putBlock w b o).heap.size = w.heap.size := Array.size_setIfInBounds ..
def Obj.bare : Obj → Bool
  | .map .. | .stringIter .. | .mapIter .. | .loop .. => true
  | _ => false
theorem cell_bare {w : World} {b : Nat} {o : Obj} (h : w.heap[b]? = some o) (hb : Obj.bare o = true) (x : Nat) : w.cell? ⟨b, x, none⟩ = none ∧ w.frozen? ⟨b, x, none⟩ = false := by
  unfold World.cell? World.frozen?
  simp only [h]
  cases o <;> first | exact ⟨rfl, rfl⟩ | cases hb

theorem run_setObj_bare {P : Program} {w : World} {b : Nat} {o : Obj} (o' : Obj) (h : w.heap[b]? = some o) (hb : Obj.bare o = true) : (setObj b o').run P w = .ok () (World.putBlock w b o') := by
  cases o <;> first | (simp [setObj, Sem.run, h, World.putBlock]; done) | (simp [Obj.bare] at hb; done)
theorem bytes_beq {a b : ByteArray} : (a == b) = true ↔ a = b := by
  cases a with | mk x => cases b with | mk y =>
  have : ((⟨x⟩ : ByteArray) == ⟨y⟩) = (x == y) := rfl
  rw [this]
  simp
/-- A map, an iterator is put anew. -/
theorem WRo.putBare {w0 : World} {κ : Kn} {own : Nat → Nat → Option Nat} {σ : Store} {w : World} (hw : WRo w0 κ own σ w) {id b : Nat} {ob ob' : AObj} {o o' : Obj} (hg : σ.get id = some ob) (ho : own b 0 = some id) (hb : w.heap[b]? = some o)
    (h1 : Obj.bare o = true) (h2 : Obj.bare o' = true) (hnew : OR κ (World.putBlock w b o') own id ob') : WRo w0 κ own (σ.put id ob') (World.putBlock w b o') := by
  have same : ∀ x y, (World.putBlock w b o').cell? ⟨x, y, none⟩ = w.cell? ⟨x, y, none⟩ ∧ (World.putBlock w b o').frozen? ⟨x, y, none⟩ = w.frozen? ⟨x, y, none⟩ := fun x y => by
    by_cases e : x = b
    · subst e
      have c1 := cell_bare hb h1 y
      have c2 := cell_bare (heap_putBlock (o' := o') hb) h2 y
      exact ⟨by rw [c1.1, c2.1], by rw [c1.2, c2.2]⟩
    · unfold World.cell? World.frozen?
      simp only [heap_putBlock_ne w b o' x e, and_self]
  have hbl := (hw.ownd b 0 id ho).2.1
  refine ⟨⟨hw.below.os, hw.below.tape, hw.below.output, by rw [size_putBlock]; exact hw.below.size, fun k hk => by rw [heap_putBlock_ne w b o' k (by omega)]; exact hw.below.block k hk⟩, fun x y v hi => by rw [(same x y).1]; exact hw.imm x y v hi, fun x y i h => by rw [size_putBlock]; exact hw.ownd x y i h, fun i ob1 hi => ?_, hw.fresh, fun x hx => let ⟨m1, m2, m3⟩ := hw.marks x hx; ⟨by rw [heap_putBlock_ne w b o' x (fun e => by rw [e] at m3; rw [m3] at ho; cases ho)]; exact m1, m2, m3⟩, hw.lim⟩
  rw [Store.get_put] at hi
  by_cases e : i = id
  · subst e
    rw [if_pos rfl] at hi
    cases hi
    exact ⟨(hw.objs i _ hg).1, hnew⟩
  · rw [if_neg e] at hi
    obtain ⟨g1, g2⟩ := hw.objs i ob1 hi
    refine ⟨g1, g2.keep (Kn.Le.refl κ) ⟨fun _ _ h => h, fun x y _ => same x y, fun x hx _ => ?_⟩⟩
    refine heap_putBlock_ne w b o' x fun e' => ?_
    subst e'
    rw [ho] at hx
    exact e (Option.some.inj hx).symm

theorem map_object {w0 : World} {κ : Kn} {own : Nat → Nat → Option Nat} {σ : Store} {w : World} (hw : WRo w0 κ own σ w) {id : Nat} {es : List (AVal × AVal)} {p : Place} (hg : MapAt σ id es) (hp : κ.base id = some p) :
    ∃ ms clock, w.heap[p.block]? = some (.map ms clock) ∧ EntriesR κ es ms ∧ BornOk ms clock ∧ own p.block 0 = some id := by
  rcases hg with hg | ⟨it, n, hg⟩
  · have := (hw.objs id _ hg).2
    cases this with
    | map _ p' ms clock hp' hb he hn ho => rw [hp] at hp'; cases hp'; exact ⟨ms, clock, hb, he, hn, ho⟩
  · have := (hw.objs id _ hg).2
    cases this with
    | rmap _ _ _ p' q ms clock since seen last hp' hq h0 hb hi he hn hs ho hoq => rw [hp] at hp'; cases hp'; exact ⟨ms, clock, hb, he, hn, ho⟩

theorem WRo.putMap {w0 : World} {κ : Kn} {own : Nat → Nat → Option Nat} {σ : Store} {w : World} (hw : WRo w0 κ own σ w) {id : Nat} {es es' : List (AVal × AVal)} {p : Place} {ms ms' : Array MapEntry} {clock clock' : Nat} (hg : MapAt σ id es) (hp : κ.base id = some p)
    (hb : w.heap[p.block]? = some (.map ms clock)) (ho : own p.block 0 = some id) (he : EntriesR κ es' ms') (hn : BornOk ms' clock') : WRo w0 κ own (σ.put id (.map es')) (World.putBlock w p.block (.map ms' clock')) := by
  rcases hg with hg | ⟨it, n, hg⟩ <;> exact hw.putBare hg ho hb rfl rfl (.map es' p ms' clock' hp (heap_putBlock hb) he hn ho)

theorem sameBits_of_keyEq {κ : Kn} {a b : AVal} {u v : Value} (h : keyEq a b = some true) (ha : VR κ a u) (hb : VR κ b v) : Instr.sameBits 10000 v u = true := by
  unfold keyEq at h
  split at h
  · split at h
    · rename_i e
      subst e
      simp at h
      subst h
      cases ha; cases hb
      simp [Instr.sameBits]
    · cases h
  · simp only [Option.some.injEq] at h
    have h := bytes_beq.1 h
    subst h
    cases ha; cases hb
    simp [Instr.sameBits, bytes_beq]
  · cases h

theorem mapUpdate_sound {E : Env} {P : Program} (hT : TabOk E.T P) {w0 : World} {κ : Kn} {σ σ' : Store} {w : World} (hw : WR w0 κ σ w) {t : TypeId} {m k v : AVal} {mc kc vc : Value} (hm : VR κ m mc) (hk : VR κ k kc) (hv : VR κ v vc)
    (h : mapUpdate E σ t m k v = some σ') : ∃ w', (Instr.mapUpdate t mc kc vc).run P w = .ok () w' ∧ WR w0 κ σ' w' ∧ σ'.next = σ.next := by
  unfold mapUpdate at h
  simp only [Option.bind_eq_bind] at h
  split at h
  case h_2 => cases h
  rename_i kt et hu
  split at h
  case isFalse => cases h
  rename_i hpk
  obtain ⟨d, hdu, hd⟩ := plainKey_kind hpk
  split at h
  case h_2 => cases h
  rename_i id
  cases hes : mapEntries σ (.map id) with
  | none => simp [hes] at h
  | some es =>
  simp only [hes, Option.bind_some] at h
  cases hf : findKey k es 0 with
  | none => simp [hf] at h
  | some res =>
  simp only [hf, Option.bind_some] at h
  rcases mapEntries_sound hw hes hm with ⟨e, _⟩ | ⟨id', p, ms0, clock0, e, hp, rfl, hg, _, _, _⟩
  · cases e
  cases e
  obtain ⟨own, hw⟩ := hw
  obtain ⟨ms, clock, hb, he, hn, ho⟩ := map_object hw hg hp
  have hfs := findKey_sound hk hd es ms.toList 0 res hf (by simpa using he.1) (fun j e m a b => he.2 j e m a (by simpa using b))
  have hchk := fun b => checkKey_run (P := P) hT hdu hd hk b w
  cases res with
  | none =>
    simp only at h hfs
    cases h
    refine ⟨World.putBlock w p.block (.map (ms.push { key := kc, val := vc, born := clock }) (clock + 1)), ?_, ⟨own, hw.putMap hg hp hb ho ⟨by simp [he.1], fun j e q h1 h2 => ?_⟩ ⟨fun j q h2 => ?_, fun i j q r hij h2 h3 => ?_⟩⟩, rfl⟩
    · simp only [Instr.mapUpdate, Sem.run_bind, hT.run_und hu, Result.andThen_ok, Ab.run_getObj_map hb, hchk, Instr.findKey, hT.run_und hdu, hfs, Sem.run_pure, run_setObj_bare _ hb rfl]
    · rw [List.getElem?_append] at h1
      rw [Array.getElem?_push] at h2
      have hs := he.1
      by_cases e' : j < es.length
      · rw [if_pos e'] at h1; rw [if_neg (by omega)] at h2; exact he.2 j e q h1 h2
      · rw [if_neg e'] at h1
        have hj0 : j - es.length = 0 := by
          have := lt_of_get h1
          simp at this
          omega
        rw [hj0] at h1
        rw [if_pos (by omega)] at h2
        cases h1; cases h2
        exact ⟨hk, hv⟩
    · rw [Array.getElem?_push] at h2
      split at h2
      · cases h2; show clock < clock + 1; omega
      · have := hn.1 j q h2; omega
    · rw [Array.getElem?_push] at h2 h3
      split at h2
      · rename_i e1
        split at h3
        · omega
        · have := (Array.getElem?_eq_some_iff.1 h3).1
          omega
      · split at h3
        · cases h3
          exact hn.1 i q h2
        · exact hn.2 i j q r hij h2 h3
  | some iv =>
    obtain ⟨n, v0⟩ := iv
    simp only at h hfs
    cases h
    obtain ⟨u, g1, g2, g3, g4, e', g5, g6⟩ := hfs
    simp only [Nat.sub_zero] at g4 g5
    have hs := he.1
    have hmn : ms[n]? = some ms[n] := Array.getElem?_eq_getElem (by omega)
    have hkey := (he.2 n e' ms[n] g5 hmn).1
    have hsb := sameBits_of_keyEq g6 hk hkey
    have hkts : (Instr.keyThatStays (((ms[n]?).map (·.key)).getD kc) kc).run P w = .ok kc w := by
      simp [Instr.keyThatStays, hmn, hsb]
    refine ⟨World.putBlock w p.block (.map (ms.modify n fun e => { e with key := kc, val := vc }) clock), ?_, ⟨own, hw.putMap hg hp hb ho ⟨by simp [he.1], fun j e q h1 h2 => ?_⟩ ⟨fun j q h2 => ?_, fun i j q r hij h2 h3 => ?_⟩⟩, rfl⟩
    · simp only [Instr.mapUpdate, Sem.run_bind, hT.run_und hu, Result.andThen_ok, Ab.run_getObj_map hb, hchk, Instr.findKey, hT.run_und hdu, g1, Sem.run_pure, hkts, run_setObj_bare _ hb rfl]
    · rw [List.getElem?_set] at h1
      rw [Array.getElem?_modify] at h2
      split at h1
      · rename_i e1
        subst e1
        rw [if_pos rfl] at h2
        cases h1
        rw [hmn] at h2
        cases h2
        exact ⟨hk, hv⟩
      · rename_i e1
        rw [if_neg e1] at h2
        exact he.2 j e q h1 h2
    · rw [Array.getElem?_modify] at h2
      split at h2
      · simp only [Option.map_eq_some_iff] at h2
        obtain ⟨q', h2, rfl⟩ := h2
        exact hn.1 j q' h2
      · exact hn.1 j q h2
    · have born : ∀ (i : Nat) (q : MapEntry), (ms.modify n fun e => { e with key := kc, val := vc })[i]? = some q → ∃ q', ms[i]? = some q' ∧ q'.born = q.born := fun i q hq => by
        rw [Array.getElem?_modify] at hq
        split at hq
        · simp only [Option.map_eq_some_iff] at hq
          obtain ⟨q', h2, rfl⟩ := hq
          exact ⟨q', h2, rfl⟩
        · exact ⟨q, hq, rfl⟩
      obtain ⟨q', a1, a2⟩ := born i q h2
      obtain ⟨r', b1, b2⟩ := born j r h3
      rw [← a2, ← b2]
      exact hn.2 i j q' r' hij a1 b1

theorem mapDelete_sound {E : Env} {P : Program} (hT : TabOk E.T P) {w0 : World} {κ : Kn} {σ σ' : Store} {w : World} (hw : WR w0 κ σ w) {argTypes : Array TypeId} {t ty : TypeId} {m k : AVal} {mc kc : Value} {rest : List Value} (h0 : argTypes[0]? = some t) (hm : VR κ m mc) (hk : VR κ k kc)
    (h : mapDelete E σ t m k = some σ') : ∃ w', (Builtin.delete_ argTypes ty (mc :: kc :: rest).toArray).run P w = .ok (.tuple #[]) w' ∧ WR w0 κ σ' w' ∧ σ'.next = σ.next := by
  unfold mapDelete at h
  simp only [Option.bind_eq_bind] at h
  split at h
  case h_2 => cases h
  rename_i kt et hu
  split at h
  case isFalse => cases h
  rename_i hpk
  obtain ⟨d, hdu, hd⟩ := plainKey_kind hpk
  have hchk := fun b => checkKey_run (P := P) hT hdu hd hk b w
  split at h
  · cases h
    cases hm
    exact ⟨w, by simp [Builtin.delete_, h0, hT.run_und hu, hchk], hw, rfl⟩
  · rename_i id
    cases hes : mapEntries σ (.map id) with
    | none => simp [hes] at h
    | some es =>
    simp only [hes, Option.bind_some] at h
    cases hf : findKey k es 0 with
    | none => simp [hf] at h
    | some res =>
    simp only [hf, Option.bind_some] at h
    rcases mapEntries_sound hw hes hm with ⟨e, _⟩ | ⟨id', p, ms0, clock0, e, hp, rfl, hg, _, _, _⟩
    · cases e
    cases e
    obtain ⟨own, hw⟩ := hw
    obtain ⟨ms, clock, hb, he, hn, ho⟩ := map_object hw hg hp
    have hfs := findKey_sound hk hd es ms.toList 0 res hf (by simpa using he.1) (fun j e m a b => he.2 j e m a (by simpa using b))
    cases res with
    | none =>
      simp only at h hfs
      cases h
      refine ⟨World.putBlock w p.block (.map ms clock), ?_, ?_, rfl⟩
      · simp only [Builtin.delete_, h0, List.getElem?_toArray, List.getElem?_cons_zero, List.getElem?_cons_succ, Sem.run_bind, hT.run_und hu, Result.andThen_ok, Ab.run_getObj_map hb, hchk, Instr.findKey, hT.run_und hdu, hfs, Sem.run_pure, run_setObj_bare _ hb rfl]
      · have : World.putBlock w p.block (.map ms clock) = w := by
          unfold World.putBlock
          have : w.heap.setIfInBounds p.block (.map ms clock) = w.heap := by
            apply Array.ext_getElem?
            intro i
            rw [Array.getElem?_setIfInBounds]
            split
            · rename_i e
              subst e
              rw [hb, if_pos (Array.getElem?_eq_some_iff.1 hb).1]
            · rfl
          rw [this]
        rw [this]
        exact ⟨own, hw⟩
    | some iv =>
      obtain ⟨n, v0⟩ := iv
      simp only at h hfs
      cases h
      obtain ⟨u, g1, g2, g3, g4, e', g5, g6⟩ := hfs
      simp only [Nat.sub_zero] at g4 g5
      have hs := he.1
      have herase : ms.eraseIdxIfInBounds n = (ms.toList.eraseIdx n).toArray := by
        simp only [Array.eraseIdxIfInBounds]
        rw [dif_pos (by omega)]
        apply Array.ext'
        simp
      have hget : ∀ j, (ms.eraseIdxIfInBounds n)[j]? = if j < n then ms[j]? else ms[j + 1]? := fun j => by
        rw [herase, List.getElem?_toArray, List.getElem?_eraseIdx]
        split <;> simp
      refine ⟨World.putBlock w p.block (.map (ms.eraseIdxIfInBounds n) clock), ?_, ⟨own, hw.putMap hg hp hb ho ⟨?_, fun j e q h1 h2 => ?_⟩ ⟨fun j q h2 => ?_, fun i j q r hij h2 h3 => ?_⟩⟩, rfl⟩
      · simp only [Builtin.delete_, h0, List.getElem?_toArray, List.getElem?_cons_zero, List.getElem?_cons_succ, Sem.run_bind, hT.run_und hu, Result.andThen_ok, Ab.run_getObj_map hb, hchk, Instr.findKey, hT.run_und hdu, g1, Sem.run_pure, run_setObj_bare _ hb rfl]
      · rw [herase, List.size_toArray, List.length_eraseIdx, List.length_eraseIdx]
        simp [hs]
      · rw [List.getElem?_eraseIdx] at h1
        rw [hget] at h2
        by_cases e1 : j < n
        · rw [if_pos e1] at h1 h2; exact he.2 j e q h1 h2
        · rw [if_neg e1] at h1 h2; exact he.2 _ e q h1 h2
      · rw [hget] at h2
        split at h2 <;> exact hn.1 _ q h2
      · rw [hget] at h2 h3
        by_cases e1 : i < n
        · rw [if_pos e1] at h2
          by_cases e2 : j < n
          · rw [if_pos e2] at h3; exact hn.2 i j q r hij h2 h3
          · rw [if_neg e2] at h3; exact hn.2 i (j + 1) q r (by omega) h2 h3
        · rw [if_neg e1] at h2
          rw [if_neg (by omega)] at h3
          exact hn.2 (i + 1) (j + 1) q r (by omega) h2 h3
  · cases h

end Go.Ab

namespace Go.Ab
open Go.RowKit (Below)

theorem bytesOf_ns : ∀ {cs : List AVal} {bs : List UInt8}, convert.bytesOf cs = some bs → ∃ ns : List Int, cs = ns.map (AVal.int .u8) ∧ bs = ns.map fun n => UInt8.ofNat n.toNat
  | [], bs, h => by cases h; exact ⟨[], rfl, rfl⟩
  | c :: cs, bs, h => by
    unfold convert.bytesOf at h
    split at h
    · rename_i e; cases e
    · rename_i n r e
      cases e
      simp only [Option.map_eq_some_iff] at h
      obtain ⟨l, hl, rfl⟩ := h
      obtain ⟨ns, rfl, rfl⟩ := bytesOf_ns hl
      exact ⟨n :: ns, rfl, rfl⟩
    · cases h
theorem LR_ints {κ : Kn} {ns : List Int} {vs : Array Value} (h : LR κ (ns.map (AVal.int .u8)) vs) : vs = (ns.map (Value.int .u8)).toArray := by
  apply Array.ext_getElem?
  intro j
  simp only [List.getElem?_toArray, List.getElem?_map]
  by_cases hj : j < ns.length
  · obtain ⟨v, h1, h2⟩ := h.get (j := j) (y := .int .u8 ns[j]) (by simp [hj])
    cases h2
    simp [h1, hj]
  · have := h.1
    rw [Array.getElem?_eq_none (by simp at this; omega), List.getElem?_eq_none (by omega)]
    rfl
theorem foldl_bytes : ∀ (ns : List Int) (r : ByteArray), ns.foldl (fun r n => r.push (UInt8.ofNat n.toNat)) r = ⟨r.data ++ (ns.map fun n => UInt8.ofNat n.toNat).toArray⟩
  | [], r => by simp
  | n :: ns, r => by
    simp only [List.foldl_cons]
    rw [foldl_bytes ns]
    simp [ByteArray.push]
theorem bytesOf_self (s : ByteArray) : convert.bytesOf (s.data.toList.map fun b => .int .u8 b.toNat) = some s.data.toList := by
  generalize s.data.toList = l
  induction l with
  | nil => rfl
  | cons b l ih => simp [convert.bytesOf, ih]

theorem convert_sound {E : Env} {P : Program} (hT : TabOk E.T P) {w0 : World} {κ : Kn} {σ σ' : Store} {w : World} (hw : WR w0 κ σ w) {src dst : TypeId} {x r : AVal} {c : Value} (hx : VR κ x c)
    (h : convert E σ src dst x = some (r, σ')) : Leaves w0 κ σ r σ' ((Go.convert src dst c).run P w) := by
  unfold convert at h
  split at h
  · rename_i k0 k k1 n hs hd
    cases h; cases hx
    exact .pure hw ⟨_, by simp [Go.convert, hT.run_und hs, hT.run_und hd, Conv.intToInt] <;> rfl, .int _ _⟩
  · rename_i s hs hd
    cases h; cases hx
    exact .pure hw ⟨_, by simp [Go.convert, hT.run_und hs, hT.run_und hd] <;> rfl, .str _⟩
  · rename_i e s hs hd
    split at h
    · rename_i he
      cases h; cases hx
      have hcap := grownCap_ge w s.size 0 e
      have hsz : (bytesRow s (grownCap w s.size 0 e)).size = grownCap w s.size 0 e := by
        simp only [bytesRow, Array.size_append, Array.size_map, Array.size_replicate]
        show s.data.size + _ = _
        have : s.data.size = s.size := rfl
        omega
      have hrow : ∀ (j : Nat) (y : AVal), (s.data.toList.map fun b => AVal.int .u8 b.toNat)[j]? = some y → ∃ v, (bytesRow s (grownCap w s.size 0 e))[j]? = some v ∧ VR κ y v := fun j y hy => by
        simp only [List.getElem?_map, Option.map_eq_some_iff] at hy
        obtain ⟨b, hb, rfl⟩ := hy
        refine ⟨.int .u8 b.toNat, ?_, .int _ _⟩
        have hj := (List.getElem?_eq_some_iff.1 hb).1
        rw [bytesRow, Array.getElem?_append_left (by simpa using hj)]
        simp only [Array.getElem?_toList] at hb
        simp [hb]
      obtain ⟨κ', e1, e2, e3⟩ := hw.drew.newArr (cs := s.data.toList.map fun b => AVal.int .u8 b.toNat) (vs := bytesRow s (grownCap w s.size 0 e)) hrow (by rw [hsz]; simpa using hcap) e
        ((bytesRow s (grownCap w s.size 0 e)).size, (bytesRow s (grownCap w s.size 0 e)).size + 1) (fun j hj => by simp only; omega) false 1 (len := s.size) (cap := grownCap w s.size 0 e) (ex := false) hcap (fun e => by cases e) (by rw [hsz]; omega)
      · exact ⟨_, _, κ', run_bytes_of_string w src dst e s (hT.und _ _ hs).1 (hT.und _ _ hd).1 (hT.und _ _ he).1, e3, e2, e1, by simp⟩
    · cases h
  · rename_i x _ _ _ e hs hd
    split at h
    · rename_i n he hn
      simp only [Option.bind_eq_bind] at h
      cases hcs : elemCells E σ 1 n x with
      | none => simp [hcs] at h
      | some cs =>
      simp only [hcs, Option.bind_some] at h
      cases hbs : convert.bytesOf cs with
      | none => simp [hbs] at h
      | some bs =>
      simp only [hbs, Option.bind_some, Option.some.injEq, Prod.mk.injEq] at h
      obtain ⟨rfl, rfl⟩ := h
      obtain ⟨⟨vs, v1, v2⟩, v3⟩ := elemCells_sound (P := P) hw hcs hx
      obtain ⟨ns, rfl, rfl⟩ := bytesOf_ns hbs
      have hvs := LR_ints v2
      subst hvs
      refine .pure hw ⟨_, ?_, .str _⟩
      have fin : ∀ (a : Addr) (cap : Nat), (loadCells a n).run P w = .ok (ns.map (Value.int .u8)).toArray w → (Go.convert src dst (.slice (some a) n cap)).run P w = .ok (.string ⟨(ns.map fun n => UInt8.ofNat n.toNat).toArray⟩) w := fun a cap hl => by
        rw [run_convert_bytes_string w src dst e _ n cap (hT.und _ _ hs).1 (hT.und _ _ he).1 (hT.und _ _ hd).1, run_bytesToString w a n cap ns hl, foldl_bytes]
        have : ByteArray.empty.data = #[] := rfl
        rw [this, Array.empty_append]
      cases hx with
      | nils =>
        cases hn
        simp only [Builtin.firstCells, Sem.run_pure, Result.ok.injEq, and_true] at v1
        have : ns = [] := by
          have := congrArg Array.size v1
          simp at this
          exact List.eq_nil_of_length_eq_zero this.symm
        subst this
        rw [run_convert_bytes_string w src dst e _ _ 0 (hT.und _ _ hs).1 (hT.und _ _ he).1 (hT.und _ _ hd).1]
        simp [Conv.bytesToString]
        rfl
      | nilslice ex a cap ha =>
        cases hn
        exact fin a cap (by simpa [Builtin.firstCells] using v1)
      | slice xs ex b o s cap f q1 q2 => cases hn; exact fin _ cap (by simpa [Builtin.firstCells] using v1)
      | oslice id off len ex p cap => cases hn; exact fin _ cap (by simpa [Builtin.firstCells] using v1)
      | str s =>
        cases hn
        have h0 := (elemCells_of hcs).1
        simp only [elemCells0, Nat.le_refl, and_self, if_true, Option.some.injEq] at h0
        have : s.data.toList.take s.size = s.data.toList := List.take_of_length_le (by simp)
        rw [this] at h0
        have hb := bytesOf_self s
        rw [h0, hbs] at hb
        simp only [Option.some.injEq] at hb
        rw [hb]
        simp [Go.convert, hT.run_und hs, hT.run_und hd]
      | _ => cases hn
    · cases h
  · cases h

theorem run_getObj_miter {P : Program} {w : World} {b : Nat} {m : Option Nat} {s c : Nat} {seen : Array Nat} (h : w.heap[b]? = some (.mapIter m s seen c)) : (getObj b).run P w = .ok (.mapIter m s seen c) w := by
  simp [getObj, Sem.run, h]
/-- An object is said to be something else. -/
theorem WRo.re {w0 : World} {κ : Kn} {own : Nat → Nat → Option Nat} {σ : Store} {w : World} (hw : WRo w0 κ own σ w) {id : Nat} {ob ob' : AObj} (hg : σ.get id = some ob) (hnew : OR κ w own id ob') : WRo w0 κ own (σ.put id ob') w := by
  refine ⟨hw.below, hw.imm, hw.ownd, fun i ob1 hi => ?_, hw.fresh, hw.marks, hw.lim⟩
  rw [Store.get_put] at hi
  by_cases e : i = id
  · subst e
    rw [if_pos rfl] at hi
    cases hi
    exact ⟨(hw.objs i _ hg).1, hnew⟩
  · rw [if_neg e] at hi
    exact hw.objs i ob1 hi
/-- An iterator over a map under way, in its world. -/
theorem iter_object {w0 : World} {κ : Kn} {own : Nat → Nat → Option Nat} {σ : Store} {w : World} (hw : WRo w0 κ own σ w) {id m it n : Nat} {es : List (AVal × AVal)} {c : Value} (hx : VR κ (.ptr id 0) c) (hg : σ.get m = some (.rmap es it n)) (hi : it = id) :
    ∃ (p q : Place) (ms : Array MapEntry) (clock : Nat) (seen : Array Nat), c = .pointer (some ⟨q.block, 0, none⟩) ∧ κ.base m = some p ∧ κ.base id = some q ∧ q.off = 0 ∧ w.heap[p.block]? = some (.map ms clock) ∧ w.heap[q.block]? = some (.mapIter (some p.block) clock seen clock) ∧ EntriesR κ es ms ∧ BornOk ms clock ∧
      ((n = 0 ∧ seen = #[]) ∨ (n = 1 ∧ ∃ m : MapEntry, ms = #[m] ∧ seen = #[m.born])) ∧ own p.block 0 = some m ∧ own q.block 0 = some m := by
  subst hi
  have := (hw.objs m _ hg).2
  cases this with
  | rmap _ _ _ p q ms clock since seen last h hq h0 hb hi he hn hs ho hoq =>
  obtain ⟨rfl, rfl, hs⟩ := hs
  cases hx with
  | ptr _ _ q' hq' =>
  rw [hq] at hq'; cases hq'
  exact ⟨p, q, ms, _, seen, by simp [h0], h, hq, h0, hb, hi, he, hn, hs, ho, hoq⟩
theorem entries_nil {κ : Kn} {ms : Array MapEntry} (h : EntriesR κ [] ms) : ms = #[] := Array.eq_empty_of_size_eq_zero h.1
theorem entries_one {κ : Kn} {e : AVal × AVal} {ms : Array MapEntry} (h : EntriesR κ [e] ms) : ∃ m : MapEntry, ms = #[m] ∧ VR κ e.1 m.key ∧ VR κ e.2 m.val := by
  have h1 := h.1
  simp only [List.length_cons, List.length_nil, Nat.zero_add] at h1
  obtain ⟨m, rfl⟩ : ∃ m, ms = #[m] := Array.size_eq_one_iff.1 h1
  exact ⟨m, rfl, h.2 0 e m rfl rfl⟩
theorem run_over {P : Program} {w : World} {q b clock : Nat} {ms : Array MapEntry} {seen : Array Nat} (hb : w.heap[b]? = some (.map ms clock)) (hi : w.heap[q]? = some (.mapIter (some b) clock seen clock)) (hs : (ms = #[]) ∨ ∃ m : MapEntry, ms = #[m] ∧ seen = #[m.born] ∧ m.born < clock) (ty : TypeId) :
    (Instr.next (.pointer (some ⟨q, 0, none⟩)) false ty).run P w = .ok (.tuple #[.bool false]) w := by
  rcases hs with rfl | ⟨m, rfl, rfl, hlt⟩
  · simp [Instr.next, run_getObj_miter hi, run_getObj_map hb, Question.forced]
  · have : ¬ (m.born ≥ clock) := by omega
    simp [Instr.next, run_getObj_miter hi, run_getObj_map hb, Question.forced, this]
theorem run_step {P : Program} {w : World} {q b clock : Nat} {m : MapEntry} (hb : w.heap[b]? = some (.map #[m] clock)) (hi : w.heap[q]? = some (.mapIter (some b) clock #[] clock)) (hlt : m.born < clock) (ty : TypeId) :
    (Instr.next (.pointer (some ⟨q, 0, none⟩)) false ty).run P w = .ok (.tuple #[.bool true, m.key, m.val]) (World.putBlock w q (.mapIter (some b) clock #[m.born] clock)) := by
  have h1 : ¬ (clock ≤ m.born) := by omega
  simp [Instr.next, run_getObj_miter hi, run_getObj_map hb, Question.forced, hlt, h1, run_setObj_bare _ hi rfl]

theorem next_sound {P : Program} {w0 : World} {κ : Kn} {σ σ' : Store} {w : World} (hw : WR w0 κ σ w) {it r : AVal} {isS : Bool} {c : Value} (hx : VR κ it c) (h : next σ it isS = some (r, σ')) (ty : TypeId) :
    Leaves w0 κ σ r σ' ((Instr.next c isS ty).run P w) := by
  have falseR : ∀ κ, VR κ (.tuple [.bool false]) (.tuple #[.bool false]) := fun κ => .tuple _ _ (by simp) fun j y hy => by
    match j with
    | 0 => simp at hy; subst hy; exact .bool _
    | j + 1 => simp at hy
  unfold next at h
  split at h
  case h_3 => cases h
  case h_2 id =>
    simp only [Option.bind_eq_bind] at h
    cases hg : σ.get id with
    | none => simp [hg] at h
    | some ob =>
    simp only [hg, Option.bind_some] at h
    split at h
    case h_2 => cases h
    rename_i m
    cases hgm : σ.get m with
    | none => simp [hgm] at h
    | some obm =>
    simp only [hgm, Option.bind_some] at h
    split at h
    case h_2 => cases h
    rename_i es it n
    split at h
    case isTrue => cases h
    rename_i hit
    have hit : it = id := Classical.not_not.1 hit
    obtain ⟨own, hwo⟩ := hw
    obtain ⟨p, q, ms, clock, seen, rfl, hp, hq, h0, hb, hi, he, hn, hs, ho, hoq⟩ := iter_object hwo hx hgm hit
    split at h
    · cases h
      obtain rfl := entries_nil he
      exact ⟨_, _, κ, run_over hb hi (.inl rfl) ty, falseR κ, ⟨own, hwo.re hgm (.map [] p _ clock hp hb he hn ho)⟩, Ext.refl _ _, Nat.le_refl _⟩
    · rename_i e
      cases h
      obtain ⟨me, rfl, k1, k2⟩ := entries_one he
      have hborn : me.born < clock := hn.1 0 me rfl
      rcases hs with ⟨_, rfl⟩ | ⟨e0, _⟩
      case inr => cases e0
      have hne : p.block ≠ q.block := fun e => by rw [e, hi] at hb; cases hb
      refine ⟨_, _, κ, run_step hb hi hborn ty, ?_, ⟨own, hwo.putBare (b := q.block) hgm hoq hi rfl rfl (.rmap [e] it 1 p q #[me] clock clock #[me.born] clock hp (hit ▸ hq) h0 ?_ (heap_putBlock hi) he hn ⟨rfl, rfl, .inr ⟨rfl, me, rfl, rfl⟩⟩ ho hoq)⟩, Ext.refl _ _, Nat.le_refl _⟩
      · refine .tuple _ _ (by simp) fun j y hy => ?_
        match j with
        | 0 => simp at hy; subst hy; exact .bool _
        | 1 => simp at hy; subst hy; exact k1
        | 2 => simp at hy; subst hy; exact k2
        | j + 3 => simp at hy
      · rw [heap_putBlock_ne _ _ _ _ hne]; exact hb
    · rename_i e
      cases h
      rcases hs with ⟨e0, _⟩ | ⟨_, me, rfl, rfl⟩
      case inl => cases e0
      exact ⟨_, _, κ, run_over hb hi (.inr ⟨me, rfl, rfl, hn.1 0 me rfl⟩) ty, falseR κ, ⟨own, hwo.re hgm (.map [e] p _ clock hp hb he hn ho)⟩, Ext.refl _ _, Nat.le_refl _⟩
    · cases h
  rename_i id
  simp only [Option.bind_eq_bind] at h
  cases hg : σ.get id with
  | none => simp [hg] at h
  | some ob =>
  simp only [hg, Option.bind_some] at h
  split at h
  case h_2 => cases h
  rename_i s pos
  cases hx with
  | ptr _ _ p hp =>
  have hw' := hw
  obtain ⟨own, hwo⟩ := hw
  have hob := (hwo.objs id _ hg).2
  cases hob with
  | iter _ _ p' hp' h0 hb ho =>
  rw [hp] at hp'; cases hp'
  have hz : p.off + 0 = 0 := by omega
  split at h
  · rename_i hlt
    cases h
    have hput : WR w0 κ (σ.put id (.iter s (pos + (Utf8.decode s pos).2))) (World.putBlock w p.block (.stringIter s (pos + (Utf8.decode s pos).2))) := ⟨own, hwo.putBare (b := p.block) hg ho hb rfl rfl (.iter s _ p hp h0 (heap_putBlock hb) ho)⟩
    refine ⟨.tuple #[.bool true, goInt pos, .int .i32 (Utf8.decode s pos).1], _, κ, ?_, ?_, hput, Ext.refl _ _, Nat.le_refl _⟩
    · rw [hz]
      simp only [Instr.next, Sem.run_bind, Ab.run_getObj_iter hb, Result.andThen_ok, hlt, if_true, run_setObj_bare _ hb rfl, Sem.run_pure]
    · refine .tuple _ _ (by simp) fun j y hy => ?_
      match j with
      | 0 => simp at hy; subst hy; exact .bool _
      | 1 => simp at hy; subst hy; exact .int _ _
      | 2 => simp at hy; subst hy; exact .int _ _
      | j + 3 => simp at hy
  · rename_i hlt
    cases h
    refine .pure hw' ⟨.tuple #[.bool false], ?_, .tuple _ _ (by simp) fun j y hy => ?_⟩
    · rw [hz]
      simp only [Instr.next, Sem.run_bind, Ab.run_getObj_iter hb, Result.andThen_ok, hlt, if_false, Sem.run_pure]
    · match j with
      | 0 => simp at hy; subst hy; exact .bool _
      | j + 1 => simp at hy

theorem entry_sound {P : Program} {w0 : World} {κ : Kn} {σ : Store} {w : World} (hw : WR w0 κ σ w) {it r : AVal} {c : Value} (hx : VR κ it c) (h : entry σ it = some r) :
    ∃ v, (Instr.entry c).run P w = .ok v w ∧ VR κ r v := by
  unfold entry at h
  split at h
  case h_2 => cases h
  rename_i id
  simp only [Option.bind_eq_bind] at h
  cases hg : σ.get id with
  | none => simp [hg] at h
  | some ob =>
  simp only [hg, Option.bind_some] at h
  split at h
  case h_2 => cases h
  rename_i m
  cases hgm : σ.get m with
  | none => simp [hgm] at h
  | some obm =>
  simp only [hgm, Option.bind_some] at h
  split at h
  case h_2 => cases h
  rename_i es it n
  split at h
  case isTrue => cases h
  rename_i hit
  have hit : it = id := Classical.not_not.1 hit
  obtain ⟨own, hwo⟩ := hw
  obtain ⟨p, q, ms, clock, seen, rfl, hp, hq, h0, hb, hi, he, hn, hs, ho, hoq⟩ := iter_object hwo hx hgm hit
  split at h
  · cases h
    obtain ⟨me, rfl, k1, k2⟩ := entries_one he
    rcases hs with ⟨e0, _⟩ | ⟨_, me', e1, rfl⟩
    case inl => cases e0
    cases e1
    exact ⟨.tuple #[me.key, me.val], by simp [Instr.entry, run_getObj_miter hi, run_getObj_map hb], VR.pair k1 k2⟩
  · cases h
/-- A range over a map begins. -/
theorem WR.newIter {w0 : World} {κ : Kn} {σ : Store} {w : World} (hw : WR w0 κ σ w) {m : Nat} {es : List (AVal × AVal)} {p : Place} (hg : MapAt σ m es) (hp : κ.base m = some p) :
    ∃ (ms : Array MapEntry) (clock : Nat) (κ' : Kn), w.heap[p.block]? = some (.map ms clock) ∧ Ext σ.next κ κ' ∧ WR w0 κ' ((σ.put m (.rmap es σ.next 0)).new (.itof m)) (w.alloc (.mapIter (some p.block) clock #[] clock)) ∧ VR κ' (.ptr σ.next 0) (.pointer (some ⟨w.heap.size, 0, none⟩)) := by
  obtain ⟨own, hw⟩ := hw
  obtain ⟨ms, clock, hb, he, hn, ho⟩ := map_object hw hg hp
  let q : Place := ⟨w.heap.size, 0, 0, 0⟩
  have hx := Kn.ext_with (p := q) (hw.fresh σ.next (Nat.le_refl _)) (Nat.le_refl σ.next)
  have hgr := hw.grow (.mapIter (some p.block) clock #[] clock)
  have hm : m < σ.next := by rcases hg with hg | ⟨it, n, hg⟩ <;> exact (hw.objs _ _ hg).1
  have hlt : p.block < w.heap.size := (hw.ownd _ _ _ ho).2.2
  have hold : ∀ b x, b < w.heap.size → ownNew own w.heap.size (fun _ => true) m b x = own b x := fun b x h => by
    unfold ownNew; rw [if_neg (by omega)]
  refine ⟨ms, clock, κ.with σ.next q, hb, hx, ⟨ownNew own w.heap.size (fun _ => true) m, hgr.below, hgr.imm, fun b x id h => ?_, fun id ob h => ?_, fun id h => ?_, fun b h => ?_, hw.lim⟩, .ptr σ.next 0 q (Kn.base_with _ _ _)⟩
  · by_cases e : b = w.heap.size
    · subst e
      refine ⟨?_, hw.below.size, by simp⟩
      show κ.imm _ x = none
      cases hv : κ.imm w.heap.size x with
      | none => rfl
      | some v => have := World.block_lt_of_cell? _ _ (hw.imm _ x v hv); simp at this
    · unfold ownNew at h
      rw [if_neg e] at h
      exact hgr.ownd b x id h
  · rw [Store.get_new, Store.get_put, Store.next_put] at h
    by_cases e : id = σ.next
    · subst e
      rw [if_pos rfl] at h
      cases h
      exact ⟨by simp, .itof m⟩
    · rw [if_neg e] at h
      by_cases e2 : id = m
      · subst e2
        rw [if_pos rfl] at h
        cases h
        refine ⟨by simp; omega, .rmap es σ.next 0 p q ms clock clock #[] clock (hx.le.base _ _ hp) (Kn.base_with _ _ _) rfl ?_ (heap_new _ _) ⟨he.1, fun j e m h1 h2 => ⟨(he.2 j e m h1 h2).1.mono hx.le, (he.2 j e m h1 h2).2.mono hx.le⟩⟩ hn ⟨rfl, rfl, .inl ⟨rfl, rfl⟩⟩ ?_ ?_⟩
        · rw [Below.heap_alloc _ _ _ hlt]; exact hb
        · rw [hold _ _ hlt]; exact ho
        · simp [ownNew, q]
      · rw [if_neg e2] at h
        obtain ⟨h1, h2⟩ := hgr.objs id ob h
        refine ⟨by simp; omega, h2.keep hx.le ⟨fun b x ho => ?_, fun _ _ _ => ⟨rfl, rfl⟩, fun _ _ _ => rfl⟩⟩
        rw [hold _ _ (hw.ownd b x id ho).2.2]; exact ho
  · show (if id = σ.next then some q else κ.base id) = none
    simp only [Store.next_new, Store.next_put] at h
    rw [if_neg (by omega)]
    exact hw.fresh id (by omega)
  · obtain ⟨m1, m2, m3⟩ := hgr.marks b h
    refine ⟨m1, m2, fun o => ?_⟩
    rw [hold _ _ (Array.getElem?_eq_some_iff.1 (hw.marks b h).1).1]
    exact m3 o

theorem WR.newBare {w0 : World} {κ : Kn} {σ : Store} {w : World} (hw : WR w0 κ σ w) (o : Obj) (ob : AObj) (hob : ∀ κ' own (p : Place), p.block = w.heap.size → p.off = 0 → κ'.base σ.next = some p → own p.block 0 = some σ.next → OR κ' (w.alloc o) own σ.next ob) :
    ∃ κ' p, Ext σ.next κ κ' ∧ WR w0 κ' (σ.new ob) (w.alloc o) ∧ κ'.base σ.next = some p ∧ p.block = w.heap.size ∧ p.off = 0 := by
  obtain ⟨own, hw⟩ := hw
  let p : Place := ⟨w.heap.size, 0, 0, 0⟩
  have hx := Kn.ext_with (p := p) (hw.fresh σ.next (Nat.le_refl _)) (Nat.le_refl σ.next)
  exact ⟨κ.with σ.next p, p, hx, ⟨_, hw.new o p rfl (fun _ => true) ob (hob _ _ p rfl rfl (Kn.base_with _ _ _) (by simp [ownNew, p]))⟩, Kn.base_with _ _ _, rfl, rfl⟩

end Go.Ab

namespace Go.Ab
open Go.RowKit (Below)

/-- What an operation of a region leaves. -/
def NLeaves (w0 : World) (κ : Kn) (σ : Store) (x : AVal) (σ' : Store) (res : Result Next) : Prop :=
  ∃ n r w' κ', res = .ok n w' ∧ (n = .value r ∨ (n = .skip ∧ r = undef)) ∧ VR κ' x r ∧ WR w0 κ' σ' w' ∧ Ext σ.next κ κ' ∧ σ.next ≤ σ'.next
theorem VR.undef' {κ : Kn} : VR κ AVal.undef undef := .tuple [] #[] rfl fun j y hy => by simp at hy

section
variable {P : Program} {w0 w : World} {κ : Kn} {σ σ' : Store} {x : AVal}
theorem NLeaves.of {s : Sem Value} (h : Leaves w0 κ σ x σ' (s.run P w)) : NLeaves w0 κ σ x σ' ((do pure (Next.value (← s)) : Sem Next).run P w) := by
  obtain ⟨r, w', κ', h1, h2, h3, h4, h5⟩ := h
  exact ⟨.value r, r, w', κ', by simp [h1], .inl rfl, h2, h3, h4, h5⟩
theorem NLeaves.val {s : Sem Value} (hw : WR w0 κ σ w) (h : ∃ r, s.run P w = .ok r w ∧ VR κ x r) : NLeaves w0 κ σ x σ ((do pure (Next.value (← s)) : Sem Next).run P w) := .of (.pure hw h)
theorem NLeaves.unit {s : Sem Unit} (h : ∃ w', s.run P w = .ok () w' ∧ WR w0 κ σ' w' ∧ σ'.next = σ.next) : NLeaves w0 κ σ .undef σ' ((do s; pure Next.skip : Sem Next).run P w) := by
  obtain ⟨w', h1, h2, h3⟩ := h
  exact ⟨.skip, undef, w', κ, by simp [h1], .inr ⟨rfl, rfl⟩, .undef', h2, Ext.refl _ _, by omega⟩
theorem NLeaves.pure {r : Value} (hw : WR w0 κ σ w) (h : VR κ x r) : NLeaves w0 κ σ x σ ((Pure.pure (Next.value r) : Sem Next).run P w) :=
  ⟨.value r, r, w, κ, rfl, .inl rfl, h, hw, Ext.refl _ _, Nat.le_refl _⟩
end

theorem evalParts_sound {E : Env} {κ : Kn} (hG : GlobOk E κ) {tm : List AVal} {a : Act} (hf : FR κ tm a) : ∀ {ps : List (Nat × Operand)} {l : List (Nat × AVal)}, evalParts E tm ps = some l → PartsR κ l (ps.map fun p => (p.1, a.eval p.2))
  | [], l, h => by cases h; exact .nil
  | (i, x) :: xs, l, h => by
    simp only [evalParts, Option.bind_eq_bind] at h
    cases hv : eval E tm x with
    | none => simp [hv] at h
    | some v =>
      cases hl : evalParts E tm xs with
      | none => simp [hv, hl] at h
      | some l' =>
        simp only [hv, hl, Option.bind_some, Option.some.injEq] at h
        subst h
        exact .cons i v _ _ _ (eval_sound hG hf hv) (evalParts_sound hG hf hl)
theorem evalOpt_sound {E : Env} {κ : Kn} (hG : GlobOk E κ) {tm : List AVal} {a : Act} (hf : FR κ tm a) {o : Option Operand} {r : Option AVal} (h : evalOpt E tm o = some r) : OptR κ r (o.map a.eval) := by
  cases o with
  | none => cases h; exact .none
  | some x =>
    simp only [evalOpt, Option.map_eq_some_iff] at h
    obtain ⟨v, hv, rfl⟩ := h
    exact .some v _ (eval_sound hG hf hv)

theorem LR.arr2 {κ : Kn} {x y : AVal} {l : List AVal} {vs : Array Value} (h : LR κ (x :: y :: l) vs) : ∃ u v r, vs = (u :: v :: r).toArray ∧ VR κ x u ∧ VR κ y v := by
  obtain ⟨u, h1, h2⟩ := h.get (j := 0) rfl
  obtain ⟨v, h3, h4⟩ := h.get (j := 1) rfl
  obtain ⟨l'⟩ := vs
  match l' with
  | [] => simp at h1
  | [_] => simp at h3
  | u' :: v' :: r =>
    simp at h1 h3
    subst h1; subst h3
    exact ⟨_, _, _, rfl, h2, h4⟩
theorem LR.arr1 {κ : Kn} {x : AVal} {l : List AVal} {vs : Array Value} (h : LR κ (x :: l) vs) : ∃ u r, vs = (u :: r).toArray ∧ VR κ x u := by
  obtain ⟨u, h1, h2⟩ := h.get (j := 0) rfl
  obtain ⟨l'⟩ := vs
  match l' with
  | [] => simp at h1
  | u' :: r =>
    simp at h1
    subst h1
    exact ⟨_, _, rfl, h2⟩

/-- An owned array is owned no more: its cells stay as they are. -/
theorem WRo.freeze {w0 : World} {κ : Kn} {own : Nat → Nat → Option Nat} {σ : Store} {w : World} (hw : WRo w0 κ own σ w) {id : Nat} {ob : AObj} {p : Place} {cs : List AVal} (hg : σ.get id = some ob) (hc : ob.cells? = some cs) (hp : κ.base id = some p) :
    ∃ κ', Ext σ.next κ κ' ∧ WR w0 κ' (σ.del id) w ∧ ∀ (k : Nat) (y : AVal), cs[k]? = some y → ∃ v, κ'.imm p.block (p.off + k) = some v ∧ VR κ' y v := by
  let κ' : Kn := { κ with imm := fun b o => if own b o = some id then w.cell? ⟨b, o, none⟩ else κ.imm b o }
  have hx : Ext σ.next κ κ' := ⟨⟨fun _ _ h => h, fun b o v h => by
    show (if own b o = some id then w.cell? ⟨b, o, none⟩ else κ.imm b o) = some v
    rw [if_neg (fun e => by have := (hw.ownd b o id e).1; rw [h] at this; cases this)]; exact h, rfl, rfl, rfl, rfl, fun b o v h => by
    have h : (if own b o = some id then w.cell? ⟨b, o, none⟩ else κ.imm b o) = some v := h
    split at h
    · rename_i e; exact .inr (Nat.le_trans hw.lim (hw.ownd b o id e).2.1)
    · exact .inl h⟩, fun _ _ => rfl, fun _ h => h⟩
  refine ⟨κ', hx, ⟨fun b o => if own b o = some id then none else own b o, hw.below, fun b o v h => ?_, fun b o i h => ?_, fun i ob' hi => ?_, hw.fresh, fun b h => ?_, hw.lim⟩, fun k y hy => ?_⟩
  · have h : (if own b o = some id then w.cell? ⟨b, o, none⟩ else κ.imm b o) = some v := h
    split at h
    · exact h
    · exact hw.imm b o v h
  · have h : (if own b o = some id then none else own b o) = some i := h
    split at h
    · cases h
    · rename_i hne
      obtain ⟨h1, h2, h3⟩ := hw.ownd b o i h
      refine ⟨?_, h2, h3⟩
      show (if own b o = some id then w.cell? ⟨b, o, none⟩ else κ.imm b o) = none
      rw [if_neg hne]; exact h1
  · rw [Store.get_del] at hi
    by_cases e : i = id
    · rw [if_pos e] at hi; cases hi
    · rw [if_neg e] at hi
      obtain ⟨g1, g2⟩ := hw.objs i ob' hi
      refine ⟨g1, g2.keep hx.le ⟨fun b x h => ?_, fun _ _ _ => ⟨rfl, rfl⟩, fun _ _ _ => rfl⟩⟩
      show (if own b x = some id then none else own b x) = some i
      rw [if_neg (by rw [h]; exact fun e' => e (Option.some.inj e'))]
      exact h
  · obtain ⟨m1, m2, m3⟩ := hw.marks b h
    refine ⟨m1, m2, fun o => ?_⟩
    show (if own b o = some id then none else own b o) = none
    rw [m3 o]; simp
  · obtain ⟨p', hp', hst, hcs⟩ := (hw.objs id ob hg).2.stands hc
    rw [hp] at hp'; cases hp'
    obtain ⟨h1, h2, v, h3, h4⟩ := hcs k y hy
    refine ⟨v, ?_, h4.mono hx.le⟩
    show (if own _ _ = some id then w.cell? _ else κ.imm _ _) = some v
    rw [if_pos h1]; exact h3

theorem pieces_ints : ∀ {xs : List AVal}, (∀ x ∈ xs, ∃ n, x = AVal.int .i64 n) → pieces false 1 xs.length xs = xs
  | [], _ => rfl
  | x :: xs, h => by
    have := pieces_ints (xs := xs) fun y hy => h y (List.mem_cons_of_mem x hy)
    simp only [List.length_cons, pieces, Bool.false_eq_true, if_false, List.headD_cons, List.drop_succ_cons, List.drop_zero, this]
theorem elems_ints {E : Env} {σ : Store} {xs : List AVal} (h : ∀ x ∈ xs, ∃ n, x = AVal.int .i64 n) : elemCells E σ 1 xs.length (.slice xs false) = some xs := by
  have h1 : headSize 1 xs = true := by
    cases xs with
    | nil => rfl
    | cons x xs => obtain ⟨n, rfl⟩ := h x List.mem_cons_self; rfl
  have h2 : ∀ {ys : List AVal}, (∀ x ∈ ys, ∃ n, x = AVal.int .i64 n) → ys.flatMap AVal.cells = ys := fun {ys} h => by
    induction ys with
    | nil => rfl
    | cons y ys ih =>
      obtain ⟨n, rfl⟩ := h y List.mem_cons_self
      rw [List.flatMap_cons, ih fun x hx => h x (List.mem_cons_of_mem _ hx)]; rfl
  have h3 : xs.all AVal.one = true := List.all_eq_true.2 fun x hx => by obtain ⟨n, rfl⟩ := h x hx; rfl
  simp only [elemCells, elemCells0, Nat.le_refl, h1, and_self, if_true, List.take_length, h2 h, Option.bind_some, h3]
theorem WR.later {w0 : World} {κ : Kn} {σ : Store} {w : World} (hw : WR w0 κ σ w) (n : Nat) (hn : σ.next ≤ n) : WR w0 κ { σ with next := n } w :=
  let ⟨own, h⟩ := hw
  ⟨own, h.below, h.imm, h.ownd, fun id ob hg => ⟨Nat.lt_of_lt_of_le (h.objs id ob hg).1 hn, (h.objs id ob hg).2⟩, fun id hid => h.fresh id (Nat.le_trans hn hid), h.marks, h.lim⟩
theorem hidAppend_sound {E : Env} {P : Program} (hT : TabOk E.T P) {w0 : World} {κ : Kn} {σ σ' : Store} {w : World} (hw : WR w0 κ σ w) {argTypes : Array TypeId} {i : Nat} {r : AVal} {sc xc : Value} (hO : OrcOk E) (hH : κ.hid = E.hid) (hs : VR κ (.slice [] true) sc) (hx : VR κ (.hid i) xc)
    (h : hidAppend E σ argTypes i = some (r, σ')) (ty : TypeId) : Leaves w0 κ σ r σ' ((Builtin.append_ argTypes ty #[sc, xc]).run P w) := by
  have hi := hO.ints i
  have hlen := @OrcOk.short _ hO i
  have hx' : VR κ (.slice (E.hid i) false) xc := by
    cases hx with
    | hid _ a n cap hx => rw [hH] at hx; exact hx
  generalize hxs : E.hid i = xs at hi hlen hx'
  unfold hidAppend at h
  simp only [Option.bind_eq_bind] at h
  split at h
  case h_2 => cases h
  rename_i st h0
  split at h
  case h_2 => cases h
  rename_i e hu
  split at h
  case h_2 => cases h
  rename_i xt h1
  split at h
  case h_1 => cases h
  case h_2 => cases h
  rename_i hn1 hn2
  obtain ⟨d, hd, h⟩ := Option.bind_eq_some_iff.1 h
  split at h
  · cases h
  rename_i hc
  simp only [not_or] at hc
  obtain ⟨c5, c1, c2, c3, c4⟩ := hc
  have hlen : xs.length ≤ 40 := hlen (by cases hh : Ab.short E i <;> simp_all)
  have c1 : E.T.size e = 1 := Classical.not_not.1 c1
  cases h
  cases hxd : E.T.und xt with
  | none => exact absurd hxd hn1
  | some xd =>
  have hb1 : ¬ ((0 + xs.length) * E.T.bytes e > 2 ^ 40) := by
    have : xs.length * E.T.bytes e ≤ 40 * 256 := Nat.mul_le_mul hlen (by omega)
    rw [Nat.zero_add]; omega
  have hb2 : ¬ (0 + xs.length > 2 ^ 40) := by omega
  have happ : append E σ argTypes (.slice [] true) (.slice xs false) = if xs.length = 0 then some (.slice [] true, σ) else some (.oslice σ.next 0 (0 + xs.length) false, σ.new (.arr (isAgg d) 1 ([] ++ xs))) := by
    have hold : elemCells E σ 1 0 (.slice [] true) = some [] := by simp [elemCells, elemCells0, headSize]
    have hag : isAgg d = false := by cases hh : isAgg d <;> simp_all
    have hxi : ∀ k, xd ≠ .int k := fun k e => hn2 k (by rw [hxd, e])
    have fin : (if E.T.size e = 0 ∨ isAgg d = false ∧ E.T.size e ≠ 1 then none else (lenOf (.slice xs false)).bind fun n => (lenOf (.slice [] true)).bind fun m => (elemCells E σ (E.T.size e) n (.slice xs false)).bind fun new =>
        if (m + n) * E.T.bytes e > 2 ^ 40 ∨ m + n > 2 ^ 40 ∨ (E.T.zero e).isNone = true then none else if n = 0 then some (AVal.slice [] true, σ) else
          if True then (elemCells E σ (E.T.size e) m (.slice [] true)).bind fun old => some (.oslice σ.next 0 (m + n) false, σ.new (.arr (isAgg d) (E.T.size e) (old ++ new))) else none) =
        if xs.length = 0 then some (.slice [] true, σ) else some (.oslice σ.next 0 (0 + xs.length) false, σ.new (.arr (isAgg d) 1 ([] ++ xs))) := by
      have c0 : ¬ (E.T.size e = 0 ∨ isAgg d = false ∧ E.T.size e ≠ 1) := by rw [c1]; simp
      have cb : ¬ ((0 + xs.length) * E.T.bytes e > 2 ^ 40 ∨ 0 + xs.length > 2 ^ 40 ∨ (E.T.zero e).isNone = true) := by
        rintro (h | h | h)
        · exact hb1 h
        · exact hb2 h
        · exact c4 h
      rw [if_neg c0]
      simp only [lenOf, Option.bind_some, List.length_nil, c1, elems_ints hi, hold, if_true]
      rw [if_neg cb]
    rw [← fin]
    unfold append
    simp only [h0, hu, h1, hxd, hd, Option.bind_eq_bind, Option.bind_some]
    cases xd <;> first | exact absurd rfl (hxi _) | rfl
  by_cases hz : xs.length = 0
  · rw [if_pos hz] at happ
    obtain ⟨res, w', κ', k1, k2, k3, k4, k5⟩ := append_sound (P := P) hT hw hs hx' happ ty
    refine ⟨res, w', κ', k1, ?_, k3.later _ (Nat.le_succ _), k4, Nat.le_succ _⟩
    have : xs = [] := List.eq_nil_of_length_eq_zero hz
    subst this
    cases k2 with
    | nilslice _ a cap q1 => exact .hid i _ _ _ (by rw [k4.le.hid, hH, hxs]; exact .nilslice false a cap (fun e => by cases e))
    | slice _ _ _ _ _ _ _ hne => exact absurd rfl hne
  · rw [if_neg hz] at happ
    obtain ⟨res, w', κ', k1, k2, ⟨own, k3⟩, k4, k5⟩ := append_sound (P := P) hT hw hs hx' happ ty
    cases k2 with
    | oslice _ _ _ _ p cap hp hcap hex hl hn =>
    have hag : isAgg d = false := by cases hh : isAgg d <;> simp_all
    rw [hag, List.nil_append] at k3
    obtain ⟨κ2, e2, w2, f2⟩ := k3.freeze (id := σ.next) (ob := .arr false 1 xs) (cs := xs) (by simp) rfl hp
    have hpv : VR κ2 (.slice (pieces false 1 xs.length xs) false) (.slice (some ⟨p.block, p.off + 0, none⟩) (0 + xs.length) cap) := by
      rw [Nat.zero_add, Nat.add_zero]
      exact pieces_VR (fun k y hy => f2 k y hy) (by simp) (by simp) (List.all_eq_true.2 fun x hx => by obtain ⟨n, rfl⟩ := hi x hx; rfl) (.inr rfl) (by omega) (fun e => by cases e)
    rw [pieces_ints hi] at hpv
    refine ⟨_, w', κ2, k1, .hid i _ _ _ (by rw [e2.le.hid, k4.le.hid, hH, hxs]; exact hpv), w2.drop (fun id ob hg => ?_) (by simp), k4.trans e2 (by simp), by simp⟩
    obtain ⟨own0, hw0⟩ := hw
    have hg : σ.get id = some ob := hg
    have := (hw0.objs id ob hg).1
    rw [Store.get_del, if_neg (by omega), Store.get_new, if_neg (by omega)]
    exact hg

theorem builtin_sound {E : Env} {P : Program} (hT : TabOk E.T P) {w0 : World} {κ : Kn} {σ σ' : Store} {w : World} (hw : WR w0 κ σ w) {b : Builtin} {argTypes : Array TypeId} {l : List AVal} {vs : Array Value} {x : AVal}
    (hO : OrcOk E) (hI : κ.hint = E.hint) (hH : κ.hid = E.hid) (hl : LR κ l vs) (h : builtin E σ b argTypes l = some (x, σ')) (ty : TypeId) (cs : Array Bool) : NLeaves w0 κ σ x σ' ((Go.builtin b argTypes ty cs vs).run P w) := by
  unfold builtin at h
  split at h
  · -- len
    rename_i y r
    simp only [Option.map_eq_some_iff, Prod.mk.injEq] at h
    obtain ⟨v, hv, rfl, rfl⟩ := h
    obtain ⟨u, r', rfl, hu⟩ := hl.arr1
    have e : Builtin.len_ argTypes ty (u :: r').toArray = Builtin.len_ argTypes ty #[u] := by simp [Builtin.len_]
    simp only [Go.builtin, e]
    exact .val hw (len_sound hT hw hO hI hH hu hv ty)
  · rename_i y r
    simp only [Option.map_eq_some_iff, Prod.mk.injEq] at h
    obtain ⟨v, hv, rfl, rfl⟩ := h
    obtain ⟨u, r', rfl, hu⟩ := hl.arr1
    have e : Builtin.cap_ argTypes ty (u :: r').toArray = Builtin.cap_ argTypes ty #[u] := by simp [Builtin.cap_]
    simp only [Go.builtin, e]
    exact .val hw (cap_sound hT hu hv ty)
  · rename_i i
    obtain ⟨u, v, r', rfl, hu, hv⟩ := hl.arr2
    have e : Builtin.append_ argTypes ty (u :: v :: r').toArray = Builtin.append_ argTypes ty #[u, v] := by simp [Builtin.append_]
    simp only [Go.builtin, e]
    exact .of (hidAppend_sound hT hw hO hH hu hv h ty)
  · rename_i s y r
    obtain ⟨u, v, r', rfl, hu, hv⟩ := hl.arr2
    have e : Builtin.append_ argTypes ty (u :: v :: r').toArray = Builtin.append_ argTypes ty #[u, v] := by simp [Builtin.append_]
    simp only [Go.builtin, e]
    exact .of (append_sound hT hw hu hv h ty)
  · rename_i s y r
    obtain ⟨u, v, r', rfl, hu, hv⟩ := hl.arr2
    have e : Builtin.copy_ argTypes ty (u :: v :: r').toArray = Builtin.copy_ argTypes ty #[u, v] := by simp [Builtin.copy_]
    simp only [Go.builtin, e]
    exact .of (copy_sound hT hw hu hv h ty)
  · rename_i y r
    simp only [Option.map_eq_some_iff, Prod.mk.injEq] at h
    obtain ⟨σ1, hv, rfl, rfl⟩ := h
    obtain ⟨u, r', rfl, hu⟩ := hl.arr1
    have e : Builtin.clear_ argTypes ty (u :: r').toArray = Builtin.clear_ argTypes ty #[u] := by simp [Builtin.clear_]
    simp only [Go.builtin, e]
    obtain ⟨w', c1, c2, c3⟩ := clear_sound hT hw hu hv ty
    exact .of ⟨_, w', κ, c1, .undef', c2, Ext.refl _ _, by omega⟩
  · rename_i m k r
    simp only [Option.bind_eq_bind] at h
    split at h
    case h_2 => cases h
    rename_i t h0
    cases hd : mapDelete E σ t m k with
    | none => simp [hd] at h
    | some σ1 =>
      simp only [hd, Option.bind_some, Option.some.injEq, Prod.mk.injEq] at h
      obtain ⟨rfl, rfl⟩ := h
      obtain ⟨u, v, r', rfl, hu, hv⟩ := hl.arr2
      obtain ⟨w', c1, c2, c3⟩ := mapDelete_sound (ty := ty) (rest := r') hT hw h0 hu hv hd
      simp only [Go.builtin]
      exact .of ⟨_, w', κ, c1, .undef', c2, Ext.refl _ _, by omega⟩
  · simp only [Option.map_eq_some_iff, Prod.mk.injEq] at h
    obtain ⟨v, hv, rfl, rfl⟩ := h
    simp only [Go.builtin]
    have := maxMin_sound (P := P) true hv hl argTypes ty w
    exact .val hw (by simpa using this)
  · simp only [Option.map_eq_some_iff, Prod.mk.injEq] at h
    obtain ⟨v, hv, rfl, rfl⟩ := h
    simp only [Go.builtin]
    have := maxMin_sound (P := P) false hv hl argTypes ty w
    exact .val hw (by simpa using this)
  · cases h

end Go.Ab
