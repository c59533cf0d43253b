/-
  SOUNDNESS, eleventh part: append, copy, clear.
  SOUNDNESS, twelfth part: copy, clear, len, max, min; conversions; maps; iterators.
  SOUNDNESS, thirteenth part: len, max, min; conversions; maps; iterators.
-/
import Derived.Test.YtakinpjaklgacaaGreatDoorAbD
namespace Go.Ab
open Go.RowKit (Below)

theorem nextcap_le {need cap : Nat} (h : cap < need) : Builtin.nextslicecap need cap ≤ 2 * need := by
  have grow : ∀ (r c : Nat), 256 ≤ c → c < need → Builtin.growBy need r c ≤ 2 * need := by
    intro r
    induction r with
    | zero => intro c _ hc; simp only [Builtin.growBy]; omega
    | succ r ih =>
      intro c h256 hc
      simp only [Builtin.growBy]
      rw [if_neg (by omega)]
      by_cases hn : c + (c + 768) / 4 < need
      · exact ih _ (by omega) hn
      · cases r with
        | zero => simp only [Builtin.growBy]; omega
        | succ r => simp only [Builtin.growBy]; rw [if_pos (by omega)]; omega
  unfold Builtin.nextslicecap
  split
  · omega
  · split
    · omega
    · exact grow 4 cap (by omega) h

theorem zeroCells_LR {κ : Kn} {z : List AVal} {zv : Array Value} (h : LR κ z zv) (n : Nat) : (Builtin.zeroCells zv n).size = n * zv.size := by
  simp [Builtin.zeroCells]

/-- The draw of a new array's room. -/
theorem run_newCap {P : Program} (need cap : Nat) (e : TypeId) (w : World) (hn : need < 2 ^ 63) : ∃ n, need ≤ n ∧ (choose (.appendCap need cap e)).run P w = .ok n w.drew := by
  refine ⟨need + (w.tape w.drawn (.appendCap need cap e)) % (2 ^ 63 - need), by omega, ?_⟩
  simp [Question.forced, Question.cut]

/-- What 'append' does where the room is not enough. -/
theorem append_new {E : Env} {P : Program} (hT : TabOk E.T P) {w0 : World} {κ : Kn} {σ : Store} {w : World} (hw : WR w0 κ σ w) {argTypes : Array TypeId} {st xt e : TypeId} {d xd : TypeDesc} {z : List AVal} (h0 : argTypes[0]? = some st) (h1 : argTypes[1]? = some xt)
    (hu : E.T.und st = some (.slice e)) (hx : E.T.und xt = some xd) (hxi : ∀ k, xd ≠ .int k) (hd : E.T.und e = some d) (hz : E.T.zero e = some z) {base : Option Addr} {m n cap : Nat} {xc : Value}
    {old new : List AVal} (hm : ∀ w, (Builtin.lenOf xc).run P w = .ok n w) (hcap : cap < m + n)
    (hold : ∃ vs : Array Value, (Builtin.firstCells (E.T.size e) m (.slice base m cap)).run P w.drew = .ok vs w.drew ∧ LR κ old vs) (hol : old.length = m * E.T.size e)
    (hnew : ∃ vs : Array Value, (Builtin.firstCells (E.T.size e) n xc).run P w.drew = .ok vs w.drew ∧ LR κ new vs) (hnl : new.length = n * E.T.size e)
    (hb1 : (m + n) * E.T.bytes e ≤ 2 ^ 40) (hb2 : m + n ≤ 2 ^ 40) (hs : E.T.size e ≠ 0) (ty : TypeId) :
    Leaves w0 κ σ (.oslice σ.next 0 (m + n) false) (σ.new (.arr (isAgg d) (E.T.size e) (old ++ new))) ((Builtin.append_ argTypes ty #[.slice base m cap, xc]).run P w) := by
  obtain ⟨ov, o1, o2⟩ := hold
  obtain ⟨nv, n1, n2⟩ := hnew
  obtain ⟨inf, i1, i2, i3⟩ := hT.run_bytes hd w
  obtain ⟨nc, c1, c2⟩ := run_newCap (P := P) (m + n) cap e w (by omega)
  obtain ⟨zv, d', z1, z2, z3, z4, z5, z6⟩ := hT.run_zero hz w.drew
  have hnext : ¬ (Builtin.nextslicecap (m + n) cap * inf.bytes > 2 ^ 48) := by
    have := Nat.mul_le_mul_right inf.bytes (nextcap_le hcap)
    rw [i2] at this ⊢
    have e1 : 2 * (m + n) * E.T.bytes e = 2 * ((m + n) * E.T.bytes e) := Nat.mul_assoc _ _ _
    omega
  have hmax : ¬ ((m + n : Nat) : Int) > IntKind.i64.max := by
    have : IntKind.i64.max = 9223372036854775807 := by decide
    rw [this]
    omega
  have hzs : zv.cells.size = E.T.size e := by rw [(z2 κ).1, z3]
  have hvs : ∀ (j : Nat) (y : AVal), (old ++ new)[j]? = some y → ∃ v, (ov ++ nv ++ Builtin.zeroCells zv.cells (nc - (m + n)))[j]? = some v ∧ VR κ y v := by
    intro j y hy
    have hos := o2.1
    have hns := n2.1
    rw [List.getElem?_append] at hy
    split at hy
    · rename_i hj
      obtain ⟨v, g1, g2⟩ := o2.get hy
      exact ⟨v, by rw [Array.append_assoc, Array.getElem?_append_left (by rw [hos]; exact hj)]; exact g1, g2⟩
    · rename_i hj
      obtain ⟨v, g1, g2⟩ := n2.get hy
      have hlt := lt_of_get hy
      refine ⟨v, ?_, g2⟩
      rw [Array.getElem?_append_left (by rw [Array.size_append, hos, hns]; omega), Array.getElem?_append_right (by rw [hos]; omega), hos]
      exact g1
  have hsize : (ov ++ nv ++ Builtin.zeroCells zv.cells (nc - (m + n))).size = nc * E.T.size e := by
    rw [Array.size_append, Array.size_append, o2.1, n2.1, hol, hnl, zeroCells_LR (z2 κ), hzs, ← Nat.add_mul, ← Nat.add_mul]
    congr 1
    omega
  obtain ⟨κ', e1, e2, e3⟩ := hw.drew.newArr hvs (by rw [hsize, List.length_append, hol, hnl, ← Nat.add_mul]; exact Nat.mul_le_mul_right _ c1) e (0, 0) (fun j _ => by simp) (isAgg d) (E.T.size e) (len := m + n) (cap := nc) (ex := false) c1 (fun e => by cases e) hsize.symm
  refine ⟨.slice (some ⟨w.heap.size, 0, none⟩) (m + n) nc, _, κ', ?_, e3, e2, e1, by simp⟩
  have hzz : (match xd with | .int _ => true | _ => false) = false := by cases xd <;> first | rfl | exact absurd rfl (hxi _)
  have hneed : ¬ m + n ≤ cap := by omega
  have hmax' : ¬ IntKind.i64.max < ((m + n : Nat) : Int) := hmax
  simp only [Builtin.append_, h0, h1, List.getElem?_toArray, List.getElem?_cons_zero, List.getElem?_cons_succ, Sem.run_bind, hT.run_und hu, Result.andThen_ok, hT.run_size hd, hT.run_und hx, hzz, Sem.run_pure, Bool.false_eq_true, if_false, hm, hneed, hmax, false_and, i1, hnext, c2, run_askRoom, o1, n1, z1, Bool.not_false, if_true]
  obtain ⟨inf', j1, _⟩ := hT.run_bytes hd w.drew
  simp [newRow, j1, o1, n1, z1]


/-- What 'append' does where the room is enough. -/
theorem append_room_run {E : Env} {P : Program} (hT : TabOk E.T P) {w : World} {argTypes : Array TypeId} {st xt e : TypeId} {d xd : TypeDesc} (h0 : argTypes[0]? = some st) (h1 : argTypes[1]? = some xt)
    (hu : E.T.und st = some (.slice e)) (hx : E.T.und xt = some xd) (hxi : ∀ k, xd ≠ .int k) (hd : E.T.und e = some d) {base : Option Addr} {m n cap : Nat} {xc : Value} (hm : ∀ w, (Builtin.lenOf xc).run P w = .ok n w) (hcap : m + n ≤ cap)
    {nv : Array Value} (hnew : (Builtin.firstCells (E.T.size e) n xc).run P w = .ok nv w) (ty : TypeId) :
    (Builtin.append_ argTypes ty #[.slice base m cap, xc]).run P w = match base with
      | some a => ((storeCells (a.add (m * E.T.size e)) nv.toList).run P w).andThen fun _ w' => .ok (.slice base (m + n) cap) w'
      | none => .ok (.slice base (m + n) cap) w := by
  have hzz : (match xd with | .int _ => true | _ => false) = false := by cases xd <;> first | rfl | exact absurd rfl (hxi _)
  simp only [Builtin.append_, h0, h1, List.getElem?_toArray, List.getElem?_cons_zero, List.getElem?_cons_succ, Sem.run_bind, hT.run_und hu, Result.andThen_ok, hT.run_size hd, hT.run_und hx, hzz, Sem.run_pure, Bool.false_eq_true, if_false, hm, hcap, if_true, Bool.not_false, hnew]
  cases base <;> simp

theorem not_int_of {T : Tab} {t : TypeId} {d : TypeDesc} (h : T.und t = some d) (hn : ∀ k, T.und t ≠ some (.int k)) : ∀ k, d ≠ .int k := fun k e => hn k (by rw [h, e])

/-- An owned array is written behind its known cells: it becomes a new one. -/
theorem WRo.extend {w0 : World} {κ : Kn} {own : Nat → Nat → Option Nat} {σ : Store} {w : World} (hw : WRo w0 κ own σ w) {id : Nat} {g : Bool} {sz : Nat} {cs : List AVal} {p : Place} (hg : σ.get id = some (.arr g sz cs)) (hp : κ.base id = some p) {off : Nat} (ho : off ≤ cs.length)
    {vs : List AVal} {us : List Value} (hu : us.length = vs.length) (hv : ∀ (j : Nat) (y : AVal) (u : Value), vs[j]? = some y → us[j]? = some u → VR κ y u) (hl : cs.length + vs.length ≤ p.lim) (g' : Bool) :
    ∃ κ', Ext σ.next κ κ' ∧ WR w0 κ' ((σ.del id).new (.arr g' sz (cs.drop off ++ vs))) (w.setCells p.block (p.off + cs.length) us) ∧ κ'.base σ.next = some ⟨p.block, p.off + off, p.lim - off, p.size⟩ := by
  have hx := Kn.ext_with (p := ⟨p.block, p.off + off, p.lim - off, p.size⟩) (hw.fresh σ.next (Nat.le_refl _)) (Nat.le_refl σ.next)
  have hob := (hw.objs id _ hg).2
  cases hob with
  | arr _ _ _ p' hp' hz hcs hlim hrest =>
    rw [hp] at hp'; cases hp'
    have hreg : ∀ j, j < p.lim → own p.block (p.off + j) = some id ∧ w.frozen? ⟨p.block, p.off + j, none⟩ = false ∧ (w.cell? ⟨p.block, p.off + j, none⟩).isSome = true := fun j hj => by
      by_cases h : j < cs.length
      · obtain ⟨h1, h2, v, h3, _⟩ := hcs j cs[j] (List.getElem?_eq_getElem h)
        exact ⟨h1, h2, by rw [h3]; rfl⟩
      · exact hrest j (by omega) hj
    have hcell : ∀ b x, own b x ≠ some id → (w.setCells p.block (p.off + cs.length) us).cell? ⟨b, x, none⟩ = w.cell? ⟨b, x, none⟩ := fun b x hne => by
      refine World.cell?_setCells_out p.block us _ w _ fun h1 _ => ?_
      simp only at h1 ⊢
      rcases Nat.lt_or_ge x (p.off + cs.length) with h | h
      · exact .inl h
      · refine .inr ?_
        rcases Nat.lt_or_ge x (p.off + cs.length + us.length) with h' | h'
        · exact absurd (by have := (hreg (x - p.off) (by omega)).1; rwa [show p.off + (x - p.off) = x by omega, ← h1] at this) hne
        · exact h'
    have hsome : ∀ j, j < us.length → (w.cell? ⟨p.block, p.off + cs.length + j, none⟩).isSome = true := fun j hj => by
      have := (hreg (cs.length + j) (by omega)).2.2
      rwa [← Nat.add_assoc] at this
    let own' : Nat → Nat → Option Nat := fun b x => if own b x = some id then (if b = p.block ∧ p.off + off ≤ x ∧ x < p.off + p.lim then some σ.next else none) else own b x
    have hnew : ∀ j, j < p.lim - off → own' p.block (p.off + off + j) = some σ.next := fun j hj => by
      have h1 := (hreg (off + j) (by omega)).1
      show (if own p.block (p.off + off + j) = some id then _ else _) = _
      rw [show p.off + off + j = p.off + (off + j) by omega, if_pos h1, if_pos ⟨rfl, by omega, by omega⟩]
    refine ⟨_, hx, ⟨own', ?_, ?_, ?_, ?_, ?_, ?_, hw.lim⟩, Kn.base_with _ _ _⟩
    · by_cases hz' : us.length = 0
      · have : us = [] := List.eq_nil_of_length_eq_zero hz'
        subst this; exact hw.below
      · have h1 := (hreg cs.length (by omega)).1
        exact below_setCells _ (hw.ownd _ _ _ h1).2.1 _ _ _ hw.below
    · intro b x v hi
      rw [hcell b x (fun e => by have := (hw.ownd _ _ _ e).1; have hi' : κ.imm b x = some v := hi; rw [hi'] at this; cases this)]
      exact hw.imm b x v hi
    · intro b x i h
      have h' : (if own b x = some id then (if b = p.block ∧ p.off + off ≤ x ∧ x < p.off + p.lim then some σ.next else none) else own b x) = some i := h
      rw [size_setCells]
      split at h'
      · rename_i e; exact hw.ownd b x id e
      · exact hw.ownd b x i h'
    · intro i o hi
      rw [Store.get_new, Store.next_del, Store.get_del] at hi
      by_cases e : i = σ.next
      · subst e
        rw [if_pos rfl] at hi
        cases hi
        refine ⟨by simp, .arr g' sz _ ⟨p.block, p.off + off, p.lim - off, p.size⟩ (Kn.base_with _ _ _) hz (fun j y hy => ?_) (by simp; omega) (fun j h1 h2 => ?_)⟩
        · have hj := lt_of_get hy
          simp only [List.length_append, List.length_drop] at hj
          refine ⟨hnew j (by omega), ?_, ?_⟩
          · rw [World.frozen?_setCells]
            have := (hreg (off + j) (by omega)).2.1
            rwa [← Nat.add_assoc] at this
          · rw [List.getElem?_append] at hy
            split at hy
            · rename_i hj'
              simp only [List.length_drop] at hj'
              rw [List.getElem?_drop] at hy
              obtain ⟨_, _, v, h3, h4⟩ := hcs (off + j) y hy
              refine ⟨v, ?_, h4.mono hx.le⟩
              rw [World.cell?_setCells_out p.block us _ w _ (fun _ _ => by simp only; omega)]
              rwa [← Nat.add_assoc] at h3
            · rename_i hj'
              simp only [List.length_drop] at hj' hy
              have hju : j - (cs.length - off) < us.length := by omega
              refine ⟨us[j - (cs.length - off)], ?_, (hv _ _ _ hy (List.getElem?_eq_getElem hju)).mono hx.le⟩
              have := World.cell?_setCells_in p.block us (p.off + cs.length) w hsome _ hju
              rwa [show p.off + cs.length + (j - (cs.length - off)) = p.off + off + j by omega] at this
        · simp only [List.length_append, List.length_drop] at h1
          refine ⟨hnew j h2, ?_, ?_⟩
          · rw [World.frozen?_setCells]
            have := (hreg (off + j) (by dsimp only at h2; omega)).2.1
            rwa [← Nat.add_assoc] at this
          · rw [World.cell?_setCells_out p.block us _ w _ (fun _ _ => by simp only; omega)]
            have := (hreg (off + j) (by dsimp only at h2; omega)).2.2
            rwa [← Nat.add_assoc] at this
      · rw [if_neg e] at hi
        by_cases e2 : i = id
        · rw [if_pos e2] at hi; cases hi
        · rw [if_neg e2] at hi
          obtain ⟨h1, h2⟩ := hw.objs i o hi
          refine ⟨by simp; omega, h2.keep hx.le ⟨fun b x h => ?_, fun b x h => ⟨hcell b x (by rw [h]; exact fun e' => e2 (Option.some.inj e')), World.frozen?_setCells _ _ _ _ _⟩, fun b hb hoth => ?_⟩⟩
          · show (if own b x = some id then _ else own b x) = some i
            rw [if_neg (by rw [h]; exact fun e' => e2 (Option.some.inj e'))]; exact h
          · by_cases hbb : b = p.block
            · by_cases hz' : us.length = 0
              · have : us = [] := List.eq_nil_of_length_eq_zero hz'
                subst this; rfl
              · exfalso
                have h3 := (hreg cs.length (by omega)).2.2
                unfold World.cell? at h3
                simp only [← hbb] at h3
                obtain ⟨o, ho', hbo⟩ := hoth
                rw [ho'] at h3
                cases o <;> first | (cases h3; done) | (cases hbo; done)
            · exact heap_setCells w _ _ _ _ _ hbb
    · intro i hi
      simp only [Store.next_new, Store.next_del] at hi
      show (if i = σ.next then _ else κ.base i) = none
      rw [if_neg (by omega)]
      exact hw.fresh i (by omega)
    · intro b hb
      obtain ⟨m1, m2, m3⟩ := hw.marks b hb
      refine ⟨?_, m2, fun o => ?_⟩
      · by_cases hz' : us.length = 0
        · have : us = [] := List.eq_nil_of_length_eq_zero hz'
          subst this; exact m1
        · rw [heap_setCells w _ _ _ _ _ (fun e => by have h1 := (hreg cs.length (by omega)).1; rw [← e, m3] at h1; cases h1)]
          exact m1
      · show (if own b o = some id then _ else own b o) = none
        rw [if_neg (by rw [m3]; simp)]
        exact m3 o

theorem LR.list {κ : Kn} {xs : List AVal} {vs : Array Value} (h : LR κ xs vs) : ∀ (j : Nat) (y : AVal) (u : Value), xs[j]? = some y → vs.toList[j]? = some u → VR κ y u := fun j y u hy hu => by
  obtain ⟨v, g1, g2⟩ := h.get hy
  simp only [Array.getElem?_toList] at hu
  rw [hu] at g1
  cases g1
  exact g2

theorem appendMake_sound {E : Env} {P : Program} (hT : TabOk E.T P) {w0 : World} {κ : Kn} {σ σ' : Store} {w : World} (hw : WR w0 κ σ w) {argTypes : Array TypeId} {s x r : AVal} {sc xc : Value} (hs : VR κ s sc) (hx : VR κ x xc) {st xt e : TypeId} {k : IntKind}
    (h0 : argTypes[0]? = some st) (h1 : argTypes[1]? = some xt) (hu : E.T.und st = some (.slice e)) (hxt : E.T.und xt = some (.int k)) (h : appendMake E σ e s x = some (r, σ')) (ty : TypeId) : Leaves w0 κ σ r σ' ((Builtin.append_ argTypes ty #[sc, xc]).run P w) := by
  unfold appendMake at h
  simp only [Option.bind_eq_bind] at h
  obtain ⟨d, hd, h⟩ := Option.bind_eq_some_iff.1 h
  obtain ⟨z, hz, h⟩ := Option.bind_eq_some_iff.1 h
  split at h
  case h_2 => cases h
  rename_i k' l _ _
  split at h
  · cases h
  rename_i hc
  simp only [not_or] at hc
  obtain ⟨c1, c2, c3, c4, c5, c6⟩ := hc
  have c3 : IntKind.i64.wrap l = l := Classical.not_not.1 c3
  cases h
  cases hs
  cases hx
  obtain ⟨inf, i1, i2, i3⟩ := hT.run_bytes hd w
  obtain ⟨nc, n1, n2⟩ := run_newCap (P := P) (0 + l.toNat) 0 e w (by omega)
  obtain ⟨zv, d', z1, z2, z3, z4, z5, z6⟩ := hT.run_zero hz w.drew
  have hzs : zv.cells.size = E.T.size e := by rw [(z2 κ).1, z3]
  have hnext : ¬ (Builtin.nextslicecap (0 + l.toNat) 0 * inf.bytes > 2 ^ 48) := by
    have := Nat.mul_le_mul_right inf.bytes (nextcap_le (need := 0 + l.toNat) (cap := 0) (by omega))
    rw [i2] at this ⊢
    have e1 : 2 * (0 + l.toNat) * E.T.bytes e = 2 * (l.toNat * E.T.bytes e) := by rw [Nat.zero_add]; exact Nat.mul_assoc _ _ _
    omega
  have hmax : ¬ IntKind.i64.max < ((0 + l.toNat : Nat) : Int) := by
    have : IntKind.i64.max = 9223372036854775807 := by decide
    rw [this]
    omega
  have hbig : ¬ (l * (inf.bytes : Int) > 2 ^ 48) := by
    rw [i2]
    have e1 : ((l.toNat * E.T.bytes e : Nat) : Int) = l * (E.T.bytes e : Int) := by rw [Int.natCast_mul]; congr 1; omega
    omega
  have hl := zeros_LR (z2 κ) l.toNat
  have hlen : ((List.replicate l.toNat z).flatten).length = l.toNat * E.T.size e := by simp [z3]
  have hneed : ¬ 0 + l.toNat ≤ 0 := by omega
  have hneg : ¬ l < 0 := by omega
  have hn0 : ¬ l.toNat * E.T.size e = 0 := fun h => by
    rcases Nat.mul_eq_zero.1 h with h | h
    · omega
    · exact c1 h
  obtain ⟨κ', e1, e2, e3⟩ := hw.drew.newArr (vs := Builtin.zeroCells zv.cells l.toNat ++ Builtin.zeroCells zv.cells (nc - (0 + l.toNat))) (cs := (List.replicate l.toNat z).flatten) (fun j y hy => by
      obtain ⟨v, g1, g2⟩ := hl.get hy
      have hlt := lt_of_get hy
      exact ⟨v, by rw [Array.getElem?_append_left (by rw [zeroCells_LR (z2 κ), hzs, ← hlen]; exact hlt)]; exact g1, g2⟩)
    (by rw [Array.size_append, zeroCells_LR (z2 κ), zeroCells_LR (z2 κ), hzs, hlen]; omega) e (0, 0) (fun j _ => by simp) (isAgg d) (E.T.size e) (len := l.toNat) (cap := nc) (ex := false) (by omega) (fun e => by cases e)
    (by rw [Array.size_append, zeroCells_LR (z2 κ), zeroCells_LR (z2 κ), hzs, ← Nat.add_mul]; congr 1; omega)
  refine ⟨.slice (some ⟨w.heap.size, 0, none⟩) (0 + l.toNat) nc, _, κ', ?_, by rw [Nat.zero_add]; exact e3, e2, e1, by simp⟩
  simp only [Builtin.append_, h0, h1, List.getElem?_toArray, List.getElem?_cons_zero, List.getElem?_cons_succ, Sem.run_bind, hT.run_und hu, Result.andThen_ok, hT.run_size hd, hT.run_und hxt, Sem.run_pure, if_true, asInt, asIntOf, c3, hneg, if_false, i1, hbig, hneed, gt_iff_lt, hmax, false_and, n2, run_askRoom, Bool.not_true, Bool.false_eq_true, hn0, z1]
  obtain ⟨inf', j1, _⟩ := hT.run_bytes hd w.drew
  have hnext' : ¬ (Builtin.nextslicecap (0 + l.toNat) 0 * inf.bytes > 281474976710656) := hnext
  simp only [Nat.reducePow, Nat.zero_add] at n2 hnext' ⊢
  simp only [hnext', if_false, Sem.run_pure, Sem.run_bind, Result.andThen_ok, n2, run_askRoom, Builtin.firstCells, z1, newRow, j1, Array.empty_append]
  simp
  rfl
theorem append_sound {E : Env} {P : Program} (hT : TabOk E.T P) {w0 : World} {κ : Kn} {σ σ' : Store} {w : World} (hw : WR w0 κ σ w) {argTypes : Array TypeId} {s x r : AVal} {sc xc : Value} (hs : VR κ s sc) (hx : VR κ x xc)
    (h : append E σ argTypes s x = some (r, σ')) (ty : TypeId) : Leaves w0 κ σ r σ' ((Builtin.append_ argTypes ty #[sc, xc]).run P w) := by
  unfold append at h
  simp only [Option.bind_eq_bind] at h
  split at h
  case h_2 => cases h
  rename_i st h0
  split at h
  case h_2 => cases h
  rename_i e hu
  split at h
  case h_2 => cases h
  rename_i xt h1
  split at h
  case h_1 => cases h
  case h_2 k hk => exact appendMake_sound hT hw hs hx h0 h1 hu hk h ty
  rename_i hn1 hn2
  cases hxd : E.T.und xt with
  | none => exact absurd hxd hn1
  | some xd =>
  have hxi : ∀ k, xd ≠ .int k := fun k e => hn2 k (by rw [hxd, e])
  cases hd : E.T.und e with
  | none => simp [hd] at h
  | some d =>
  simp only [hd, Option.bind_some] at h
  split at h
  · cases h
  rename_i hsz
  have hs0 : E.T.size e ≠ 0 := fun e => hsz (.inl e)
  cases hn : lenOf x with
  | none => simp [hn] at h
  | some n =>
  cases hm : lenOf s with
  | none => simp [hn, hm] at h
  | some m =>
  cases hnew : elemCells E σ (E.T.size e) n x with
  | none => simp [hn, hm, hnew] at h
  | some new =>
  simp only [hn, hm, hnew, Option.bind_some] at h
  split at h
  · cases h
  rename_i hb
  have hb1 : (m + n) * E.T.bytes e ≤ 2 ^ 40 := by have := (not_or.1 hb).1; omega
  have hb2 : m + n ≤ 2 ^ 40 := by have := (not_or.1 (not_or.1 hb).2).1; omega
  obtain ⟨z, hz⟩ := Option.isSome_iff_exists.1 (show (E.T.zero e).isSome = true by
    have := (not_or.1 (not_or.1 hb).2).2
    cases hzz : E.T.zero e with
    | none => rw [hzz] at this; exact absurd rfl this
    | some z => rfl)
  have hlen : ∀ w, (Builtin.lenOf xc).run P w = .ok n w := fun w => lenOf_sound hn hx w
  obtain ⟨⟨nv, hnv1, hnv2⟩, hnl⟩ := elemCells_sound (P := P) hw hnew hx
  by_cases hn0 : n = 0
  · -- nothing is put behind
    subst hn0
    simp only [if_true] at h
    have hsame : ∃ a cap, sc = .slice a m cap ∧ m ≤ cap ∧ r = s ∧ σ' = σ := by
      split at h
      · cases h
        cases hs with
        | nilslice _ a cap => cases hm; exact ⟨some a, cap, rfl, by simp, rfl, rfl⟩
        | slice _ _ b o s' cap f hne hc => cases hm; exact ⟨_, cap, rfl, hc, rfl, rfl⟩
      · cases h
        cases hs with
        | oslice _ _ _ _ p cap hp hc => cases hm; exact ⟨_, cap, rfl, hc, rfl, rfl⟩
      · cases h
        cases hs
        cases hm
        exact ⟨none, 0, rfl, Nat.le_refl 0, rfl, rfl⟩
      · cases h
    obtain ⟨a, cap, rfl, hcap, rfl, rfl⟩ := hsame
    have hnv0 : nv = #[] := by
      have := hnv2.1
      rw [hnl, Nat.zero_mul] at this
      exact Array.eq_empty_of_size_eq_zero this
    subst hnv0
    refine Leaves.pure hw ⟨.slice a m cap, ?_, hs⟩
    rw [append_room_run hT h0 h1 hu hxd hxi hd hlen (by omega) hnv1]
    cases a <;> simp [storeCells]
  · simp only [if_neg hn0] at h
    obtain ⟨⟨nv', hnd1, hnd2⟩, _⟩ := elemCells_sound (P := P) hw.drew hnew hx
    split at h
    · -- nil
      cases h
      cases hm
      cases hs
      exact append_new hT hw h0 h1 hu hxd hxi hd hz hlen (by omega) ⟨#[], rfl, by simp [LR]⟩ (by simp) ⟨nv', hnd1, hnd2⟩ hnl hb1 hb2 hs0 ty
    · -- a slice that is a value
      rename_i xs ex
      split at h
      · rename_i hex
        cases hold : elemCells E σ (E.T.size e) m (.slice xs ex) with
        | none => simp [hold] at h
        | some old =>
          simp only [hold, Option.bind_some, Option.some.injEq, Prod.mk.injEq] at h
          obtain ⟨rfl, rfl⟩ := h
          obtain ⟨⟨ov, ho1, ho2⟩, hol⟩ := elemCells_sound (P := P) hw.drew hold hs
          cases hm
          cases hs with
          | nilslice _ a cap h1' => exact append_new hT hw h0 h1 hu hxd hxi hd hz hlen (by have := h1' hex; omega) ⟨ov, ho1, ho2⟩ hol ⟨nv', hnd1, hnd2⟩ hnl hb1 hb2 hs0 ty
          | slice _ _ b o s' cap f hne hc hex' => exact append_new hT hw h0 h1 hu hxd hxi hd hz hlen (by have := hex' hex; omega) ⟨ov, ho1, ho2⟩ hol ⟨nv', hnd1, hnd2⟩ hnl hb1 hb2 hs0 ty
      · cases h
    · -- an owned array
      rename_i id off len ex
      cases hm
      cases hg : σ.get id with
      | none => simp [hg] at h
      | some ob =>
        simp only [hg, Option.bind_some] at h
        split at h
        · rename_i g sz cs
          split at h
          · cases h
          rename_i hbnd
          have hle : off + m * E.T.size e ≤ cs.length := by have := (not_or.1 hbnd).1; omega
          have hsz' : sz = E.T.size e := by
            have := (not_or.1 hbnd).2
            exact Classical.not_not.1 this
          subst hsz'
          have hold : elemCells0 E σ (E.T.size e) m (.oslice id off m ex) = some ((cs.drop off).take (m * E.T.size e)) := by
            simp [elemCells0, hg, hle]
          obtain ⟨⟨ov, ho1, ho2⟩, hol⟩ := elemCells0_sound (P := P) hw.drew hold hs
          split at h
          · -- no room behind it
            rename_i hex
            cases h
            cases hs with
            | oslice _ _ _ _ p cap hp hc hex' => exact append_new hT hw h0 h1 hu hxd hxi hd hz hlen (by have := hex' hex; omega) ⟨ov, ho1, ho2⟩ hol ⟨nv', hnd1, hnd2⟩ hnl hb1 hb2 hs0 ty
          · rename_i hex
            have hexf : ex = false := by simpa using hex
            subst hexf
            cases hs with
            | oslice _ _ _ _ p cap hp hc hex' hlim hnx =>
              obtain ⟨own, hwo⟩ := hw
              have hob := (hwo.objs id _ hg).2
              cases hob with
              | arr _ _ _ p' hp' hz' hcs hl hrest =>
              rw [hp] at hp'; cases hp'
              have hend := hnx rfl
              rw [hz'] at hend
              have hone : ∀ v ∈ nv.toList, v.oneCell' = true := hnv2.ones (elemCells_of hnew).2
              have hstore : ∀ k, (∀ j, j < nv.size → k + j < p.lim) → (storeCells ⟨p.block, p.off + k, none⟩ nv.toList).run P w = .ok () (w.setCells p.block (p.off + k) nv.toList) := by
                intro k hk
                have hreg : ∀ j, j < p.lim → w.frozen? ⟨p.block, p.off + j, none⟩ = false ∧ (w.cell? ⟨p.block, p.off + j, none⟩).isSome = true := fun j hj => by
                  by_cases h : j < cs.length
                  · obtain ⟨h1, h2, v, h3, _⟩ := hcs j cs[j] (List.getElem?_eq_getElem h)
                    exact ⟨h2, by rw [h3]; rfl⟩
                  · exact (hrest j (by omega) hj).2
                have := run_storeCells_cells (P := P) p.block (p.off + k) nv.toList 0 w (fun j hj => by
                    have := (hreg (k + j) (hk j (by simpa using hj))).2
                    rwa [show p.off + k + 0 + j = p.off + (k + j) by omega]) (fun j hj => by
                    have := (hreg (k + j) (hk j (by simpa using hj))).1
                    rwa [show p.off + k + 0 + j = p.off + (k + j) by omega]) hone
                simpa using this
              have hnvl : nv.toList.length = new.length := by simpa using hnv2.1
              split at h
              · rename_i hat
                cases h
                by_cases hroom : m + n ≤ cap
                · -- in place
                  have hmul : (m + n) * E.T.size e ≤ cap * E.T.size e := Nat.mul_le_mul_right _ hroom
                  rw [Nat.add_mul] at hmul
                  obtain ⟨κ', x1, x2, x3⟩ := hwo.extend hg hp (off := off) (by omega) hnvl hnv2.list (by omega) (isAgg d)
                  refine ⟨.slice (some ⟨p.block, p.off + off, none⟩) (m + n) cap, _, κ', ?_, ?_, x2, x1, by simp⟩
                  · rw [append_room_run hT h0 h1 hu hxd hxi hd hlen hroom hnv1]
                    simp only [addr_add]
                    rw [show p.off + off + m * E.T.size e = p.off + cs.length by omega, hstore cs.length (fun j hj => by have := hnv2.1; omega)]
                    rfl
                  · have := VR.oslice (κ := κ') σ.next 0 (m + n) false _ cap x3 hroom (fun e => by cases e) (by dsimp only; rw [hz']; omega) (fun _ => by dsimp only; rw [hz']; omega)
                    simpa using this
                · -- in a new array
                  obtain ⟨r', w', κ', y1, y2, y3, y4, y5⟩ := append_new (σ := σ.del id) hT (WR.drop ⟨own, hwo⟩ (fun i o hi => by rw [Store.get_del] at hi; split at hi <;> first | cases hi | exact hi) rfl) h0 h1 hu hxd hxi hd hz hlen (by omega) ⟨ov, ho1, ho2⟩ hol ⟨nv', hnd1, hnd2⟩ hnl hb1 hb2 hs0 ty
                  have htake : (cs.drop off).take (m * E.T.size e) = cs.drop off := List.take_of_length_le (by simp; omega)
                  rw [htake] at y3
                  exact ⟨r', w', κ', y1, y2, y3, y4, y5⟩
              · split at h
                · rename_i hin
                  cases h
                  have hroom : m + n ≤ cap := by
                    have : (m + n) * E.T.size e ≤ cap * E.T.size e := by omega
                    exact Nat.le_of_mul_le_mul_right this (by omega)
                  rw [Nat.add_mul] at hin
                  have hwr := hwo.write hg (cs := cs) rfl hp (off := off + m * E.T.size e) (vs := new) (us := nv.toList) (by omega) hnvl hnv2.list
                  refine ⟨.slice (some ⟨p.block, p.off + off, none⟩) (m + n) cap, _, κ, ?_, .oslice id off (m + n) false p cap hp hroom (fun e => by cases e) hlim hnx, ⟨own, hwr⟩, Ext.refl _ _, Nat.le_refl _⟩
                  rw [append_room_run hT h0 h1 hu hxd hxi hd hlen hroom hnv1]
                  simp only [addr_add]
                  rw [Nat.add_assoc p.off, hstore (off + m * E.T.size e) (fun j hj => by have := hnv2.1; omega)]
                  rfl
                · cases h
        · cases h
    · cases h

end Go.Ab

namespace Go.Ab
open Go.RowKit (Below)

/-- Cells of an owned array are written, as the model writes them. -/
theorem arr_write {P : Program} {w0 : World} {κ : Kn} {σ : Store} {w : World} (hw : WR w0 κ σ w) {id : Nat} {g : Bool} {sz : Nat} {cs : List AVal} {p : Place} (hg : σ.get id = some (.arr g sz cs)) (hp : κ.base id = some p) {off : Nat} {vs : List AVal} {us : Array Value}
    (hl : off + vs.length ≤ cs.length) (hu : LR κ vs us) (ho : vs.all AVal.one = true) :
    ∃ w', (storeCells ⟨p.block, p.off + off, none⟩ us.toList).run P w = .ok () w' ∧ WR w0 κ (σ.put id (.arr g sz (setRange cs off vs))) w' := by
  obtain ⟨own, hwo⟩ := hw
  have hob := (hwo.objs id _ hg).2
  cases hob with
  | arr _ _ _ p' hp' hz' hcs hlim hrest =>
    rw [hp] at hp'; cases hp'
    have hus := hu.1
    have hwr := hwo.write hg (cs := cs) rfl hp (off := off) (vs := vs) (us := us.toList) hl (by simpa using hus) hu.list
    refine ⟨_, ?_, ⟨own, hwr⟩⟩
    have hreg : ∀ j, j < us.toList.length → ∃ v, w.cell? ⟨p.block, p.off + off + 0 + j, none⟩ = some v ∧ w.frozen? ⟨p.block, p.off + off + 0 + j, none⟩ = false := fun j hj => by
      simp only [Array.length_toList] at hj
      obtain ⟨h1, h2, v, h3, _⟩ := hcs (off + j) cs[off + j] (List.getElem?_eq_getElem (by omega))
      exact ⟨v, by rwa [show p.off + off + 0 + j = p.off + (off + j) by omega], by rwa [show p.off + off + 0 + j = p.off + (off + j) by omega]⟩
    have := run_storeCells_cells (P := P) p.block (p.off + off) us.toList 0 w (fun j hj => by obtain ⟨v, h1, _⟩ := hreg j hj; rw [h1]; rfl) (fun j hj => by obtain ⟨v, _, h2⟩ := hreg j hj; exact h2) (hu.ones ho)
    simpa using this

theorem copy_sound {E : Env} {P : Program} (hT : TabOk E.T P) {w0 : World} {κ : Kn} {σ σ' : Store} {w : World} (hw : WR w0 κ σ w) {argTypes : Array TypeId} {d s r : AVal} {dc sc : Value} (hd : VR κ d dc) (hs : VR κ s sc)
    (h : copy E σ argTypes d s = some (r, σ')) (ty : TypeId) : Leaves w0 κ σ r σ' ((Builtin.copy_ argTypes ty #[dc, sc]).run P w) := by
  unfold copy at h
  simp only [Option.bind_eq_bind] at h
  split at h
  case h_2 => cases h
  rename_i dt h0
  split at h
  case h_2 => cases h
  rename_i e hu
  split at h
  · cases h
  rename_i hz
  cases hn : lenOf s with
  | none => simp [hn] at h
  | some n =>
  cases hm : lenOf d with
  | none => simp [hn, hm] at h
  | some m =>
  simp only [hn, hm, Option.bind_some] at h
  cases hnew : elemCells E σ (E.T.size e) (min n m) s with
  | none => simp [hnew] at h
  | some new =>
  simp only [hnew, Option.bind_some] at h
  have hlen := lenOf_sound (P := P) hn hs w
  obtain ⟨⟨nv, hnv1, hnv2⟩, hnl⟩ := elemCells_sound (P := P) hw hnew hs
  have hbase : ∃ a cap, dc = .slice a m cap := by
    unfold lenOf at hm
    split at hm <;> cases hm
    · cases hd with
      | nilslice _ a cap => exact ⟨a, cap, rfl⟩
      | slice _ _ b o s' cap => exact ⟨_, cap, rfl⟩
    · cases hd with
      | oslice _ _ _ _ p cap => exact ⟨_, cap, rfl⟩
    · simp at h
    · cases hd; exact ⟨_, _, rfl⟩
  obtain ⟨a, cap, rfl⟩ := hbase
  have hrun : (Builtin.copy_ argTypes ty #[.slice a m cap, sc]).run P w = match a with
      | some a => ((storeCells a nv.toList).run P w).andThen fun _ w' => .ok (goInt (min n m : Nat)) w'
      | none => .ok (goInt (min n m : Nat)) w := by
    have hmin : Nat.min n m = min n m := rfl
    simp only [Builtin.copy_, h0, List.getElem?_toArray, List.getElem?_cons_zero, List.getElem?_cons_succ, Sem.run_bind, hT.run_und hu, Result.andThen_ok, hlen, size_und hT hz hT.tot, hmin, hnv1]
    cases a <;> simp
  split at h
  · split at h
    · rename_i hk
      cases h
      rw [hk, Nat.zero_mul] at hnl
      have : nv = #[] := Array.eq_empty_of_size_eq_zero (by rw [hnv2.1, hnl])
      subst this
      refine Leaves.pure hw ⟨goInt 0, ?_, ?_⟩
      · rw [hrun, hk]
        cases a <;> simp [storeCells]
      · exact .int _ _
    · cases h
  · split at h
    · rename_i hk
      cases h
      rw [hk, Nat.zero_mul] at hnl
      have : nv = #[] := Array.eq_empty_of_size_eq_zero (by rw [hnv2.1, hnl])
      subst this
      refine Leaves.pure hw ⟨goInt 0, ?_, ?_⟩
      · rw [hrun, hk]
        cases a <;> simp [storeCells]
      · exact .int _ _
    · cases h
  · rename_i id off dl ex
    cases hg : σ.get id with
    | none => simp [hg] at h
    | some ob =>
      simp only [hg, Option.bind_some] at h
      split at h
      · rename_i g sz cs
        split at h
        · rename_i hc
          cases h
          cases hd with
          | oslice _ _ _ _ p cap' hp hcap hex hlim hnx =>
            obtain ⟨w', y1, y2⟩ := arr_write (P := P) hw hg hp (off := off) (vs := new) (us := nv) (by rw [hnl]; exact hc.1) hnv2 (elemCells_of hnew).2
            refine ⟨goInt (min n m : Nat), w', κ, ?_, .int _ _, y2, Ext.refl _ _, Nat.le_refl _⟩
            rw [hrun]
            simp only [y1]
            rfl
        · cases h
      · cases h
  · cases h

theorem clear_sound {E : Env} {P : Program} (hT : TabOk E.T P) {w0 : World} {κ : Kn} {σ σ' : Store} {w : World} (hw : WR w0 κ σ w) {argTypes : Array TypeId} {x : AVal} {xc : Value} (hx : VR κ x xc)
    (h : clear E σ argTypes x = some σ') (ty : TypeId) : ∃ w', (Builtin.clear_ argTypes ty #[xc]).run P w = .ok (.tuple #[]) w' ∧ WR w0 κ σ' w' ∧ σ'.next = σ.next := by
  unfold clear at h
  simp only [Option.bind_eq_bind] at h
  split at h
  case h_2 => cases h
  rename_i t h0
  split at h
  · rename_i e ex hu
    cases h
    cases hx with
    | nilslice _ a cap =>
      refine ⟨w, ?_, hw, rfl⟩
      simp only [Builtin.clear_, h0, List.getElem?_toArray, List.getElem?_cons_zero, Sem.run_bind, hT.run_und hu, Result.andThen_ok]
      cases a <;> simp
    | slice _ _ b o s cap f hne => exact absurd rfl hne
  · rename_i e hu
    cases h
    cases hx
    refine ⟨w, ?_, hw, rfl⟩
    simp [Builtin.clear_, h0, hT.run_und hu]
  · rename_i e id off len ex hu
    split at h
    · cases h
    · rename_i hz
      cases hg : σ.get id with
      | none => simp [hg] at h
      | some ob =>
        cases hze : E.T.zero e with
        | none => simp [hg, hze] at h
        | some z =>
          simp only [hg, hze, Option.bind_some] at h
          split at h
          · rename_i g sz cs
            split at h
            · rename_i hc
              obtain ⟨c1, c2, rfl⟩ := hc
              cases h
              cases hx with
              | oslice _ _ _ _ p cap hp hcap hex hlim hnx =>
                cases len with
                | zero =>
                  refine ⟨w, ?_, ?_, rfl⟩
                  · simp only [Builtin.clear_, h0, List.getElem?_toArray, List.getElem?_cons_zero, Sem.run_bind, hT.run_und hu, Result.andThen_ok]
                    simp
                  · have : setRange cs off (List.replicate 0 z).flatten = cs := by simp [setRange]
                    rw [this]
                    refine hw.drop (fun i o hi => ?_) rfl
                    rw [Store.get_put] at hi
                    split at hi
                    · rename_i e; cases hi; rw [e]; exact hg
                    · exact hi
                | succ len =>
                  obtain ⟨zv, d', z1, z2, z3, z4, z5, z6⟩ := hT.run_zero hze w
                  have hlr := zeros_LR (z2 κ) (len + 1)
                  have hfl : ((List.replicate (len + 1) z).flatten).length = (len + 1) * E.T.size e := by simp [c2]
                  have hone : ((List.replicate (len + 1) z).flatten).all AVal.one = true := List.all_eq_true.2 fun x hx => by
                    obtain ⟨l, hl1, hl2⟩ := List.mem_flatten.1 hx
                    rw [List.eq_of_mem_replicate hl1] at hl2
                    exact List.all_eq_true.1 z4 x hl2
                  obtain ⟨w', y1, y2⟩ := arr_write (P := P) hw hg hp (off := off) (by rw [hfl]; exact c1) hlr hone
                  refine ⟨w', ?_, y2, rfl⟩
                  simp only [Builtin.clear_, h0, List.getElem?_toArray, List.getElem?_cons_zero, Sem.run_bind, hT.run_und hu, Result.andThen_ok, z1]
                  simp only [Builtin.zeroCells, y1, Result.andThen_ok, Sem.run_pure]
            · cases h
          · cases h
  · cases h

end Go.Ab

namespace Go.Ab
open Go.RowKit (Below)

/-- A map: ranged over, or not. -/
def MapAt (σ : Store) (id : Nat) (es : List (AVal × AVal)) : Prop := σ.get id = some (.map es) ∨ ∃ it n, σ.get id = some (.rmap es it n)
theorem mapEntries_sound {w0 : World} {κ : Kn} {σ : Store} {w : World} (hw : WR w0 κ σ w) {m : AVal} {c : Value} {es : List (AVal × AVal)} (h : mapEntries σ m = some es) (hm : VR κ m c) :
    (m = .nilmap ∧ c = .map none ∧ es = []) ∨ ∃ id p ms clock, m = .map id ∧ κ.base id = some p ∧ c = .map (some p.block) ∧ MapAt σ id es ∧ w.heap[p.block]? = some (.map ms clock) ∧ EntriesR κ es ms ∧ BornOk ms clock := by
  obtain ⟨own, hw⟩ := hw
  unfold mapEntries at h
  split at h
  · cases h; cases hm; exact .inl ⟨rfl, rfl, rfl⟩
  · rename_i id
    simp only [Option.bind_eq_bind] at h
    cases hg : σ.get id with
    | none => simp [hg] at h
    | some ob =>
      simp only [hg, Option.bind_some] at h
      split at h
      · cases h
        cases hm with
        | map _ p hp =>
          have := (hw.objs id _ hg).2
          cases this with
          | map _ p' ms clock hp' hb he hn ho => rw [hp] at hp'; cases hp'; exact .inr ⟨id, p, ms, clock, rfl, hp, rfl, .inl hg, hb, he, hn⟩
      · cases h
        cases hm with
        | map _ p hp =>
          have := (hw.objs id _ hg).2
          cases this with
          | rmap _ it n p' q ms clock since seen last hp' hq h0 hb hi he hn => rw [hp] at hp'; cases hp'; exact .inr ⟨id, p, ms, clock, rfl, hp, rfl, .inr ⟨_, _, hg⟩, hb, he, hn⟩
      · cases h
  · cases h

theorem run_getObj_map {P : Program} {w : World} {b : Nat} {ms : Array MapEntry} {clock : Nat} (h : w.heap[b]? = some (.map ms clock)) : (getObj b).run P w = .ok (.map ms clock) w := by
  simp [getObj, Sem.run, h]
theorem run_getObj_iter {P : Program} {w : World} {b : Nat} {s : ByteArray} {pos : Nat} (h : w.heap[b]? = some (.stringIter s pos)) : (getObj b).run P w = .ok (.stringIter s pos) w := by
  simp [getObj, Sem.run, h]

theorem len_sound {E : Env} {P : Program} (hT : TabOk E.T P) {w0 : World} {κ : Kn} {σ : Store} {w : World} (hw : WR w0 κ σ w) {argTypes : Array TypeId} {x r : AVal} {c : Value} (hO : OrcOk E) (hI : κ.hint = E.hint) (hH : κ.hid = E.hid) (hx : VR κ x c) (h : len E σ argTypes x = some r) (ty : TypeId) :
    ∃ v, (Builtin.len_ argTypes ty #[c]).run P w = .ok v w ∧ VR κ r v := by
  unfold len at h
  split at h
  case h_2 => cases h
  rename_i t h0
  split at h
  · rename_i s hu
    cases h; cases hx
    exact ⟨_, by simp [Builtin.len_, h0, hT.run_und hu] <;> rfl, .int _ _⟩
  · rename_i e xs ex hu
    cases h
    cases hx with
    | nilslice _ a cap => exact ⟨_, by simp [Builtin.len_, h0, hT.run_und hu] <;> rfl, .int _ _⟩
    | slice _ _ b o s cap => exact ⟨_, by simp [Builtin.len_, h0, hT.run_und hu] <;> rfl, .int _ _⟩
  · rename_i e id off n ex hu
    cases h
    cases hx
    exact ⟨_, by simp [Builtin.len_, h0, hT.run_und hu] <;> rfl, .int _ _⟩
  · rename_i e hu
    cases h
    cases hx
    exact ⟨_, by simp [Builtin.len_, h0, hT.run_und hu] <;> rfl, .int _ _⟩
  · rename_i e i hu
    obtain ⟨j, hj, rfl⟩ := Option.map_eq_some_iff.1 h
    have hl := hO.len _ _ hj
    have hv : VR κ (.hint j) (.int .i64 (E.hid i).length) := by rw [← hl, ← hI]; exact .hint j
    cases hx with
    | hid _ a n cap hx =>
      rw [hH] at hx
      generalize E.hid i = xs at hx hv
      cases hx with
      | nilslice _ a cap => exact ⟨_, by simp [Builtin.len_, h0, hT.run_und hu] <;> rfl, hv⟩
      | slice _ _ b o s cap => exact ⟨_, by simp [Builtin.len_, h0, hT.run_und hu] <;> rfl, hv⟩
  · rename_i n e hu
    cases h
    exact ⟨_, by simp [Builtin.len_, h0, hT.run_und hu] <;> rfl, .int _ _⟩
  · rename_i k v hu
    simp only [Option.map_eq_some_iff] at h
    obtain ⟨es, hes, rfl⟩ := h
    rcases mapEntries_sound hw hes hx with ⟨rfl, rfl, rfl⟩ | ⟨id, p, ms, clock, rfl, hp, rfl, hg, hb, he, hn⟩
    · exact ⟨_, by simp [Builtin.len_, h0, hT.run_und hu] <;> rfl, .int _ _⟩
    · refine ⟨.int .i64 es.length, ?_, .int _ _⟩
      simp [Builtin.len_, h0, hT.run_und hu, run_getObj_map hb, goInt, he.1]
  · cases h

theorem cap_sound {E : Env} {P : Program} (hT : TabOk E.T P) {κ : Kn} {w : World} {argTypes : Array TypeId} {x r : AVal} {c : Value} (hx : VR κ x c) (h : cap E argTypes x = some r) (ty : TypeId) :
    ∃ v, (Builtin.cap_ argTypes ty #[c]).run P w = .ok v w ∧ VR κ r v := by
  unfold cap at h
  split at h
  case h_2 => cases h
  rename_i t h0
  split at h
  · rename_i e xs hu
    cases h
    cases hx with
    | nilslice _ a cap h1 => obtain rfl := h1 rfl; exact ⟨_, by simp [Builtin.cap_, h0, hT.run_und hu] <;> rfl, .int _ _⟩
    | slice _ _ b o s cap f hne hc hex => obtain rfl := hex rfl; exact ⟨_, by simp [Builtin.cap_, h0, hT.run_und hu] <;> rfl, .int _ _⟩
  · rename_i e id off n hu
    cases h
    cases hx with
    | oslice _ _ _ _ p cap hp hc hex => obtain rfl := hex rfl; exact ⟨_, by simp [Builtin.cap_, h0, hT.run_und hu] <;> rfl, .int _ _⟩
  · rename_i e hu
    cases h
    cases hx
    exact ⟨_, by simp [Builtin.cap_, h0, hT.run_und hu] <;> rfl, .int _ _⟩
  · cases h

theorem maxMin_sound {P : Program} {κ : Kn} {l : List AVal} {cs : Array Value} {r : AVal} (mx : Bool) (h : maxMin mx l = some r) (hl : LR κ l cs) (at_ : Array TypeId) (ty : TypeId) (w : World) :
    ∃ v, (if mx then Builtin.max_ at_ ty cs else Builtin.min_ at_ ty cs).run P w = .ok v w ∧ VR κ r v := by
  unfold maxMin at h
  split at h
  · rename_i k a k' b
    split at h
    · rename_i e
      subst e
      cases h
      have hcs : cs = #[.int k a, .int k b] := by
        obtain ⟨u, g1, g2⟩ := hl.get (j := 0) rfl
        obtain ⟨v, g3, g4⟩ := hl.get (j := 1) rfl
        cases g2; cases g4
        apply Array.ext'
        have := hl.1
        apply List.ext_getElem?
        intro j
        match j with
        | 0 => simpa using g1
        | 1 => simpa using g3
        | j + 2 => rw [List.getElem?_eq_none (by simp [this]), List.getElem?_eq_none (by simp)]
      subst hcs
      cases mx
      · exact ⟨_, by simp [Builtin.min_, Builtin.min2] <;> rfl, .int _ _⟩
      · exact ⟨_, by simp [Builtin.max_, Builtin.max2] <;> rfl, .int _ _⟩
    · cases h
  · rename_i k a k' b k'' c
    split at h
    · rename_i e
      obtain ⟨rfl, rfl⟩ := e
      cases h
      have hcs : cs = #[.int k a, .int k b, .int k c] := by
        obtain ⟨u, g1, g2⟩ := hl.get (j := 0) rfl
        obtain ⟨v, g3, g4⟩ := hl.get (j := 1) rfl
        obtain ⟨z, g5, g6⟩ := hl.get (j := 2) rfl
        cases g2; cases g4; cases g6
        apply Array.ext'
        have := hl.1
        apply List.ext_getElem?
        intro j
        match j with
        | 0 => simpa using g1
        | 1 => simpa using g3
        | 2 => simpa using g5
        | j + 3 => rw [List.getElem?_eq_none (by simp [this]), List.getElem?_eq_none (by simp)]
      subst hcs
      cases mx
      · exact ⟨_, by simp [Builtin.min_, Builtin.min2] <;> rfl, .int _ _⟩
      · exact ⟨_, by simp [Builtin.max_, Builtin.max2] <;> rfl, .int _ _⟩
    · cases h
  · cases h


/-! keys -/
/-- Keys that are compared at once: numbers or texts. -/
def KeyKind (d : TypeDesc) (k : AVal) : Prop := (∃ k' n, k = .int k' n ∧ ∃ q, d = .int q) ∨ (∃ s, k = .str s ∧ d = .string)
theorem plainKey_kind {T : Tab} {t : TypeId} {k : AVal} (h : plainKey T t k = true) : ∃ d, T.und t = some d ∧ KeyKind d k := by
  unfold plainKey at h
  split at h
  · rename_i q k' n hu; exact ⟨_, hu, .inl ⟨_, _, rfl, _, rfl⟩⟩
  · rename_i s hu; exact ⟨_, hu, .inr ⟨_, rfl, rfl⟩⟩
  · cases h

theorem keyEq_sound {κ : Kn} {a b : AVal} {u v : Value} {r : Bool} {d : TypeDesc} (h : keyEq a b = some r) (ha : VR κ a u) (hb : VR κ b v) (hd : KeyKind d a) : Instr.sameNow d u v = some r := by
  rcases hd with ⟨k, n, rfl, q, rfl⟩ | ⟨s, rfl, rfl⟩
  · cases ha
    cases hb <;> simp [keyEq] at h
    obtain ⟨rfl, rfl⟩ := h
    simp [Instr.sameNow]
  · cases ha
    cases hb <;> simp [keyEq] at h
    subst h
    rfl

theorem findKey_sound {κ : Kn} {k : AVal} {c : Value} {d : TypeDesc} (hk : VR κ k c) (hd : KeyKind d k) : ∀ (es : List (AVal × AVal)) (ms : List MapEntry) (i : Nat) (r : Option (Nat × AVal)), findKey k es i = some r → ms.length = es.length →
    (∀ (j : Nat) (e : AVal × AVal) (m : MapEntry), es[j]? = some e → ms[j]? = some m → VR κ e.1 m.key ∧ VR κ e.2 m.val) →
    match r with
    | some (n, v) => ∃ u, Instr.findNow d c ms i = some (some (n, u)) ∧ VR κ v u ∧ i ≤ n ∧ n - i < es.length ∧ ∃ e, es[n - i]? = some e ∧ keyEq k e.1 = some true
    | none => Instr.findNow d c ms i = some none
  | [], ms, i, r, h, hl, _ => by
    cases h
    have : ms = [] := List.eq_nil_of_length_eq_zero hl
    subst this
    rfl
  | e :: es, [], i, r, h, hl, _ => by simp at hl
  | e :: es, m :: ms, i, r, h, hl, hr => by
    obtain ⟨h1, h2⟩ := hr 0 e m rfl rfl
    simp only [findKey] at h
    split at h
    · rename_i heq
      cases h
      have hs := keyEq_sound heq hk h1 hd
      exact ⟨m.val, by simp [Instr.findNow, hs], h2, Nat.le_refl _, by simp, e, by simp, heq⟩
    · rename_i heq
      have hs := keyEq_sound heq hk h1 hd
      have ih := findKey_sound hk hd es ms (i + 1) r h (by simpa using hl) (fun j e m a b => hr (j + 1) e m (by simpa using a) (by simpa using b))
      cases r with
      | none => simp only [Instr.findNow, hs]; exact ih
      | some p =>
        obtain ⟨n, v⟩ := p
        obtain ⟨u, g1, g2, g3, g4, e', g5, g6⟩ := ih
        refine ⟨u, by simp only [Instr.findNow, hs]; exact g1, g2, by omega, by simp; omega, e', ?_, g6⟩
        rw [show n - i = (n - (i + 1)) + 1 by omega, List.getElem?_cons_succ]
        exact g5
    · cases h

theorem checkKey_run {T : Tab} {P : Program} (hT : TabOk T P) {κ : Kn} {t : TypeId} {k : AVal} {c : Value} {d : TypeDesc} (hu : T.und t = some d) (hd : KeyKind d k) (hk : VR κ k c) (b : Bool) (w : World) : (Instr.checkKey b 10000 t c).run P w = .ok () w := by
  have : ∀ n, (Instr.checkKey b (n + 1) t c).run P w = .ok () w := fun n => by
    simp only [Instr.checkKey, Sem.run_bind, hT.run_und hu, Result.andThen_ok]
    rcases hd with ⟨_, _, _, q, rfl⟩ | ⟨_, _, rfl⟩ <;> simp
  exact this 9999

theorem lookup_sound {E : Env} {P : Program} (hT : TabOk E.T P) {w0 : World} {κ : Kn} {σ : Store} {w : World} (hw : WR w0 κ σ w) {t : TypeId} {m k r : AVal} {ok : Bool} {mc kc : Value} (hm : VR κ m mc) (hk : VR κ k kc)
    (h : lookup E σ t m k ok = some r) : ∃ v, (Instr.lookup t mc kc ok).run P w = .ok v w ∧ VR κ r v := by
  unfold lookup at h
  simp only [Option.bind_eq_bind] at h
  split at h
  case h_2 => cases h
  rename_i kt et hu
  split at h
  case isFalse => cases h
  rename_i hpk
  obtain ⟨d, hdu, hd⟩ := plainKey_kind hpk
  cases hes : mapEntries σ m with
  | none => simp [hes] at h
  | some es =>
  simp only [hes, Option.bind_some] at h
  cases hf : findKey k es 0 with
  | none => simp [hf] at h
  | some res =>
  simp only [hf, Option.bind_some] at h
  have fin : ∀ ms : Array MapEntry, EntriesR κ es ms → ∀ b : Bool, ∃ v, (do Instr.checkKey b 10000 kt kc; (match ← Instr.findKey kt kc ms.toList with | some (_, v) => pure (if ok then .tuple #[v, .bool true] else v) | none => do let z ← zeroValue et; pure (if ok then .tuple #[z, .bool false] else z)) : Sem Value).run P w = .ok v w ∧ VR κ r v := by
    intro ms her b
    have hfs := findKey_sound hk hd es ms.toList 0 res hf (by simpa using her.1) (fun j e m a b => her.2 j e m a (by simpa using b))
    simp only [Sem.run_bind, checkKey_run hT hdu hd hk, Result.andThen_ok, Instr.findKey, hT.run_und hdu]
    cases res with
    | some p =>
      obtain ⟨n, v⟩ := p
      obtain ⟨u, g1, g2, _⟩ := hfs
      simp only at h
      cases h
      refine ⟨if ok then .tuple #[u, .bool true] else u, by simp [g1], ?_⟩
      cases ok with
      | true => exact g2.pair (.bool _)
      | false => exact g2
    | none =>
      simp only at hfs h
      cases hz : zeroOf E.T et with
      | none => simp [hz] at h
      | some z =>
        simp only [hz, Option.bind_some, Option.some.injEq] at h
        subst h
        obtain ⟨v, z1, z2⟩ := zeroOf_sound hT hz κ w
        refine ⟨if ok then .tuple #[v, .bool false] else v, by simp [hfs, z1], ?_⟩
        cases ok with
        | true => exact z2.pair (.bool _)
        | false => exact z2
  rcases mapEntries_sound hw hes hm with ⟨rfl, rfl, rfl⟩ | ⟨id, p, ms, clock, rfl, hp, rfl, hg, hb, he, hn⟩
  · obtain ⟨v, y1, y2⟩ := fin #[] ⟨rfl, fun j e m h => by simp at h⟩ true
    refine ⟨v, ?_, y2⟩
    simp [Instr.lookup, hT.run_und hu]
    simp at y1
    exact y1
  · obtain ⟨v, y1, y2⟩ := fin ms he ms.isEmpty
    refine ⟨v, ?_, y2⟩
    simp [Instr.lookup, hT.run_und hu, run_getObj_map hb]
    simp at y1
    exact y1

end Go.Ab
