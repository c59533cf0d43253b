/-
  NodeBegins: THE ROW AND THE TIED CARD: whatever the arguments are, the call returns true and leaves them as they were. Conditions: those of the given row.
-/
import Derived.Test.YtakinpjaklgacaaGreatDoorTie
import Derived.Test.YtakinpjaklgacaaGreatDoorCards
import Derived.Test.YtakinpjaklgacaaGreatDoorAbNbD
import Derived.Test.YtakinpjaklgacaaGreatDoorNbFacts
import Derived.ProofKit
import Derived.OpenShut
import Derived.LaidMore
import Derived.Lay
import Derived.SevenTiedAt
import Derived.Stop.Joined
namespace Go.Proofs.YtakinpjaklgacaaGreatDoor
open Go.ChangeShapes Go.WideShapes Go.ChangeAt Go.RowKit
open Go.Ab (AVal VR kn sTable)

theorem own : ownKnob Tryz.prog.godebug = none := by kernel_rfl
theorem laidOut : laidOutB Tryz.prog = true := by kernel_rfl
theorem cells3 : Tryz.prog.cellsOf 3 = 1 := by kernel_rfl
abbrev laidL : List (String × DataW Unit) := [("unicode/utf8.acceptRanges", Rows.laid_unicode_utf8_acceptRanges), ("changeover/crc.table", Rows.laid_changeover_crc_table), ("unicode/utf8.first", Rows.laid_unicode_utf8_first)]
def tableZ : List Int := [0, 498536548, 997073096, 651767980, 1994146192, 1802195444, 1303535960, 1342533948, 3988292384, 4027552580, 3604390888, 3412177804, 2607071920, 2262029012, 2685067896, 3183342108]
theorem table_data : (Rows.laid_changeover_crc_table : DataW Unit) = .agg (tableZ.map fun n => .lit (.int .u32 n)) := by kernel_rfl
theorem table_vals : sTable = tableZ.map fun n => AVal.int .u32 n := by kernel_rfl
theorem gTable : Tryz.prog.globalNamed "changeover/crc.table" = some 0 := by kernel_rfl

/-- WHAT THE CONDITION GIVES: the table of sums is there. -/
theorem of_laid {W : World} (h : laidMetH Tryz.prog laidL W) : Go.Ab.Laid W := by
  rw [MakeChecks.laidMetH_plain _ _ _ (by kernel_rfl)] at h
  obtain ⟨ps, ⟨g0, t0, cs0, f0, p0, q0, hg0, ht0, hv0, hd0, ⟨g, t, cs, fuel, p, q, hg, ht, hv, hd, _, _⟩, _⟩, _, _⟩ := h
  clear hg0 ht0 hv0 hd0
  obtain rfl := Option.some.inj (gTable.symm.trans hg)
  obtain rfl := Option.some.inj ((show (Tryz.prog.globals[0]?).map (·.type) = some 472 by kernel_rfl).symm.trans ht)
  obtain ⟨xs, m, _, ex, _, hl, hel⟩ := DataW.trod_array Tryz.underlying472 hd
  have c5 : Tryz.prog.cellsOf 278 = 1 := by kernel_rfl
  intro r y hy
  rw [table_vals, List.getElem?_map] at hy
  obtain ⟨n, hn, rfl⟩ := Option.map_eq_some_iff.1 hy
  have hr : r < 16 := by
    have := (List.getElem?_eq_some_iff.1 hn).1
    exact this
  have hE := hel r hr
  rw [c5, Nat.mul_one, List.getElem?_eq_getElem (by omega)] at hE
  obtain ⟨z, e1, e2, _⟩ := DataW.trod_int Tryz.underlying278 hE
  have e3 : (xs.map (·.1)) = tableZ.map fun n => .lit (.int .u32 n) := by
    rw [table_data] at ex
    exact (DataW.agg.inj (Prod.mk.inj ex).1).symm
  have e4 : (xs.map (·.1))[r]? = (tableZ.map fun n => (DataW.lit (.int .u32 n) : DataW Unit))[r]? := by rw [e3]
  rw [List.getElem?_map, List.getElem?_map, List.getElem?_eq_getElem (by omega : r < xs.length), hn, e2] at e4
  have hz : z = n := by
    simpa only [Option.map_some, Option.some.injEq, DataW.lit.injEq, Lit.int.injEq, true_and] using e4
  refine ⟨.int .u32 n, ?_, fun k m h => by cases h; rfl⟩
  rw [World.var?_cell hg hv r, ← hz]
  have : cs.toList[r]? = some (.int .u32 z) := by
    have h0 : ((cs.toList.drop r).take 1)[0]? = some (.int .u32 z) := by rw [e1]; rfl
    simpa using h0
  simpa using this

theorem getD_lit {zs : List Int} {i : Nat} (h : i < zs.length) : zs.getD i 0 = zs[i] := by
  rw [List.getD_eq_getElem?_getD, List.getElem?_eq_getElem h]; rfl
/-- A slice of numbers that was read as data is one of the machine's. -/
theorem ints_vr {W : World} {a : Addr} {len cap : Nat} {zs : List Int} (hl : len ≤ cap) (hz : zs.length = cap) (hcell : ∀ i, i < zs.length → W.cell? (a.add i) = some (.int .i64 (zs.getD i 0))) (E : Go.Ab.Env) :
    VR (kn E W) (.slice ((zs.take len).map (AVal.int .i64)) false) (.slice (some a) len cap) := by
  by_cases h0 : len = 0
  · subst h0
    exact .nilslice false a cap (fun h => by cases h)
  · have hlen : ((zs.take len).map (AVal.int .i64)).length = len := by simp; omega
    have hne : (zs.take len).map (AVal.int .i64) ≠ [] := fun e => by rw [e] at hlen; simp at hlen; omega
    obtain ⟨b, off, spot⟩ := a
    have hspot : spot = none := by simpa [Addr.add] using World.cell?_spot (hcell 0 (by omega))
    subst hspot
    have key := VR.slice (κ := kn E W) ((zs.take len).map (AVal.int .i64)) false b off 1 cap (fun i _ => .int .i64 (zs.getD i 0)) hne (by omega) (fun h => by cases h)
      (fun i x hx => by
        rw [List.getElem?_map] at hx
        obtain ⟨n, _, rfl⟩ := Option.map_eq_some_iff.1 hx
        rfl)
      (fun i j hi hj => by
        obtain rfl : j = 0 := by omega
        have h1 := hcell i (by omega)
        have e : (⟨b, off, none⟩ : Addr).add i = ⟨b, off + i * 1 + 0, none⟩ := by cases i <;> simp [Addr.add]
        rw [e] at h1
        exact h1)
      (fun i x j y hx hy => by
        rw [List.getElem?_map] at hx
        obtain ⟨n, hn, rfl⟩ := Option.map_eq_some_iff.1 hx
        have hi : i < zs.length := by
          have := (List.getElem?_eq_some_iff.1 hn).1
          simp at this; omega
        have hn' : n = zs.getD i 0 := by
          rw [getD_lit hi]
          obtain ⟨h1, h2⟩ := List.getElem?_eq_some_iff.1 hn
          rw [← h2, List.getElem_take]
        match j, hy with
        | 0, hy =>
          cases hy
          rw [hn']
          exact .int .i64 _
        | j + 1, hy => simp [AVal.cells] at hy)
    rwa [hlen] at key

set_option maxRecDepth 100000 in
theorem nb_lifted (os : Os) (started : os.Started) (H : Type) (enc : TypeId × Value → H) :
    ReturnsInHanded {} Tryz.checked os 3 .any (fun w args => (Rows.nodeBeginsSpec.pre enc Tryz.prog Tryz.f3 Rows.nodeBeginsRow.domain false w args ∧ laidMetH Tryz.prog laidL w) ∧ sizedMet enc Tryz.prog Tryz.f3 (OpenSpec.ofChange Rows.nodeBeginsSpec) false w args)
      (Rows.nodeBeginsSpec.post enc Tryz.prog Tryz.f3 false true false false) := by
  refine returnsInHanded_of_change_and (C := Tryz.checked) (X := fun w _ => laidMetH Tryz.prog laidL w) (fun _ _ _ hh h => h.of_heap hh) own started (by kernel_rfl) Tryz.func3
    (ChangeSpec.witness_shaped (enc := enc) (C := Tryz.checked) (os := os) (X := fun w _ => laidMetH Tryz.prog laidL w) false (World.laidAll Tryz.prog os laidL) #[.int .i64 0, .int .i64 0, .slice none 0 0] 8 (World.laidAll_os _ _ _)
      (World.shaped_of_ZipB (by kernel_rfl) (by kernel_rfl)) (by kernel_rfl) (by kernel_rfl) (by kernel_rfl)
      (by rw [MakeChecks.laidMetH_plain _ _ _ (by kernel_rfl)]; exact laidMet_laidAll _ (by kernel_rfl) (by kernel_rfl))) ?_
  intro W base args ds gs before hval0 hW hc _ hL _
  have hval : ∀ (j : Nat) t v, Tryz.f3.params[j]? = some t → args[j]? = some v → Value.okWide Tryz.prog W .any base t v := hval0
  have hW' := hW
  obtain ⟨p, q, hA0, hV, rfl, _, _⟩ := hW
  have hA : DataW.TrodAll enc Tryz.prog W 0 (fun _ => true) true Tryz.f3.params.toList args.toList ds p := hA0
  rw [Tryz.params3] at hA hval
  obtain ⟨v0, v1, v2, d0, d1, d2, p0, p1, p2, rfl, rfl, rfl, h0, h1, h2⟩ := trodAll_three hA
  obtain ⟨rfl, rfl⟩ := trodVars_none hV
  obtain ⟨x, rfl, rfl, rfl, wx⟩ := open_int Tryz.underlying3 (hval 0 3 v0 rfl rfl) h0
  obtain ⟨y, rfl, rfl, rfl, wy⟩ := open_int Tryz.underlying3 (hval 1 3 v1 rfl rfl) h1
  have h2k := h2
  obtain ⟨fuel, hf⟩ := h2
  clear hA0 hval0
  simp only [List.append_nil, List.nil_append] at hW'
  have hlt : ∀ x ∈ p2, x.block < W.heap.size := fun x hx => by simpa using hW'.lt x hx
  have hlaid := of_laid hL
  obtain ⟨a0, len, cap, rfl⟩ := okWide_slice Tryz.underlying22 (hval 2 22 v2 rfl rfl)
  have hcalls : Calls Tryz.prog 3 #[.int .i64 x, .int .i64 y, .slice a0 len cap] W (Go.Ab.Says W) := by
    rcases open_ints Tryz.underlying22 Tryz.underlying3 cells3 hf with ⟨hcs, _⟩ | ⟨a, len', cap', zs, hcs, _, hl, _, hz, _, hcell, _⟩
    · simp [Value.cells] at hcs
      obtain ⟨rfl, rfl, rfl⟩ := hcs
      exact Go.Ab.nb_nil hlaid x y
    · simp [Value.cells] at hcs
      obtain ⟨rfl, rfl, rfl⟩ := hcs
      simp only [if_true] at hz
      exact Go.Ab.nb_some hlaid x y (zs.take len) (ints_vr hl hz hcell)
  refine hcalls.mono fun e W' he => ?_
  cases e with
  | panicked c => exact he.elim
  | outgrown => exact he.elim
  | returned v =>
    obtain ⟨rfl, hb⟩ := he
    have hargs : DataW.Trod enc Tryz.prog W' 0 (fun b => decide (b < W.heap.size)) true 22 (.slice a0 len cap) d2 p2 :=
      Below.trod laidOut (by kernel_rfl) (of_decide_eq_true (by kernel_rfl)) h2k hb hlt
    exact ⟨_, rfl, ⟨_, _, _, [], _, [], hW', trodAll_mk1 (shut_bool Tryz.underlying4 _), trodAll_mk3 (shut_int Tryz.underlying3 wx) (shut_int Tryz.underlying3 wy) hargs, rfl, hb.frame _, fun h => by cases h⟩⟩

theorem nb_row : Rows.NodeBeginsSaid :=
  OpenClaim.holds_of_wide 3 Tryz.f3 rfl rfl rfl rfl rfl rfl rfl ⟨rfl, rfl, rfl, rfl, rfl⟩ rfl rfl rfl rfl rfl (by kernel_rfl) Tryz.func3 nb_facts
    (of_decide_eq_true (by kernel_rfl)) (by unfold Func.isWrapper; first | (rw [if_pos (by decide +kernel)]; kernel_rfl) | (rw [if_neg (by decide +kernel)]; exact ⟨rfl, rfl⟩))
    (fun os started H enc _ => nb_lifted os started H enc)
theorem row_goes : false = Rows.nodeBeginsRow.goesBy Tryz.pinned.checked.prog := by
  show false = Tryz.prog.goesAt .entering "changeover/changeoverlaw40.NodeBegins"
  unfold Program.goesAt Program.goesFrom
  have h : ∀ o : Option FuncId, o.any Tryz.prog.goes = false := fun o => by
    cases o with
    | none => rfl
    | some f => rw [Option.any_some]; exact goes_none f
  simp only [Bool.or_false]
  exact (h _).symm
theorem nb_card : Rows.NodeBeginsCardSaid :=
  Claim7.holds_tied_plain_at .later [] [.data, .data, .pinned] true (true, "25ecd2931196f7be3ac9830c06876b23806b68ff4f4fdf48abe0ed3d0d01ff32") true nb_row (fun _ h => by cases h) (by kernel_rfl) (fun _ h => by cases h) nodeBegins_row_tie rfl ⟨rfl, rfl⟩ (by kernel_rfl) rfl
    (fun f fn hf hfn => by
      obtain rfl : f = 3 := Option.some.inj ((show Tryz.prog.funcNamed "changeover/changeoverlaw40.NodeBegins" = some 3 by kernel_rfl).symm.trans hf) |>.symm
      obtain rfl : fn = Tryz.f3 := (Option.some.inj (Tryz.func3.symm.trans hfn)).symm
      exact ⟨by kernel_rfl, fun j t ht => by
        rw [Tryz.params3] at ht
        have hm : t ∈ [3, 3, 22] := by simpa using Array.mem_of_getElem? ht
        have hall : ([3, 3, 22].all fun u => !Tryz.prog.wantsStandIn u) = true := by kernel_rfl
        exact (show Tryz.prog.wantsStandIn t = false by simpa using List.all_eq_true.1 hall t hm)⟩)
    row_goes
#print axioms nb_card
end Go.Proofs.YtakinpjaklgacaaGreatDoor
