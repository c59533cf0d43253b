/-
  THE SEAT's PROGRAM: the machine is sound.
-/
import Derived.Test.YtakinpjaklgacaaGreatDoorAbOkB
namespace Go.Ab
open Go.Proofs
theorem s_fns : ∀ f, f < 515 → ∀ F, Tryz.prog.funcs[f]? = some F → fnB Tryz.prog (planOf f) F = true := fun f h F hF => by
  by_cases h0 : f < 65
  · exact fns_of s_fns0 (by omega) h0 hF
  by_cases h1 : f < 130
  · exact fns_of s_fns1 (Nat.not_lt.1 h0) h1 hF
  by_cases h2 : f < 195
  · exact fns_of s_fns2 (Nat.not_lt.1 h1) h2 hF
  by_cases h3 : f < 260
  · exact fns_of s_fns3 (Nat.not_lt.1 h2) h3 hF
  by_cases h4 : f < 325
  · exact fns_of s_fns4 (Nat.not_lt.1 h3) h4 hF
  by_cases h5 : f < 390
  · exact fns_of s_fns5 (Nat.not_lt.1 h4) h5 hF
  by_cases h6 : f < 455
  · exact fns_of s_fns6 (Nat.not_lt.1 h5) h6 hF
  · exact fns_of s_fns7 (Nat.not_lt.1 h6) h hF

theorem codeOk_congr {E E' : Env} (h1 : E.plan = E'.plan) (h2 : E.T = E'.T) (f : FuncId) : ∀ c, codeOk E f c = codeOk E' f c := by
  intro c
  induction c with
  | region id ops draw => cases draw <;> simp only [codeOk, h1, h2]
  | seq a b iha ihb => simp only [codeOk, iha, ihb]
  | cond x a b iha ihb => simp only [codeOk, iha, ihb]
  | block id b ih => simp only [codeOk, ih]
  | loop b ih => simp only [codeOk, ih]
  | scope b ih => simp only [codeOk, ih]
  | rangeFunc g ps a b iha ihb => simp only [codeOk, iha, ihb]
  | _ => rfl
theorem glob_congr {E E' : Env} (h1 : E.plan = E'.plan) (h2 : E.T = E'.T) (h3 : E.glob = E'.glob) (h4 : E.hid = E'.hid) (h5 : E.hint = E'.hint) {κ : Kn} (h : GlobOk E κ) : GlobOk E' κ :=
  ⟨fun g cs e => h.glob g cs (by rw [h3]; exact e), h.hid.trans h4, h.hint.trans h5, fun f c => by rw [← codeOk_congr h1 h2]; exact h.code f c⟩

theorem clone_fn : ∃ fn, Tryz.prog.funcs[217]? = some fn ∧ (fn.name == "runtime.NumGoroutine") = false ∧ fn.body.isNone = true ∧ Extern.findNext fn = none ∧ Extern.find fn = some Extern.MapsClone.clone :=
  ⟨Tryz.f217, Tryz.func217, by kernel_rfl, by kernel_rfl, by kernel_rfl, by kernel_rfl⟩
theorem clone_is (E : Env) : PrimIs E Tryz.prog 217 primClone := by
  obtain ⟨fn, h1, h2, h3, h4, h5⟩ := clone_fn
  exact primClone_is h1 h2 h3 h4 h5
/-- The seat's machine is sound, whatever its primitives are, if they are. -/
theorem s_ok {prim : FuncId → Option Prim} {H : Hidden} (ho : OrcOk (sEnv prim H)) (hp : ∀ g pr, prim g = some pr → PrimIs (sEnv prim H) Tryz.prog g pr ∧ PrimFrame pr) : RunOk (sEnv prim H) Tryz.prog := by
  rw [sEnv_eq] at hp ho ⊢
  exact run_ok s_tab s_fns s_mixed ho (fun g pr e => (hp g pr e).1) (fun g pr e => (hp g pr e).2)
theorem orc_none {prim : FuncId → Option Prim} : OrcOk (sEnv prim {}) := ⟨fun _ _ _ _ h => (by cases h), fun _ _ h => (by cases h), fun _ _ h => (by cases h), fun _ _ _ h => (by cases h), fun _ _ _ h => (by cases h)⟩
theorem s_ok0 : RunOk sE0 Tryz.prog := s_ok orc_none fun g pr h => by
  unfold prim0 at h
  split at h
  · rename_i e
    cases h
    subst e
    exact ⟨clone_is _, primClone_frame⟩
  · cases h
end Go.Ab
