/-
  THE PROGRAM ANSWERS: awake returns true.
-/
import Derived.Test.YtakinpjaklgacaaGreatDoorAbOk
import Derived.Test.YtakinpjaklgacaaGreatDoorAbMwA
import Derived.Test.YtakinpjaklgacaaGreatDoorAbMwB
import Derived.Test.YtakinpjaklgacaaGreatDoorAbMwC
namespace Go.Ab
open Go.Proofs
def mws8 : List Memo := [mw0]
def mws10 : List Memo := [mw13]
def mws19 : List Memo := [mw12]
def mws27 : List Memo := [mw11, mw14]
def mws65 : List Memo := [mw1, mw2, mw3, mw4, mw5, mw6, mw7, mw8, mw9, mw10]
def mwsOf (g : FuncId) : Option (List Memo) := if g = 8 then some mws8 else if g = 10 then some mws10 else if g = 19 then some mws19 else if g = 27 then some mws27 else if g = 65 then some mws65 else none
def primW (g : FuncId) : Option Prim := if g = 217 then some primClone else (mwsOf g).map memoRun
noncomputable def sEW : Env := sEnv primW {}
theorem mws_ok : ∀ g ms, mwsOf g = some ms → ∀ m ∈ ms, Memo.okF sE0 4000 g m = true := by
  intro g ms h m hm
  unfold mwsOf at h
  split at h
  · rename_i e
    subst e
    cases h
    simp only [mws8, List.mem_cons, List.not_mem_nil, or_false] at hm
    subst hm
    exact mw0_ok
  split at h
  · rename_i e
    subst e
    cases h
    simp only [mws10, List.mem_cons, List.not_mem_nil, or_false] at hm
    subst hm
    exact mw13_ok
  split at h
  · rename_i e
    subst e
    cases h
    simp only [mws19, List.mem_cons, List.not_mem_nil, or_false] at hm
    subst hm
    exact mw12_ok
  split at h
  · rename_i e
    subst e
    cases h
    simp only [mws27, List.mem_cons, List.not_mem_nil, or_false] at hm
    rcases hm with rfl | rfl
    · exact mw11_ok
    · exact mw14_ok
  split at h
  · rename_i e
    subst e
    cases h
    simp only [mws65, List.mem_cons, List.not_mem_nil, or_false] at hm
    rcases hm with rfl | rfl | rfl | rfl | rfl | rfl | rfl | rfl | rfl | rfl
    · exact mw1_ok
    · exact mw2_ok
    · exact mw3_ok
    · exact mw4_ok
    · exact mw5_ok
    · exact mw6_ok
    · exact mw7_ok
    · exact mw8_ok
    · exact mw9_ok
    · exact mw10_ok
  cases h
theorem wf_of {m : Memo} {E : Env} {k : Nat} {g : FuncId} (h : m.okF E k g = true) : m.wf = true := by
  unfold Memo.okF at h
  simp only [Bool.and_eq_true] at h
  exact h.1.1.1
theorem s_okW : RunOk sEW Tryz.prog := s_ok orc_none fun g pr h => by
  unfold primW at h
  split at h
  · rename_i e
    cases h
    subst e
    exact ⟨clone_is _, primClone_frame⟩
  · obtain ⟨ms, h1, rfl⟩ := Option.map_eq_some_iff.1 h
    exact ⟨memoRun_is fun m hm => Memo.run_is s_ok0 (by rw [← Memo.okF_eq]; exact mws_ok g ms h1 m hm) fun κ hG => glob_congr (E := sEW) (E' := sE0) rfl rfl rfl rfl rfl hG, memoRun_frame fun m hm => wf_of (mws_ok g ms h1 m hm)⟩
theorem awake_run : ((callF sEW (execF sEW 4000) 0 (.fn 5) [] Store.empty).map fun r => AVal.beq r.1 (.bool true)) = some true := by kernel_rfl
theorem awake_done : ∃ σ1, acall sEW 4000 0 5 [] Store.empty = some (.bool true, σ1) := by
  have h := awake_run
  rw [execF_eq] at h
  obtain ⟨r, h1, h2⟩ := Option.map_eq_some_iff.1 h
  obtain ⟨v, σ1⟩ := r
  have := AVal.eq_of_beq _ _ h2
  simp only at this
  subst this
  exact ⟨σ1, h1⟩
end Go.Ab
