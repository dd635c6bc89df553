/-
  A deferred function that does nothing; the tables are good.
  Conditions: none.
-/
import Derived.Test.YthdfpankebjleaaPa
import Derived.RecoverIn
import Derived.BigFrame
set_option linter.unusedVariables false
set_option linter.unusedSimpArgs false
set_option maxRecDepth 100000
namespace Go.Proofs.Ythdfpankebjleaa
open Go Go.Av

theorem idle45 (vs : Array Value) : IdleF Try.prog 45 vs := fun w => by
  refine callsDIn_of_wpSIn Try.func45 rfl trivial fun c₀ cs hu => ?_
  have hsz : 14 ≤ (vs ++ Array.replicate (14 - vs.size) undef).size := by simp; omega
  rw [show Try.f45.ntmps = 14 from rfl]
  revert hsz
  generalize vs ++ Array.replicate (14 - vs.size) undef = tm
  intro hsz
  apply wpSIn_seq
  apply wpSIn_region
  simp [wpOpsSIn, go_sem, recoverD, hu, Exit.thenS]
  apply wpSIn_seq
  apply wpSIn_region
  have h3 : 3 < tm.size := by omega
  have h5 : 5 < tm.size := by omega
  have h6 : 6 < tm.size := by omega
  have h7 : 7 < tm.size := by omega
  simp [wpOpsSIn, go_sem, Exit.thenS, h3, h5, h6, h7, Act.eval, Act.put]
  refine wpSIn_cond (t := false) (by simp [Act.eval, h3, h5, h6, h7]) ?_
  simp only [Bool.false_eq_true, if_false]
  refine wpSIn_of_wpIn rfl (wpIn_skip ?_)
  cases c₀
  simp_all [bodyPostS, results, show Try.f45.results = #[] from rfl]
theorem prOk : PrOk Try.prog tyT ftT (fun f => Nat.beq f 45) where
  mx := by kernel_rfl
  ty := fun t e ht he => Tr.all_get tyOk (by simpa using ht) he
  ft := fun t e ht he => Tr.all_get ftOk (by simpa using ht) he
  idle := fun f hf => by
    rw [beq_iff] at hf
    subst hf
    exact ⟨⟨_, Try.func45, rfl, by decide⟩, idle45⟩
end Go.Proofs.Ythdfpankebjleaa
