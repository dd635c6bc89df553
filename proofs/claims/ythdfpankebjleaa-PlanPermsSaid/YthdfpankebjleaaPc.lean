/-
  The examples of the statements on plans are as they should be.
  Conditions: none.
-/
import Derived.Test.YthdfpankebjleaaPb
set_option linter.unusedVariables false
set_option maxRecDepth 100000
namespace Go.Proofs.Ythdfpankebjleaa
open Go Go.Av
theorem runL : run Try.prog tyT ftT (fun f => Nat.beq f 45) 100000 40 9 [] = some (.v (.bool true)) := by kernel_rfl
theorem live_at {σ : St} : AT Try.prog 9 [] σ fun r σ' => r = .v (.bool true) ∧ σ' = σ :=
  run_ok prOk runL (by kernel_rfl) (fun _ => .v (.bool false)) (fun _ => ⟨rfl, rfl⟩) (by simp only [RS.wfs])
end Go.Proofs.Ythdfpankebjleaa
