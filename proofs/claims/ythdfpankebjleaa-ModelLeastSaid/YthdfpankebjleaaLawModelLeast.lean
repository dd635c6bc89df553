/-
  ModelLeast: whatever the input, the law answers true, and the input reads as it did.
  Conditions: none besides the statement's own.
-/
import Derived.Test.YthdfpankebjleaaRows
import Derived.Test.YthdfpankebjleaaV1
import Derived.Test.YthdfpankebjleaaV2
import Derived.Test.YthdfpankebjleaaV3
import Derived.Test.YthdfpankebjleaaX1m
import Derived.Test.YthdfpankebjleaaX2m
import Derived.Test.YthdfpankebjleaaX3m
import Derived.WalkKit
import Derived.ProofKit
set_option linter.unusedVariables false
set_option linter.unusedSimpArgs false
set_option maxRecDepth 100000
namespace Go.Proofs.Ythdfpankebjleaa.modelLeast
open Go Go.Av Go.ChangeShapes Go.WideShapes Go.ChangeAt Go.RowKit
theorem own : ownKnob Try.prog.godebug = none := by kernel_rfl
theorem laidOut : laidOutB Try.prog = true := by kernel_rfl

/-- The walk, whatever arguments of these types are handed in. -/
theorem typed (xs : List AV) (h : TyAs Try.prog 9 [58] xs) : AT Try.prog 7 xs (fun _ => none) fun r _ => r = .v (.bool true) := by
  obtain ⟨a, rfl, ha⟩ := tyAs1 h
  obtain ⟨cs, rfl, hx⟩ : ∃ cs, a = .agg cs ∧ Ty Try.prog 9 58 cs := by
    unfold TyA at ha
    rw [Try.underlying58] at ha
    exact ha
  obtain ⟨homes, names, rs, l, rfl, hw⟩ := c4_of (n := 0) hx
  exact modelLeast_at homes names rs l hw

set_option maxRecDepth 100000 in
theorem lifted (os : Os) (started : os.Started) (H : Type) (enc : TypeId × Value → H) :
    ReturnsInHanded {} Try.checked os 7 .any (Rows.modelLeastSpec.pre6 enc Try.prog Try.f7 Rows.modelLeastRow.domain false) (Rows.modelLeastSpec.post enc Try.prog Try.f7 false true false false) := by
  refine returnsInHanded_of_change_sized (C := Try.checked) own started (by kernel_rfl) Try.func7
    (ChangeSpec.witness6 (enc := enc) (C := Try.checked) false ⟨#[], #[.agg #[.slice none 0 0, .slice none 0 0, .slice none 0 0, .slice none 0 0]], []⟩ 9 (by kernel_rfl) (by kernel_rfl) (by kernel_rfl) (by kernel_rfl)) ?_
  intro W base args ds gs before hval0 hW hcnd hsz0 _
  have hsz : (DataW.weightsEach Try.prog (Try.f7.params.toList ++ Rows.modelLeastSpec.plain.varTypes Try.prog) (ds ++ gs)).all (· ≤ reachBytes) = true := hsz0
  have hval : ∀ (j : Nat) t v, Try.f7.params[j]? = some t → args[j]? = some v → Value.okWide Try.prog W .any base t v := hval0
  have hW' := hW
  obtain ⟨p, q, hA0, hV, rfl, hfz, hnd⟩ := hW
  have hA : DataW.TrodAll enc Try.prog W 0 (fun _ => true) true Try.f7.params.toList args.toList ds p := hA0
  rw [Try.params7] at hA hval hsz
  have hA1 := hA
  obtain ⟨v0, vs0, d0, ds0, p0, q0, hargs, rfl, rfl, h0, r0⟩ := trodAll_cons hA
  obtain ⟨rfl, rfl, rfl⟩ := trodAll_nil r0
  obtain ⟨rfl, rfl⟩ := trodVars_none hV
  obtain ⟨xs, has, hr⟩ := open_args (P := Try.prog) (n := 9) [58] args.toList _ _ (by kernel_rfl) (fun j t v ht hv => hval j t v (by simpa using ht) (by simpa using hv)) hA1 (fun q hq => by
    have := List.all_eq_true.1 hsz q (by rw [List.append_nil]; exact hq)
    simpa using this)
  refine (AT.law (typed xs has) hr).mono fun e W' ⟨he, bel⟩ => ?_
  subst he
  exact ⟨_, rfl, _, _, _, [], _, [], hW', trodAll_mk1 (shut_bool Try.underlying4 _), shut_args laidOut bel _ _ _ _ (by kernel_rfl) hA1, rfl, bel.frame _, fun h => by cases h⟩
theorem over : Rows.modelLeastRow.holds Try.pinned (OpenSpec.ofChange Rows.modelLeastSpec) :=
  OpenClaim.holds_of_wide 7 Try.f7 rfl rfl rfl rfl rfl rfl rfl ⟨rfl, rfl, rfl, rfl, rfl⟩ rfl rfl rfl rfl rfl (by kernel_rfl) Try.func7 (by kernel_rfl)
    (of_decide_eq_true (by kernel_rfl)) (by unfold Func.isWrapper; first | (rw [if_pos (by decide +kernel)]; kernel_rfl) | (rw [if_neg (by decide +kernel)]; exact ⟨rfl, rfl⟩))
    (fun os started H enc _ => lifted os started H enc)
end Go.Proofs.Ythdfpankebjleaa.modelLeast
namespace Go.Proofs.Ythdfpankebjleaa
/-- ModelLeast, as it is stated. -/
theorem modelLeast_holds : Rows.ModelLeastSaid := modelLeast.over
#print axioms modelLeast_holds
end Go.Proofs.Ythdfpankebjleaa
