/-
  EvalFull: whatever the input, the law answers true, and the input reads as it did.
  Conditions: none besides the statement's own.
-/
import Derived.Test.YtmifmncabejffaaGreatRows
import Derived.Test.YtmifmncabejffaaGreatV1EvalFull
import Derived.Test.YtmifmncabejffaaGreatV2EvalFull
import Derived.Test.YtmifmncabejffaaGreatV3EvalFull
import Derived.Test.YtmifmncabejffaaGreatX1EvalFull
import Derived.Test.YtmifmncabejffaaGreatX2EvalFull
import Derived.Test.YtmifmncabejffaaGreatX3EvalFull
import Derived.Test.YtmifmncabejffaaGreatX4EvalFull
import Derived.WalkKit
import Derived.ProofKit
set_option linter.unusedVariables false
set_option linter.unusedSimpArgs false
set_option maxRecDepth 100000
namespace Go.Proofs.YtmifmncabejffaaGreat.evalFull
open Go Go.Av Go.ChangeShapes Go.WideShapes Go.ChangeAt Go.RowKit
theorem own : ownKnob Tryz.prog.godebug = none := by kernel_rfl
theorem laidOut : laidOutB Tryz.prog = true := by kernel_rfl

/-- The walk, whatever arguments of these types are handed in. -/
theorem typed (xs : List AV) (h : TyAs Tryz.prog 9 [25, 26] xs) : AT Tryz.prog 3 xs (fun _ => none) fun r _ => r = .v (.bool true) := by
  obtain ⟨a, b, rfl, ha, hb⟩ := tyAs2 h
  obtain ⟨me, names, lim, rs, rfl, h1, h2⟩ := c7a_of ha
  obtain ⟨l, rfl, h3, h4⟩ := fal9_of hb
  exact evalFull_at (fun σ => elive_at fun σ => parse1_at) me names lim rs l h1 h2 h3 h4

set_option maxRecDepth 100000 in
theorem lifted (os : Os) (started : os.Started) (H : Type) (enc : TypeId × Value → H) :
    ReturnsInHanded {} Tryz.checked os 3 .any (Rows.evalFullSpec.pre6 enc Tryz.prog Tryz.f3 Rows.evalFullRow.domain false) (Rows.evalFullSpec.post enc Tryz.prog Tryz.f3 false true false false) := by
  refine returnsInHanded_of_change_sized (C := Tryz.checked) own started (by kernel_rfl) Tryz.func3
    (ChangeSpec.witness6 (enc := enc) (C := Tryz.checked) false ⟨#[], #[.agg #[.string ByteArray.empty, .slice none 0 0, .int .i64 0, .slice none 0 0], .slice none 0 0], []⟩ 9 (by kernel_rfl) (by kernel_rfl) (by kernel_rfl) (by kernel_rfl)) ?_
  intro W base args ds gs before hval0 hW hcnd hsz0 _
  have hsz : (DataW.weightsEach Tryz.prog (Tryz.f3.params.toList ++ Rows.evalFullSpec.plain.varTypes Tryz.prog) (ds ++ gs)).all (· ≤ reachBytes) = true := hsz0
  have hval : ∀ (j : Nat) t v, Tryz.f3.params[j]? = some t → args[j]? = some v → Value.okWide Tryz.prog W .any base t v := hval0
  have hW' := hW
  obtain ⟨p, q, hA0, hV, rfl, hfz, hnd⟩ := hW
  have hA : DataW.TrodAll enc Tryz.prog W 0 (fun _ => true) true Tryz.f3.params.toList args.toList ds p := hA0
  rw [Tryz.params3] at hA hval hsz
  have hA1 := hA
  obtain ⟨v0, vs0, d0, ds0, p0, q0, hargs, rfl, rfl, h0, r0⟩ := trodAll_cons hA
  obtain ⟨v1, vs1, d1, ds1, p1, q1, rfl, rfl, rfl, h1, r1⟩ := trodAll_cons r0
  obtain ⟨rfl, rfl, rfl⟩ := trodAll_nil r1
  obtain ⟨rfl, rfl⟩ := trodVars_none hV
  obtain ⟨xs, has, hr⟩ := open_args (P := Tryz.prog) (n := 9) [25, 26] args.toList _ _ (by kernel_rfl) (fun j t v ht hv => hval j t v (by simpa using ht) (by simpa using hv)) hA1 (fun q hq => by
    have := List.all_eq_true.1 hsz q (by rw [List.append_nil]; exact hq)
    simpa using this)
  refine (AT.law (by kernel_rfl) (typed xs has) hr).mono fun e W' ⟨he, bel⟩ => ?_
  subst he
  exact ⟨_, rfl, _, _, _, [], _, [], hW', trodAll_mk1 (shut_bool Tryz.underlying4 _), shut_args laidOut bel _ _ _ _ (by kernel_rfl) hA1, rfl, bel.frame _, fun h => by cases h⟩
theorem over : Rows.evalFullRow.holds Tryz.pinned (OpenSpec.ofChange Rows.evalFullSpec) :=
  OpenClaim.holds_of_wide 3 Tryz.f3 rfl rfl rfl rfl rfl rfl rfl ⟨rfl, rfl, rfl, rfl, rfl⟩ rfl rfl rfl rfl rfl (by kernel_rfl) Tryz.func3 (by kernel_rfl)
    (of_decide_eq_true (by kernel_rfl)) (by unfold Func.isWrapper; first | (rw [if_pos (by decide +kernel)]; kernel_rfl) | (rw [if_neg (by decide +kernel)]; exact ⟨rfl, rfl⟩))
    (fun os started H enc _ => lifted os started H enc)
end Go.Proofs.YtmifmncabejffaaGreat.evalFull
namespace Go.Proofs.YtmifmncabejffaaGreat
/-- EvalFull, as it is stated. -/
theorem evalFull_holds : Rows.EvalFullSaid := evalFull.over
#print axioms evalFull_holds
end Go.Proofs.YtmifmncabejffaaGreat
