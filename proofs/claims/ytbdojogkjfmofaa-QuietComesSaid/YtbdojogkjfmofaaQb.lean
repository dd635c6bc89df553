/-
  What one node's part that no call made computes; the small run that each law ends with; the law QuietNone's walk.
  Conditions: none.
-/
import Derived.Test.YtbdojogkjfmofaaQa
import Derived.Test.YtbdojogkjfmofaaAvMore
set_option linter.unusedVariables false
set_option linter.unusedSimpArgs false
namespace Go.Proofs.Ytbdojogkjfmofaa
open Go Go.Av

section
variable {σ : St} {b : Nat}
set_option maxRecDepth 100000

/-- One that no call made. -/
def Nul (σ : St) (p : AV) : Prop := p = .v (.pointer none) ∨ ∃ b, p = ptr b ∧ σ b = some (qO ⟨false, nost, 0, false, false⟩)

theorem none_nul {p : AV} (h : Nul σ p) : AT Try.prog 30 [p] σ fun r σ' => r = boo true ∧ σ' = σ := by
  rcases h with rfl | ⟨b, rfl, h⟩
  · refine AT.of_body Try.func30 rfl (by decide) (by kernel_rfl) (by kernel_rfl) (Nat.le_of_ble_eq_true rfl) ?_
    simp only [go_sem, r_block, reduceIte, Nat.reduceEqDiff, Nat.reduceAdd, Nat.reduceLT, Nat.reduceLeDiff]
    exact aRet_as (r := boo true) rfl ⟨rfl, rfl⟩
  · exact none_at h

theorem begin_nul {p : AV} (h : Nul σ p) : AT Try.prog 9 [p] σ fun r σ' => r = int 1 ∧ σ' = σ := by
  refine AT.of_body Try.func9 rfl (by decide) (by kernel_rfl) (by kernel_rfl) (Nat.le_of_ble_eq_true rfl) ?_
  simp only [go_sem, r_block, reduceIte, Nat.reduceEqDiff, Nat.reduceAdd, Nat.reduceLT, Nat.reduceLeDiff]
  refine (none_nul h).mono ?_
  rintro r σ' ⟨rfl, rfl⟩
  simp only [go_sem, r_block, reduceIte, Nat.reduceEqDiff, Nat.reduceAdd, Nat.reduceLT, Nat.reduceLeDiff]
  exact aRet_as (r := int 1) rfl ⟨rfl, rfl⟩
theorem sent_nul {p : AV} (h : Nul σ p) : AT Try.prog 19 [p] σ fun r σ' => r = int 1 ∧ σ' = σ := by
  refine AT.of_body Try.func19 rfl (by decide) (by kernel_rfl) (by kernel_rfl) (Nat.le_of_ble_eq_true rfl) ?_
  simp only [go_sem, r_block, reduceIte, Nat.reduceEqDiff, Nat.reduceAdd, Nat.reduceLT, Nat.reduceLeDiff]
  refine (none_nul h).mono ?_
  rintro r σ' ⟨rfl, rfl⟩
  simp only [go_sem, r_block, reduceIte, Nat.reduceEqDiff, Nat.reduceAdd, Nat.reduceLT, Nat.reduceLeDiff]
  exact aRet_as (r := int 1) rfl ⟨rfl, rfl⟩
theorem signal_nul {p : AV} (h : Nul σ p) : AT Try.prog 21 [p] σ fun r σ' => r = int 1 ∧ σ' = σ := by
  refine AT.of_body Try.func21 rfl (by decide) (by kernel_rfl) (by kernel_rfl) (Nat.le_of_ble_eq_true rfl) ?_
  simp only [go_sem, r_block, reduceIte, Nat.reduceEqDiff, Nat.reduceAdd, Nat.reduceLT, Nat.reduceLeDiff]
  refine (none_nul h).mono ?_
  rintro r σ' ⟨rfl, rfl⟩
  simp only [go_sem, r_block, reduceIte, Nat.reduceEqDiff, Nat.reduceAdd, Nat.reduceLT, Nat.reduceLeDiff]
  exact aRet_as (r := int 1) rfl ⟨rfl, rfl⟩
theorem got_nul {p : AV} {f : ByteArray} (h : Nul σ p) : AT Try.prog 17 [p, str f] σ fun r σ' => r = boo false ∧ σ' = σ := by
  refine AT.of_body Try.func17 rfl (by decide) (by kernel_rfl) (by kernel_rfl) (Nat.le_of_ble_eq_true rfl) ?_
  simp only [go_sem, r_block, reduceIte, Nat.reduceEqDiff, Nat.reduceAdd, Nat.reduceLT, Nat.reduceLeDiff]
  refine (none_nul h).mono ?_
  rintro r σ' ⟨rfl, rfl⟩
  simp only [go_sem, r_block, reduceIte, Nat.reduceEqDiff, Nat.reduceAdd, Nat.reduceLT, Nat.reduceLeDiff]
  exact aRet_as (r := boo false) rfl ⟨rfl, rfl⟩
theorem rest_nul {p : AV} (h : Nul σ p) : AT Try.prog 23 [p] σ fun r σ' => r = .tup [str nost, boo false, boo false] ∧ σ' = σ := by
  refine AT.of_body Try.func23 rfl (by decide) (by kernel_rfl) (by kernel_rfl) (Nat.le_of_ble_eq_true rfl) ?_
  simp only [go_sem, r_block, reduceIte, Nat.reduceEqDiff, Nat.reduceAdd, Nat.reduceLT, Nat.reduceLeDiff]
  refine (none_nul h).mono ?_
  rintro r σ' ⟨rfl, rfl⟩
  simp only [go_sem, r_block, reduceIte, Nat.reduceEqDiff, Nat.reduceAdd, Nat.reduceLT, Nat.reduceLeDiff]
  exact aRet_as (r := .tup [str nost, boo false, boo false]) rfl ⟨rfl, rfl⟩
theorem free_nul {p : AV} (h : Nul σ p) : AT Try.prog 26 [p] σ fun r σ' => r = boo true ∧ σ' = σ := by
  refine AT.of_body Try.func26 rfl (by decide) (by kernel_rfl) (by kernel_rfl) (Nat.le_of_ble_eq_true rfl) ?_
  simp only [go_sem, r_block, reduceIte, Nat.reduceEqDiff, Nat.reduceAdd, Nat.reduceLT, Nat.reduceLeDiff]
  refine (none_nul h).mono ?_
  rintro r σ' ⟨rfl, rfl⟩
  simp only [go_sem, r_block, reduceIte, Nat.reduceEqDiff, Nat.reduceAdd, Nat.reduceLT, Nat.reduceLeDiff]
  exact aRet_as (r := boo true) rfl ⟨rfl, rfl⟩
theorem debt_nul {p : AV} (h : Nul σ p) : AT Try.prog 27 [p] σ fun r σ' => r = int 0 ∧ σ' = σ := by
  refine AT.of_body Try.func27 rfl (by decide) (by kernel_rfl) (by kernel_rfl) (Nat.le_of_ble_eq_true rfl) ?_
  simp only [go_sem, r_block, reduceIte, Nat.reduceEqDiff, Nat.reduceAdd, Nat.reduceLT, Nat.reduceLeDiff]
  refine (none_nul h).mono ?_
  rintro r σ' ⟨rfl, rfl⟩
  simp only [go_sem, r_block, reduceIte, Nat.reduceEqDiff, Nat.reduceAdd, Nat.reduceLT, Nat.reduceLeDiff]
  exact aRet_as (r := int 0) rfl ⟨rfl, rfl⟩
theorem by_nul {p : AV} (h : Nul σ p) : AT Try.prog 28 [p] σ fun r σ' => r = str nost ∧ σ' = σ := by
  refine AT.of_body Try.func28 rfl (by decide) (by kernel_rfl) (by kernel_rfl) (Nat.le_of_ble_eq_true rfl) ?_
  simp only [go_sem, r_block, reduceIte, Nat.reduceEqDiff, Nat.reduceAdd, Nat.reduceLT, Nat.reduceLeDiff]
  refine (none_nul h).mono ?_
  rintro r σ' ⟨rfl, rfl⟩
  simp only [go_sem, r_block, reduceIte, Nat.reduceEqDiff, Nat.reduceAdd, Nat.reduceLT, Nat.reduceLeDiff]
  exact aRet_as (r := str nost) rfl ⟨rfl, rfl⟩
theorem reset_nul {p : AV} (h : Nul σ p) : AT Try.prog 25 [p] σ fun r σ' => σ' = σ := by
  refine AT.of_body Try.func25 rfl (by decide) (by kernel_rfl) (by kernel_rfl) (Nat.le_of_ble_eq_true rfl) ?_
  simp only [go_sem, r_block, reduceIte, Nat.reduceEqDiff, Nat.reduceAdd, Nat.reduceLT, Nat.reduceLeDiff]
  refine (none_nul h).mono ?_
  rintro r σ' ⟨rfl, rfl⟩
  simp only [go_sem, r_block, reduceIte, Nat.reduceEqDiff, Nat.reduceAdd, Nat.reduceLT, Nat.reduceLeDiff]
  exact aRet_as (r := .tup []) rfl rfl

/-- The small run. -/
theorem live_at : AT Try.prog 12 [] σ fun r σ' => r = boo true ∧ σ' = σ := by
  refine AT.of_body Try.func12 rfl (by decide) (by kernel_rfl) (by kernel_rfl) (Nat.le_of_ble_eq_true rfl) ?_
  simp only [go_sem, r_block, reduceIte, Nat.reduceEqDiff, Nat.reduceAdd, Nat.reduceLT, Nat.reduceLeDiff]
  refine new_at.mono ?_
  rintro _ σ1 ⟨x, hx, rfl, rfl⟩
  simp only [go_sem, r_block, reduceIte, Nat.reduceEqDiff, Nat.reduceAdd, Nat.reduceLT, Nat.reduceLeDiff]
  refine new_at.mono ?_
  rintro _ σ2 ⟨y, hy, rfl, hs⟩
  have hxy : x ≠ y := fun e => by subst e; rw [set_same] at hy; cases hy
  have h2 : ∀ z o, σ z = some o → σ2 z = some o := by
    subst hs
    exact set_sub (by rwa [set_ne hxy.symm] at hy) (set_sub hx fun _ _ h => h)
  have hx2 : σ2 x = some (qO ⟨false, nost, 0, true, true⟩) := by subst hs; rw [set_ne hxy, set_same]
  have hy2 : σ2 y = some (qO ⟨false, nost, 0, false, true⟩) := by subst hs; rw [set_same]
  have hx0 := hx
  have hy0 : σ y = none := by rwa [set_ne hxy.symm] at hy
  clear hs hy
  simp only [go_sem, r_block, reduceIte, Nat.reduceEqDiff, Nat.reduceAdd, Nat.reduceLT, Nat.reduceLeDiff]
  refine (begin_at hx2).mono ?_
  rintro _ σ3 ⟨rfl, hs⟩
  have h3 : ∀ z o, σ z = some o → σ3 z = some o := by subst hs; exact set_sub hx0 h2
  have hx3 : σ3 x = some (qO ⟨true, nost, 0, true, true⟩) := by subst hs; rw [set_same]; rfl
  have hy3 : σ3 y = some (qO ⟨false, nost, 0, false, true⟩) := by subst hs; rw [set_ne hxy.symm, hy2]
  clear hs
  have e : (⟨false, nost, 0, true, true⟩ : Qs).begin.1 = 0 := rfl
  rw [e]
  simp only [go_sem, r_block, reduceIte, Nat.reduceEqDiff, Nat.reduceAdd, Nat.reduceLT, Nat.reduceLeDiff]
  refine (sent_at hx3).mono ?_
  rintro _ σ4 ⟨rfl, hs⟩
  have h4 : ∀ z o, σ z = some o → σ4 z = some o := by subst hs; exact set_sub hx0 h3
  have hx4 : σ4 x = some (qO ⟨true, nost, 1, true, true⟩) := by subst hs; rw [set_same]; rfl
  have hy4 : σ4 y = some (qO ⟨false, nost, 0, false, true⟩) := by subst hs; rw [set_ne hxy.symm, hy3]
  clear hs
  have e : (⟨true, nost, 0, true, true⟩ : Qs).sent.1 = 0 := rfl
  rw [e]
  simp only [go_sem, r_block, reduceIte, Nat.reduceEqDiff, Nat.reduceAdd, Nat.reduceLT, Nat.reduceLeDiff]
  refine (got_at hy4).mono ?_
  rintro _ σ5 ⟨rfl, hs⟩
  have h5 : ∀ z o, σ z = some o → σ5 z = some o := by subst hs; exact set_sub hy0 h4
  have hx5 : σ5 x = some (qO ⟨true, nost, 1, true, true⟩) := by subst hs; rw [set_ne hxy, hx4]
  have hy5 : σ5 y = some (qO ⟨true, ⟨#[114, 111, 111, 116]⟩, 0, false, true⟩) := by subst hs; rw [set_same]; rfl
  clear hs
  have e : ((⟨false, nost, 0, false, true⟩ : Qs).got ⟨#[114, 111, 111, 116]⟩).1 = false := rfl
  rw [e]
  simp only [go_sem, r_block, reduceIte, Nat.reduceEqDiff, Nat.reduceAdd, Nat.reduceLT, Nat.reduceLeDiff]
  refine (rest_at hy5).mono ?_
  rintro _ σ6 ⟨rfl, hs⟩
  have h6 : ∀ z o, σ z = some o → σ6 z = some o := by subst hs; exact set_sub hy0 h5
  have hx6 : σ6 x = some (qO ⟨true, nost, 1, true, true⟩) := by subst hs; rw [set_ne hxy, hx5]
  have hy6 : σ6 y = some (qO ⟨false, nost, 0, false, true⟩) := by subst hs; rw [set_same]; rfl
  clear hs
  have e : (⟨true, ⟨#[114, 111, 111, 116]⟩, 0, false, true⟩ : Qs).rest.1 = (⟨#[114, 111, 111, 116]⟩, true, false) := rfl
  rw [e]
  simp only [go_sem, r_block, reduceIte, Nat.reduceEqDiff, Nat.reduceAdd, Nat.reduceLT, Nat.reduceLeDiff]
  refine (signal_at hx6).mono ?_
  rintro _ σ7 ⟨rfl, hs⟩
  have h7 : ∀ z o, σ z = some o → σ7 z = some o := by subst hs; exact set_sub hx0 h6
  have hx7 : σ7 x = some (qO ⟨true, nost, 0, true, true⟩) := by subst hs; rw [set_same]; rfl
  have hy7 : σ7 y = some (qO ⟨false, nost, 0, false, true⟩) := by subst hs; rw [set_ne hxy.symm, hy6]
  clear hs
  have e : (⟨true, nost, 1, true, true⟩ : Qs).signal.1 = 0 := rfl
  rw [e]
  simp only [go_sem, r_block, reduceIte, Nat.reduceEqDiff, Nat.reduceAdd, Nat.reduceLT, Nat.reduceLeDiff]
  refine (rest_at hx7).mono ?_
  rintro _ σ8 ⟨rfl, hs⟩
  have h8 : ∀ z o, σ z = some o → σ8 z = some o := by subst hs; exact set_sub hx0 h7
  have hx8 : σ8 x = some (qO ⟨false, nost, 0, true, true⟩) := by subst hs; rw [set_same]; rfl
  have hy8 : σ8 y = some (qO ⟨false, nost, 0, false, true⟩) := by subst hs; rw [set_ne hxy.symm, hy7]
  clear hs
  have e : (⟨true, nost, 0, true, true⟩ : Qs).rest.1 = (nost, false, true) := rfl
  rw [e]
  simp only [go_sem, r_block, reduceIte, Nat.reduceEqDiff, Nat.reduceAdd, Nat.reduceLT, Nat.reduceLeDiff]
  refine (free_at hx8).mono ?_
  rintro _ σ9 ⟨rfl, hs⟩
  rw [show (⟨false, nost, 0, true, true⟩ : Qs).free = true from rfl]
  subst hs
  simp only [go_sem, r_block, reduceIte, Nat.reduceEqDiff, Nat.reduceAdd, Nat.reduceLT, Nat.reduceLeDiff]
  refine (free_at hy8).mono ?_
  rintro _ σ9 ⟨rfl, hs⟩
  rw [show (⟨false, nost, 0, false, true⟩ : Qs).free = true from rfl]
  subst hs
  simp only [go_sem, r_block, reduceIte, Nat.reduceEqDiff, Nat.reduceAdd, Nat.reduceLT, Nat.reduceLeDiff]
  exact aRet_view (r := boo true) rfl _ σ (view_drop h8) ⟨rfl, rfl⟩

/-- The law QuietNone, walked. -/
theorem quietNone_at {kind : Int} {f : ByteArray} : AT Try.prog 7 [.agg [int kind, str f]] σ fun r _ => r = boo true := by
  refine AT.of_body Try.func7 rfl (by decide) (by kernel_rfl) (by kernel_rfl) (Nat.le_of_ble_eq_true rfl) ?_
  simp only [go_sem, r_block, reduceIte, Nat.reduceEqDiff, Nat.reduceAdd, Nat.reduceMul, Nat.reduceSub, Nat.reduceLT, Nat.reduceLeDiff, Nat.le_refl, splice_zero, Int.toNat_natCast, Int.reduceLE, Int.reduceLT, Int.reduceToNat]
  refine aNew_intro fun a ha _ => ?_
  simp only [go_sem, r_block, reduceIte, Nat.reduceEqDiff, Nat.reduceAdd, Nat.reduceMul, Nat.reduceSub, Nat.reduceLT, Nat.reduceLeDiff, Nat.le_refl, splice_zero, Int.toNat_natCast, Int.reduceLE, Int.reduceLT, Int.reduceToNat]
  refine aNew_intro fun z hz hne => ?_
  simp only [go_sem, r_block, reduceIte, Nat.reduceEqDiff, Nat.reduceAdd, Nat.reduceMul, Nat.reduceSub, Nat.reduceLT, Nat.reduceLeDiff, Nat.le_refl, splice_zero, Int.toNat_natCast, Int.reduceLE, Int.reduceLT, Int.reduceToNat]
  have haz : a ≠ z := hne a _ set_same
  refine ⟨fun m fr σ' => ∃ i : Nat, m = 2 - i ∧ i ≤ 2 ∧ fr 10 = int i ∧ fr 9 = .agg [.v (.pointer none), ptr z] ∧ fr 1 = ptr a ∧ σ' a = some (.cells [int kind, str f]) ∧ σ' z = some (qO ⟨false, nost, 0, false, false⟩), ⟨2, 0, rfl, by omega, rfl, rfl, rfl, by rw [set_ne haz, set_same], by rw [set_same]; rfl⟩, ?_⟩
  rintro m fr σ' ⟨i, rfl, hi, h10, h9, h1, hsa, hsz⟩
  simp only [go_sem, r_block, h10, h9, reduceIte, Nat.reduceEqDiff, Nat.reduceAdd, Nat.reduceMul, Nat.reduceSub, Nat.reduceLT, Nat.reduceLeDiff, Nat.le_refl, splice_zero, Int.toNat_natCast, Int.reduceLE, Int.reduceLT, Int.reduceToNat]
  refine aIf_by (fun hlt => ?_) (fun hge => ?_)
  · obtain ⟨p, hp, hnul⟩ : ∃ p, ([.v (.pointer none), ptr z] : List AV).getD i (.v undef) = p ∧ Nul σ' p := by
      rcases (by omega : i = 0 ∨ i = 1) with rfl | rfl
      · exact ⟨_, rfl, .inl rfl⟩
      · exact ⟨_, rfl, .inr ⟨z, rfl, hsz⟩⟩
    simp only [go_sem, r_block, h10, h9, h1, reduceIte, Nat.reduceEqDiff, Nat.reduceAdd, Nat.reduceMul, Nat.reduceSub, Nat.reduceLT, Nat.reduceLeDiff, Nat.le_refl, splice_zero, Int.toNat_natCast, Int.reduceLE, Int.reduceLT, Int.reduceToNat, ne_eq, not_true_eq_false, not_false_eq_true, Int.reduceEq]
    refine ⟨by omega, by omega, by omega, ?_⟩
    rw [Nat.mul_one, hp]
    refine (rest_nul hnul).mono ?_
    rintro _ _ ⟨rfl, rfl⟩
    simp only [go_sem, r_block, h10, h9, h1, reduceIte, Nat.reduceEqDiff, Nat.reduceAdd, Nat.reduceMul, Nat.reduceSub, Nat.reduceLT, Nat.reduceLeDiff, Nat.le_refl, splice_zero, Int.toNat_natCast, Int.reduceLE, Int.reduceLT, Int.reduceToNat, ne_eq, not_true_eq_false, not_false_eq_true, Int.reduceEq]
    refine (reset_nul hnul).mono ?_
    rintro _ _ rfl
    simp only [go_sem, r_block, h10, h9, h1, reduceIte, Nat.reduceEqDiff, Nat.reduceAdd, Nat.reduceMul, Nat.reduceSub, Nat.reduceLT, Nat.reduceLeDiff, Nat.le_refl, splice_zero, Int.toNat_natCast, Int.reduceLE, Int.reduceLT, Int.reduceToNat, ne_eq, not_true_eq_false, not_false_eq_true, Int.reduceEq]
    refine (begin_nul hnul).mono ?_
    rintro _ _ ⟨rfl, rfl⟩
    simp only [go_sem, r_block, h10, h9, h1, reduceIte, Nat.reduceEqDiff, Nat.reduceAdd, Nat.reduceMul, Nat.reduceSub, Nat.reduceLT, Nat.reduceLeDiff, Nat.le_refl, splice_zero, Int.toNat_natCast, Int.reduceLE, Int.reduceLT, Int.reduceToNat, ne_eq, not_true_eq_false, not_false_eq_true, Int.reduceEq]
    refine (sent_nul hnul).mono ?_
    rintro _ _ ⟨rfl, rfl⟩
    simp only [go_sem, r_block, h10, h9, h1, reduceIte, Nat.reduceEqDiff, Nat.reduceAdd, Nat.reduceMul, Nat.reduceSub, Nat.reduceLT, Nat.reduceLeDiff, Nat.le_refl, splice_zero, Int.toNat_natCast, Int.reduceLE, Int.reduceLT, Int.reduceToNat, ne_eq, not_true_eq_false, not_false_eq_true, Int.reduceEq]
    refine (signal_nul hnul).mono ?_
    rintro _ _ ⟨rfl, rfl⟩
    simp only [go_sem, r_block, h10, h9, h1, hsa, reduceIte, Nat.reduceEqDiff, Nat.reduceAdd, Nat.reduceMul, Nat.reduceSub, Nat.reduceLT, Nat.reduceLeDiff, Nat.le_refl, splice_zero, Int.toNat_natCast, Int.reduceLE, Int.reduceLT, Int.reduceToNat, ne_eq, not_true_eq_false, not_false_eq_true, Int.reduceEq]
    refine (got_nul hnul).mono ?_
    rintro _ _ ⟨rfl, rfl⟩
    simp only [go_sem, r_block, h10, h9, h1, reduceIte, Nat.reduceEqDiff, Nat.reduceAdd, Nat.reduceMul, Nat.reduceSub, Nat.reduceLT, Nat.reduceLeDiff, Nat.le_refl, splice_zero, Int.toNat_natCast, Int.reduceLE, Int.reduceLT, Int.reduceToNat, ne_eq, not_true_eq_false, not_false_eq_true, Int.reduceEq]
    refine (free_nul hnul).mono ?_
    rintro _ _ ⟨rfl, rfl⟩
    simp only [go_sem, r_block, h10, h9, h1, reduceIte, Nat.reduceEqDiff, Nat.reduceAdd, Nat.reduceMul, Nat.reduceSub, Nat.reduceLT, Nat.reduceLeDiff, Nat.le_refl, splice_zero, Int.toNat_natCast, Int.reduceLE, Int.reduceLT, Int.reduceToNat, ne_eq, not_true_eq_false, not_false_eq_true, Int.reduceEq]
    refine (debt_nul hnul).mono ?_
    rintro _ _ ⟨rfl, rfl⟩
    simp only [go_sem, r_block, h10, h9, h1, reduceIte, Nat.reduceEqDiff, Nat.reduceAdd, Nat.reduceMul, Nat.reduceSub, Nat.reduceLT, Nat.reduceLeDiff, Nat.le_refl, splice_zero, Int.toNat_natCast, Int.reduceLE, Int.reduceLT, Int.reduceToNat, ne_eq, not_true_eq_false, not_false_eq_true, Int.reduceEq]
    refine (by_nul hnul).mono ?_
    rintro _ _ ⟨rfl, rfl⟩
    simp only [go_sem, r_block, h10, h9, h1, reduceIte, Nat.reduceEqDiff, Nat.reduceAdd, Nat.reduceMul, Nat.reduceSub, Nat.reduceLT, Nat.reduceLeDiff, Nat.le_refl, splice_zero, Int.toNat_natCast, Int.reduceLE, Int.reduceLT, Int.reduceToNat, ne_eq, not_true_eq_false, not_false_eq_true, Int.reduceEq]
    exact ⟨2 - (i + 1), by omega, i + 1, rfl, by omega, by rw [next64 (by omega)], hsa, hsz⟩
  · simp only [go_sem, r_block, h10, h9, h1, reduceIte, Nat.reduceEqDiff, Nat.reduceAdd, Nat.reduceMul, Nat.reduceSub, Nat.reduceLT, Nat.reduceLeDiff, Nat.le_refl, splice_zero, Int.toNat_natCast, Int.reduceLE, Int.reduceLT, Int.reduceToNat, ne_eq, not_true_eq_false, not_false_eq_true, Int.reduceEq]
    refine live_at.mono ?_
    rintro _ _ ⟨rfl, rfl⟩
    simp only [go_sem, r_block, h10, h9, h1, reduceIte, Nat.reduceEqDiff, Nat.reduceAdd, Nat.reduceMul, Nat.reduceSub, Nat.reduceLT, Nat.reduceLeDiff, Nat.le_refl, splice_zero, Int.toNat_natCast, Int.reduceLE, Int.reduceLT, Int.reduceToNat, ne_eq, not_true_eq_false, not_false_eq_true, Int.reduceEq]
    exact aRet_as (r := boo true) rfl rfl
end
end Go.Proofs.Ytbdojogkjfmofaa
