/-
  The program logic, part 17: more that follows is more that is shown; loops of few rounds; what may be forgotten.
  Conditions: none (a library of lemmas over any program).
-/
import Derived.Test.YthdfpankebjleaaAvPlan
set_option linter.unusedVariables false
set_option linter.unusedSimpArgs false
namespace Go.Av
open Go Go.RowKit

section
variable {P : Program}

theorem aOps_mono {ds : List (Option Nat)} {K K' : Fr → St → Prop} (hk : ∀ fr σ, K fr σ → K' fr σ) : ∀ (l : List Oper) (fr : Fr) (σ : St), aOps P ds l K fr σ → aOps P ds l K' fr σ
  | [], fr, σ, h => hk fr σ h
  | o :: l, fr, σ, h => aGd_mono (fun h => aOp_mon _ _ (fun v σ' hv => aOps_mono hk l _ _ hv) h) (fun h => aOps_mono hk l _ _ h) h
theorem aOrd_mono {ops : Array Oper} {K K' : Fr → St → Prop} (hk : ∀ fr σ, K fr σ → K' fr σ) : ∀ (l : List Nat) (fr : Fr) (σ : St), aOrd P ops l K fr σ → aOrd P ops l K' fr σ
  | [], fr, σ, h => hk fr σ h
  | i :: l, fr, σ, h => by
    rw [aOrd_cons] at h ⊢
    split at h
    · exact aOrd_mono hk l _ _ h
    · exact aGd_mono (fun h => aOp_mon _ _ (fun v σ' hv => aOrd_mono hk l _ _ hv) h) (fun h => aOrd_mono hk l _ _ h) h

/-- More is asked behind. -/
def AK.le (K K' : AK) : Prop := ∀ e fr σ, K e fr σ → K' e fr σ
theorem AK.le_then {A A' : Fr → St → Prop} {K K' : AK} (ha : ∀ fr σ, A fr σ → A' fr σ) (hk : K.le K') : (AK.then A K).le (AK.then A' K') := fun e fr σ h => by
  cases e with
  | normal => exact ha _ _ h
  | exit id => exact hk (.exit id) _ _ h
  | goto l => exact hk (.goto l) _ _ h
  | ret => exact hk .ret _ _ h
theorem aCode_mono : ∀ (c : Code) {K K' : AK}, K.le K' → ∀ (fr : Fr) (σ : St), aCode P c K fr σ → aCode P c K' fr σ
  | .skip, _, _, hk, fr, σ, h => hk .normal _ _ h
  | .label _, _, _, hk, fr, σ, h => hk .normal _ _ h
  | .exit id, _, _, hk, fr, σ, h => hk (.exit id) _ _ h
  | .ret, _, _, hk, fr, σ, h => hk .ret _ _ h
  | .region _ ops false, _, _, hk, fr, σ, h => aOps_mono (fun fr σ h => hk .normal _ _ h) _ _ _ h
  | .region _ ops true, _, _, hk, fr, σ, h => fun t => aOrd_mono (fun fr σ h => hk .normal _ _ h) _ _ _ (h t)
  | .seq x y, _, _, hk, fr, σ, h => aCode_mono x (AK.le_then (fun fr σ h => aCode_mono y hk _ _ h) hk) _ _ h
  | .cond c x y, K, K', hk, fr, σ, h => by
    simp only [aCode] at h ⊢
    unfold aCond at h ⊢
    split at h
    · exact aIf_mono (fun h => aCode_mono x hk _ _ h) (fun h => aCode_mono y hk _ _ h) h
    · exact h.elim
  | .block id x, K, K', hk, fr, σ, h => aCode_mono x (fun e fr σ h => by
      cases e with
      | exit j =>
        simp only [AK.block] at h ⊢
        split
        · rename_i hj; rw [if_pos hj] at h; exact hk .normal _ _ h
        · rename_i hj; rw [if_neg hj] at h; exact hk (.exit j) _ _ h
      | normal => exact hk .normal _ _ h
      | goto l => exact hk (.goto l) _ _ h
      | ret => exact hk .ret _ _ h) _ _ h
  | .scope x, K, K', hk, fr, σ, h => aCode_mono x (fun e fr σ h => by
      cases e with
      | goto l => exact h.elim
      | normal => exact hk .normal _ _ h
      | exit j => exact hk (.exit j) _ _ h
      | ret => exact hk .ret _ _ h) _ _ h
  | .loop x, K, K', hk, fr, σ, ⟨I, h0, hr⟩ => ⟨I, h0, fun m fr σ hI => aCode_mono x (AK.le_then (fun _ _ h => h) hk) _ _ (hr m fr σ hI)⟩
  | .rangeFunc g ps x y, K, K', hk, fr, σ, h => by
    simp only [aCode, aRange] at h ⊢
    split at h
    · intro n l h1 h2
      refine (h n l h1 h2).mono fun _ σ' h => ?_
      unfold aAfter at h ⊢
      split at h
      · refine ⟨h.1, ?_⟩
        have h := h.2
        unfold aPend at h ⊢
        split at h
        · exact hk .normal _ _ h
        · exact hk .ret _ _ h
        · exact hk (.exit _) _ _ h
        · exact h.elim
      · exact h.elim
    · exact h.elim
  | .goto _, _, _, _, _, _, h => h.elim
  | .refuse _, _, _, _, _, _, h => h.elim

/-- A loop of at most so many rounds. -/
def aLoopN (P : Program) (x : Code) (K : AK) : Nat → Fr → St → Prop
  | 0, _, _ => False
  | n + 1, fr, σ => aCode P x (AK.then (aLoopN P x K n) K) fr σ
theorem aLoop_few {x : Code} {K : AK} {fr : Fr} {σ : St} (n : Nat) (h : aLoopN P x K n fr σ) : aLoop (@hid _ ⟨aCode P x⟩) K fr σ :=
  ⟨fun m fr σ => aLoopN P x K m fr σ, ⟨n, h⟩, fun m fr σ h => by
    cases m with
    | zero => exact h.elim
    | succ m => exact aCode_mono x (AK.le_then (fun fr σ h => ⟨m, Nat.lt_succ_self m, h⟩) fun _ _ _ h => h) _ _ h⟩
@[go_sem] theorem r_few {x : Code} {K : AK} {n : Nat} {fr : Fr} {σ : St} : aLoopN P x K (n + 1) fr σ = aCode P x (@hid _ ⟨AK.then (aLoopN P x K n) K⟩) fr σ := _root_.id rfl
end

/-! ### A place at which the ways meet -/
theorem aMeet {P : Program} {x : Code} {A : Fr → St → Prop} {K : AK} {fr : Fr} {σ : St} (M : Fr → St → Prop) (h1 : aCode P x (@hid _ ⟨AK.then M K⟩) fr σ) (h2 : ∀ fr σ, M fr σ → A fr σ) : aCode P x (@hid _ ⟨AK.then A K⟩) fr σ :=
  aCode_mono x (AK.le_then h2 fun _ _ _ h => h) fr σ h1

/-- Two ways that part at a test and meet again. -/
theorem aIf_meet {P : Program} {x y : Code} {A : Fr → St → Prop} {K : AK} {fr : Fr} {σ : St} {p : Prop} [Decidable p] (M : Fr → St → Prop) (h1 : p → aCode P x (@hid _ ⟨AK.then M K⟩) fr σ) (h2 : ¬ p → aCode P y (@hid _ ⟨AK.then M K⟩) fr σ) (h3 : ∀ fr σ, M fr σ → A fr σ) :
    aIf (decide p) (@hid _ ⟨aCode P x (@hid _ ⟨AK.then A K⟩) fr σ⟩) (@hid _ ⟨aCode P y (@hid _ ⟨AK.then A K⟩) fr σ⟩) :=
  aIf_by (fun h => aMeet M (h1 h) h3) fun h => aMeet M (h2 h) h3
theorem aIf_meetb {P : Program} {x y : Code} {A : Fr → St → Prop} {K : AK} {fr : Fr} {σ : St} {p : Bool} (M : Fr → St → Prop) (h1 : p = true → aCode P x (@hid _ ⟨AK.then M K⟩) fr σ) (h2 : p = false → aCode P y (@hid _ ⟨AK.then M K⟩) fr σ) (h3 : ∀ fr σ, M fr σ → A fr σ) :
    aIf p (@hid _ ⟨aCode P x (@hid _ ⟨AK.then A K⟩) fr σ⟩) (@hid _ ⟨aCode P y (@hid _ ⟨AK.then A K⟩) fr σ⟩) :=
  aIf_bool (fun h => aMeet M (h1 h) h3) fun h => aMeet M (h2 h) h3

/-- The ways that begin at a region in drawn order meet behind the code c. -/
theorem aDraw_meet {P : Program} {ops : Array Oper} {c : Code} {A : Fr → St → Prop} {K : AK} {fr : Fr} {σ : St} (M : Fr → St → Prop) (h1 : aDraw P ops (@hid _ ⟨fun fr σ => aCode P c (@hid _ ⟨AK.then M K⟩) fr σ⟩) fr σ) (h2 : ∀ fr σ, M fr σ → A fr σ) :
    aDraw P ops (@hid _ ⟨(@hid _ ⟨AK.then (aCode P c (@hid _ ⟨AK.then A K⟩)) (@hid _ ⟨AK.then A K⟩)⟩) .normal⟩) fr σ := fun t =>
  aOrd_mono (K := fun fr σ => aCode P c (@hid _ ⟨AK.then M K⟩) fr σ) (fun fr σ h => aMeet (A := A) M h h2) _ _ _ (h1 t)

/-! ### Numbers -/
theorem wrap64 {x : Int} (h : -9223372036854775808 ≤ x ∧ x ≤ 9223372036854775807) : IntKind.i64.wrap x = x := by
  simp [IntKind.wrap, IntKind.signed, IntKind.bits]
  omega
theorem wrap8 {x : Int} (h : 0 ≤ x ∧ x ≤ 255) : IntKind.u8.wrap x = x := by
  simp [IntKind.wrap, IntKind.signed, IntKind.bits]
  omega
theorem next64 {i : Nat} (h : i < 9223372036854775807) : IntKind.i64.wrap ((i : Int) + 1) = ((i + 1 : Nat) : Int) := by
  rw [wrap64 (by omega)]
  omega

/-! ### What may be forgotten -/
/-- Less is tracked. -/
theorem view_drop {σ σ' : St} {r : AV} (h : ∀ b o, σ' b = some o → σ b = some o) : View σ r σ' r := fun F w x hs hv =>
  ⟨F, ⟨.refl F w, rfl, rfl, rfl, Nat.le_refl _, fun b _ hb => ⟨rfl, (by
    cases h' : σ' b with
    | none => rfl
    | some o => (rw [h b o h'] at hb; cases hb)), rfl⟩⟩, ⟨fun b o hb => hs.obj b o (h b o hb), hs.lt⟩, hv⟩
theorem View.trans {σ σ' σ'' : St} {r r' r'' : AV} (h : View σ r σ' r') (h' : View σ' r' σ'' r'') : View σ r σ'' r'' := fun F w x hs hv => by
  obtain ⟨F', h1, h2, h3⟩ := h F w x hs hv
  obtain ⟨F'', k1, k2, k3⟩ := h' F' w x h2 h3
  exact ⟨F'', h1.trans k1, k2, k3⟩
theorem set_sub {σ σ0 : St} {b : Nat} {o : AObj} (hb : σ0 b = none) (h : ∀ x p, σ0 x = some p → σ x = some p) : ∀ x p, σ0 x = some p → (σ.set b o) x = some p := fun x p hx => by
  have : x ≠ b := fun e => by subst e; rw [hb] at hx; cases hx
  rw [set_ne this]
  exact h x p hx
/-- What is not tracked before. -/
theorem none_of_sub {σ σ0 : St} {b : Nat} (h : ∀ x p, σ0 x = some p → σ x = some p) (hb : σ b = none) : σ0 b = none := by
  cases h' : σ0 b with
  | none => rfl
  | some o => rw [h b o h'] at hb; cases hb
end Go.Av
