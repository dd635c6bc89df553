/-
  Contracts of the functions that the statement reaches, and the plain laws of what they reckon.
  Conditions: none.
-/
import Derived.Test.YthdfpankebjleaaGreatRows
import Derived.RecoverIn
import Derived.BigFrame
import Derived.Test.YthdfpankebjleaaGreatV1
import Derived.Test.YthdfpankebjleaaGreatV2
import Derived.Test.YthdfpankebjleaaGreatV3
import Derived.Test.YthdfpankebjleaaGreatX1m
set_option linter.unusedVariables false
set_option linter.unusedSimpArgs false
set_option linter.unusedSectionVars false
set_option maxRecDepth 100000
/-
  The library's sort, of facts: parting.
  Conditions: none.
-/
namespace Go.Proofs.YthdfpankebjleaaGreat.F
open Go Go.Av Go.Sort

section
variable {α : Type} [Inhabited α] {en : α → List AV} (hl : ∀ x, (en x).length = 4) (ho : ∀ x, (en x).all AV.one = true) {cf : α → α → Int} {g : Nat} {β : St} (hC : ∀ σ', (∀ x o, β x = some o → σ' x = some o) → ∀ x y, AT Tryz.prog g [.agg (en x), .agg (en y)] σ' fun r σ'' => r = int (cf x y) ∧ σ'' = σ')
variable {σ : St} {b cap : Nat} {d : Array α} (hb : σ b = some (.rows 4 (rw' en d) false cap)) (hn : β b = none) (hs : ∀ x o, β x = some o → σ x = some o) {n : Nat} (hd : d.size = n) (hsz : n ≤ 1000000000)
theorem pl_stop {lt : α → α → Bool} {a i j i2 j2 : Nat} {d : Array α} (h1 : scanUp (fun x => lt x d[a]!) d j i = i2) (h2 : scanDown (fun x => !lt x d[a]!) d i2 j = j2) (h : j2 < i2) : partLoop lt a i j d = (j2, d) := by
  rw [partLoop]
  simp only [h1, h2]
  rw [if_pos h]
theorem pl_go {lt : α → α → Bool} {a i j i2 j2 : Nat} {d : Array α} (h1 : scanUp (fun x => lt x d[a]!) d j i = i2) (h2 : scanDown (fun x => !lt x d[a]!) d i2 j = j2) (h : ¬ j2 < i2) (hi : i ≤ i2) (hj : j2 ≤ j) : partLoop lt a i j d = partLoop lt a (i2 + 1) (j2 - 1) (swp d i2 j2) := by
  rw [partLoop]
  simp only [h1, h2]
  rw [if_neg h, dif_pos (by omega)]
theorem pt_stop {lt : α → α → Bool} {a e pv i2 j2 : Nat} {d d0 : Array α} (h0 : d0 = swp d a pv) (h1 : scanUp (fun x => lt x d0[a]!) d0 (e - 1) (a + 1) = i2) (h2 : scanDown (fun x => !lt x d0[a]!) d0 i2 (e - 1) = j2) (h : j2 < i2) : partition lt d a e pv = (j2, true, swp d0 j2 a) := by
  unfold partition
  simp only [← h0, h1, h2]
  rw [if_pos h]
theorem pt_go {lt : α → α → Bool} {a e pv i2 j2 : Nat} {d d0 : Array α} (h0 : d0 = swp d a pv) (h1 : scanUp (fun x => lt x d0[a]!) d0 (e - 1) (a + 1) = i2) (h2 : scanDown (fun x => !lt x d0[a]!) d0 i2 (e - 1) = j2) (h : ¬ j2 < i2) : partition lt d a e pv = ((partLoop lt a (i2 + 1) (j2 - 1) (swp d0 i2 j2)).1, false, swp (partLoop lt a (i2 + 1) (j2 - 1) (swp d0 i2 j2)).2 (partLoop lt a (i2 + 1) (j2 - 1) (swp d0 i2 j2)).1 a) := by
  unfold partition
  simp only [← h0, h1, h2]
  rw [if_neg h]
include hl ho hC hb hn hs hd hsz
theorem part_at {a e pv : Nat} (he : e ≤ n) (ha : a + 2 ≤ e) (hp : pv < n) : AT Tryz.prog 152 [slv b n cap, int a, int e, int pv, fnv g] σ fun r σ' => r = .tup [int (partition (ltc cf) d a e pv).1, boo (partition (ltc cf) d a e pv).2.1] ∧ σ' = σ.set b (.rows 4 (rw' en (partition (ltc cf) d a e pv).2.2) false cap) := by
  refine AT.of_body Tryz.func152 rfl (by decide) (by kernel_rfl) (by kernel_rfl) (Nat.le_of_ble_eq_true rfl) ?_
  have q1 := rw_get (en := en) (d := d) (j := a) (by omega)
  have q2 := rw_get (en := en) (d := d) (j := pv) (by omega)
  have q3 := rw_get (en := en) (d := d.setIfInBounds a d[pv]!) (j := pv) (by rw [Array.size_setIfInBounds]; omega)
  have w1 : IntKind.i64.wrap ((e : Int) - 1) = ((e - 1 : Nat) : Int) := by rw [wrap64 (by omega)]; omega
  simp only [go_sem]
  refine aDraw_plan [.rd 0 false, .rd 1 false, .rd 2 false, .rd 3 false, .rd 4 false, .rd 5 false, .rd 6 false, .rd 7 true, .rd 8 false, .rd 9 false, .rd 10 false, .rd 11 true, .rd 12 false, .ef 13 [], .rd 14 false, .ef 15 []] (by kernel_rfl) (by kernel_rfl) (by kernel_rfl) ?_
  simp only [go_sem, hb, set_same, q1, q2, en_take hl, en_app hl, hl, ho, rw_set, q3, Array.size_setIfInBounds, w1, next64 (show a < 9223372036854775807 by omega)]
  refine ⟨by omega, by omega, by omega, by omega, by omega, by omega, by omega, by omega, ?_⟩
  clear q1 q2 q3
  obtain ⟨d0, hd0⟩ : ∃ d0, d0 = swp d a pv := ⟨_, rfl⟩
  have hz0 : d0.size = n := by rw [hd0, swp_size]; exact hd
  have e1 : AObj.rows 4 (rw' en ((d.setIfInBounds a d[pv]!).setIfInBounds pv d[a]!)) false cap = AObj.rows 4 (rw' en d0) false cap := by rw [hd0]; rfl
  rw [e1]
  clear e1
  apply meet_by (fun fr σ' => σ' = σ.set b (.rows 4 (rw' en d0) false cap) ∧ fr 0 = slv b n cap ∧ fr 1 = int a ∧ fr 4 = fnv g ∧ fr 12 = int (a + 1 : Nat) ∧ fr 13 = int (e - 1 : Nat))
  case h1 => exact fun key => key _ _ ⟨rfl, rfl, rfl, rfl, rfl, rfl⟩
  rintro fr σ' ⟨rfl, f0, f1, f4, f12, f13⟩
  obtain ⟨i0, hi0⟩ : ∃ i0, i0 = a + 1 := ⟨_, rfl⟩
  obtain ⟨j0, hj0⟩ : ∃ j0, j0 = e - 1 := ⟨_, rfl⟩
  rw [← hi0] at f12
  rw [← hj0] at f13
  refine aMeet (fun fr σ' => σ' = σ.set b (.rows 4 (rw' en d0) false cap) ∧ ∃ i2 : Nat, i0 ≤ i2 ∧ (i2 ≤ i0 ∨ i2 ≤ j0 + 1) ∧ scanUp (fun x => ltc cf x d0[a]!) d0 j0 i0 = i2 ∧ fr 0 = slv b n cap ∧ fr 1 = int a ∧ fr 4 = fnv g ∧ fr 12 = int i2 ∧ fr 13 = int j0) ?_ ?_
  · simp only [go_sem, r_block]
    refine ⟨fun m fr σ' => ∃ i2 : Nat, m = j0 + 1 - i2 ∧ i0 ≤ i2 ∧ (i2 ≤ i0 ∨ i2 ≤ j0 + 1) ∧ scanUp (fun x => ltc cf x d0[a]!) d0 j0 i2 = scanUp (fun x => ltc cf x d0[a]!) d0 j0 i0 ∧ σ' = σ.set b (.rows 4 (rw' en d0) false cap) ∧ fr 0 = slv b n cap ∧ fr 1 = int a ∧ fr 4 = fnv g ∧ fr 12 = int i2 ∧ fr 13 = int j0, ⟨_, i0, rfl, by omega, by omega, rfl, rfl, f0, f1, f4, f12, f13⟩, ?_⟩
    clear f0 f1 f4 f12 f13
    rintro m fr σ' ⟨i2, rfl, h1, h2, hJ, rfl, f0, f1, f4, f12, f13⟩
    rw [sup_eq] at hJ
    simp only [go_sem]
    refine aDraw_plan [.rd 0 false, .rd 1 false, .rd 2 false, .rd 3 false, .rd 4 false, .rd 5 false, .rd 6 false, .rd 7 false, .rd 8 true, .rd 9 false, .rd 10 false, .rd 11 false, .rd 12 true, .ef 13 [], .rd 14 false, .rd 15 false] (by kernel_rfl) (by kernel_rfl) (by kernel_rfl) ?_
    by_cases g1 : (i2 : Int) ≤ (j0 : Nat)
    · have q1 := rw_get (en := en) (d := d0) (j := i2) (by omega)
      have q2 := rw_get (en := en) (d := d0) (j := a) (by omega)
      simp only [go_sem, f0, f1, f4, f12, f13, decide_eq_true g1, set_same, q1, q2, en_take hl]
      refine ⟨by omega, by omega, by omega, by omega, (hC _ (sub_set hn hs) _ _).mono ?_⟩
      rintro _ σ1 ⟨rfl, rfl⟩
      simp only [go_sem]
      refine aIf_by (fun g2 => ?_) (fun g2 => ?_)
      · rw [if_pos ⟨by omega, by unfold ltc; exact decide_eq_true g2⟩] at hJ
        simp only [go_sem, r_block, f0, f1, f4, f12, f13, next64 (show i2 < 9223372036854775807 by omega)]
        exact ⟨j0 + 1 - (i2 + 1), by omega, i2 + 1, rfl, by omega, by omega, hJ, rfl⟩
      · rw [if_neg (fun h => g2 (of_decide_eq_true h.2))] at hJ
        simp only [go_sem]
        exact ⟨i2, h1, h2, hJ.symm, f0, f1, f4, f12, f13⟩
    · rw [if_neg (fun h => g1 (by omega))] at hJ
      simp only [go_sem, f12, f13, decide_eq_false g1]
      exact ⟨i2, h1, h2, hJ.symm, f0, f1, f4, rfl⟩
  clear f0 f1 f4 f12 f13
  rintro fr σ' ⟨rfl, i2, h1, h2, hi3, f0, f1, f4, f12, f13⟩
  simp only [go_sem]
  refine aMeet (fun fr σ' => σ' = σ.set b (.rows 4 (rw' en d0) false cap) ∧ ∃ j2 : Nat, j2 ≤ j0 ∧ scanDown (fun x => !ltc cf x d0[a]!) d0 i2 j0 = j2 ∧ (i2 ≤ j0 → i2 ≤ j2 + 1) ∧ (j0 < i2 → j2 = j0) ∧ fr 0 = slv b n cap ∧ fr 1 = int a ∧ fr 4 = fnv g ∧ fr 12 = int i2 ∧ fr 13 = int j2) ?_ ?_
  · simp only [go_sem, r_block]
    refine ⟨fun m fr σ' => ∃ j2 : Nat, m = j2 ∧ j2 ≤ j0 ∧ scanDown (fun x => !ltc cf x d0[a]!) d0 i2 j2 = scanDown (fun x => !ltc cf x d0[a]!) d0 i2 j0 ∧ (i2 ≤ j0 → i2 ≤ j2 + 1) ∧ (j0 < i2 → j2 = j0) ∧ σ' = σ.set b (.rows 4 (rw' en d0) false cap) ∧ fr 0 = slv b n cap ∧ fr 1 = int a ∧ fr 4 = fnv g ∧ fr 12 = int i2 ∧ fr 13 = int j2, ⟨_, j0, rfl, by omega, rfl, by omega, by omega, rfl, f0, f1, f4, f12, f13⟩, ?_⟩
    clear f0 f1 f4 f12 f13
    rintro m fr σ' ⟨j2, hm, k1, hJ, k2, k3, rfl, f0, f1, f4, f12, f13⟩
    subst hm
    rw [sdn_eq (by omega)] at hJ
    simp only [go_sem]
    refine aDraw_plan [.rd 0 false, .rd 1 false, .rd 2 false, .rd 3 false, .rd 4 false, .rd 5 false, .rd 6 false, .rd 7 false, .rd 8 true, .rd 9 false, .rd 10 false, .rd 11 false, .rd 12 true, .ef 13 [], .rd 14 false, .rd 15 false, .rd 16 false] (by kernel_rfl) (by kernel_rfl) (by kernel_rfl) ?_
    by_cases g1 : (i2 : Int) ≤ m
    · have q1 := rw_get (en := en) (d := d0) (j := m) (by omega)
      have q2 := rw_get (en := en) (d := d0) (j := a) (by omega)
      have w2 : IntKind.i64.wrap ((m : Int) - 1) = ((m - 1 : Nat) : Int) := by rw [wrap64 (by omega)]; omega
      simp only [go_sem, f0, f1, f4, f12, f13, decide_eq_true g1, set_same, q1, q2, en_take hl]
      refine ⟨by omega, by omega, by omega, by omega, (hC _ (sub_set hn hs) _ _).mono ?_⟩
      rintro _ σ1 ⟨rfl, rfl⟩
      simp only [go_sem]
      refine aIf_by (fun g2 => ?_) (fun g2 => ?_)
      · rw [if_neg (by unfold ltc; rw [decide_eq_true g2]; simp)] at hJ
        simp only [go_sem]
        exact ⟨m, k1, hJ.symm, k2, k3, f0, f1, f4, f12, f13⟩
      · rw [if_pos ⟨by omega, by unfold ltc; rw [decide_eq_false g2]; rfl⟩] at hJ
        simp only [go_sem, r_block, f0, f1, f4, f12, f13, w2]
        exact ⟨m - 1, by omega, m - 1, rfl, by omega, hJ, by omega, by omega, rfl⟩
    · rw [if_neg (fun h => g1 (by omega))] at hJ
      simp only [go_sem, f12, f13, decide_eq_false g1]
      exact ⟨m, k1, hJ.symm, k2, k3, f0, f1, f4, rfl⟩
  clear f0 f1 f4 f12 f13
  rintro fr σ' ⟨rfl, j2, k1, hj3, k2, k3, f0, f1, f4, f12, f13⟩
  rw [hi0, hj0] at hi3
  rw [hj0] at hj3
  simp only [go_sem, f12, f13]
  have q1 := rw_get (en := en) (d := d0) (j := a) (by omega)
  refine aIf_by (fun g1 => ?_) (fun g1 => ?_)
  · rw [pt_stop hd0 hi3 hj3 (by omega)]
    have q2 := rw_get (en := en) (d := d0) (j := j2) (by omega)
    have q3 := rw_get (en := en) (d := d0.setIfInBounds j2 d0[a]!) (j := a) (by rw [Array.size_setIfInBounds]; omega)
    simp only [go_sem]
    refine aDraw_plan [.rd 0 false, .rd 1 false, .rd 2 false, .rd 3 false, .rd 4 false, .rd 5 false, .rd 6 false, .rd 7 true, .rd 8 false, .rd 9 false, .rd 10 false, .rd 11 true, .rd 12 false, .ef 13 [], .rd 14 false, .ef 15 []] (by kernel_rfl) (by kernel_rfl) (by kernel_rfl) ?_
    simp only [go_sem, f0, f1, f4, f12, f13, set_same, q1, q2, en_take hl, en_app hl, hl, ho, rw_set, q3, Array.size_setIfInBounds]
    refine ⟨by omega, by omega, by omega, by omega, by omega, by omega, by omega, by omega, ?_⟩
    exact aRet_as (r := .tup [int j2, boo true]) rfl ⟨rfl, rfl⟩
  · rw [pt_go hd0 hi3 hj3 (by omega)]
    have w2 : IntKind.i64.wrap ((j2 : Int) - 1) = ((j2 - 1 : Nat) : Int) := by rw [wrap64 (by omega)]; omega
    have q1 := rw_get (en := en) (d := d0) (j := i2) (by omega)
    have q2 := rw_get (en := en) (d := d0) (j := j2) (by omega)
    have q3 := rw_get (en := en) (d := d0.setIfInBounds i2 d0[j2]!) (j := j2) (by rw [Array.size_setIfInBounds]; omega)
    simp only [go_sem]
    refine aDraw_plan [.rd 0 false, .rd 1 false, .rd 2 false, .rd 3 false, .rd 4 false, .rd 5 false, .rd 6 false, .rd 7 true, .rd 8 false, .rd 9 false, .rd 10 false, .rd 11 true, .rd 12 false, .ef 13 [], .rd 14 false, .ef 15 []] (by kernel_rfl) (by kernel_rfl) (by kernel_rfl) ?_
    simp only [go_sem, r_block, f0, f1, f4, f12, f13, set_same, q1, q2, en_take hl, en_app hl, hl, ho, rw_set, q3, Array.size_setIfInBounds, w2, next64 (show i2 < 9223372036854775807 by omega)]
    refine ⟨by omega, by omega, by omega, by omega, by omega, by omega, by omega, by omega, ?_⟩
    clear q1 q2 q3
    obtain ⟨R, hR⟩ : ∃ R, R = partLoop (ltc cf) a (i2 + 1) (j2 - 1) (swp d0 i2 j2) := ⟨_, rfl⟩
    rw [← hR]
    refine ⟨fun m fr σ' => ∃ (i j : Nat) (d' : Array α), m = j + 1 - i ∧ a < i ∧ i ≤ e ∧ j < e ∧ i ≤ j + 2 ∧ d'.size = n ∧ partLoop (ltc cf) a i j d' = R ∧ σ' = σ.set b (.rows 4 (rw' en d') false cap) ∧ fr 0 = slv b n cap ∧ fr 1 = int a ∧ fr 4 = fnv g ∧ fr 12 = int i ∧ fr 13 = int j, ⟨_, i2 + 1, j2 - 1, swp d0 i2 j2, rfl, by omega, by omega, by omega, by omega, by rw [swp_size]; exact hz0, hR.symm, rfl, f0, f1, f4, rfl, rfl⟩, ?_⟩
    clear f0 f1 f4 f12 f13 hi3 hj3 k2 k3 h1 h2 k1 w2 g1 i2 j2 hR
    rintro m fr σ' ⟨i, j, dd, rfl, hi1, hi2, hj1, hij, hdd, hI, rfl, f0, f1, f4, f12, f13⟩
    simp only [go_sem]
    rw [r_block]
    simp only [go_sem]
    refine aMeet (fun fr σ' => σ' = σ.set b (.rows 4 (rw' en dd) false cap) ∧ ∃ i2 : Nat, i ≤ i2 ∧ (i2 ≤ i ∨ i2 ≤ j + 1) ∧ scanUp (fun x => ltc cf x dd[a]!) dd j i = i2 ∧ fr 0 = slv b n cap ∧ fr 1 = int a ∧ fr 4 = fnv g ∧ fr 12 = int i2 ∧ fr 13 = int j) ?_ ?_
    · simp only [go_sem, r_block]
      refine ⟨fun m fr σ' => ∃ i2 : Nat, m = j + 1 - i2 ∧ i ≤ i2 ∧ (i2 ≤ i ∨ i2 ≤ j + 1) ∧ scanUp (fun x => ltc cf x dd[a]!) dd j i2 = scanUp (fun x => ltc cf x dd[a]!) dd j i ∧ σ' = σ.set b (.rows 4 (rw' en dd) false cap) ∧ fr 0 = slv b n cap ∧ fr 1 = int a ∧ fr 4 = fnv g ∧ fr 12 = int i2 ∧ fr 13 = int j, ⟨_, i, rfl, by omega, by omega, rfl, rfl, f0, f1, f4, f12, f13⟩, ?_⟩
      clear f0 f1 f4 f12 f13
      rintro m fr σ' ⟨i2, rfl, h1, h2, hJ, rfl, f0, f1, f4, f12, f13⟩
      rw [sup_eq] at hJ
      simp only [go_sem]
      refine aDraw_plan [.rd 0 false, .rd 1 false, .rd 2 false, .rd 3 false, .rd 4 false, .rd 5 false, .rd 6 false, .rd 7 false, .rd 8 true, .rd 9 false, .rd 10 false, .rd 11 false, .rd 12 true, .ef 13 [], .rd 14 false, .rd 15 false] (by kernel_rfl) (by kernel_rfl) (by kernel_rfl) ?_
      by_cases g1 : (i2 : Int) ≤ (j : Nat)
      · have q1 := rw_get (en := en) (d := dd) (j := i2) (by omega)
        have q2 := rw_get (en := en) (d := dd) (j := a) (by omega)
        simp only [go_sem, f0, f1, f4, f12, f13, decide_eq_true g1, set_same, q1, q2, en_take hl]
        refine ⟨by omega, by omega, by omega, by omega, (hC _ (sub_set hn hs) _ _).mono ?_⟩
        rintro _ σ1 ⟨rfl, rfl⟩
        simp only [go_sem]
        refine aIf_by (fun g2 => ?_) (fun g2 => ?_)
        · rw [if_pos ⟨by omega, by unfold ltc; exact decide_eq_true g2⟩] at hJ
          simp only [go_sem, r_block, f0, f1, f4, f12, f13, next64 (show i2 < 9223372036854775807 by omega)]
          exact ⟨j + 1 - (i2 + 1), by omega, i2 + 1, rfl, by omega, by omega, hJ, rfl⟩
        · rw [if_neg (fun h => g2 (of_decide_eq_true h.2))] at hJ
          simp only [go_sem]
          exact ⟨i2, h1, h2, hJ.symm, f0, f1, f4, f12, f13⟩
      · rw [if_neg (fun h => g1 (by omega))] at hJ
        simp only [go_sem, f12, f13, decide_eq_false g1]
        exact ⟨i2, h1, h2, hJ.symm, f0, f1, f4, rfl⟩
    clear f0 f1 f4 f12 f13
    rintro fr σ' ⟨rfl, i2, h1, h2, hi3, f0, f1, f4, f12, f13⟩
    simp only [go_sem]
    refine aMeet (fun fr σ' => σ' = σ.set b (.rows 4 (rw' en dd) false cap) ∧ ∃ j2 : Nat, j2 ≤ j ∧ scanDown (fun x => !ltc cf x dd[a]!) dd i2 j = j2 ∧ (i2 ≤ j → i2 ≤ j2 + 1) ∧ (j < i2 → j2 = j) ∧ fr 0 = slv b n cap ∧ fr 1 = int a ∧ fr 4 = fnv g ∧ fr 12 = int i2 ∧ fr 13 = int j2) ?_ ?_
    · simp only [go_sem, r_block]
      refine ⟨fun m fr σ' => ∃ j2 : Nat, m = j2 ∧ j2 ≤ j ∧ scanDown (fun x => !ltc cf x dd[a]!) dd i2 j2 = scanDown (fun x => !ltc cf x dd[a]!) dd i2 j ∧ (i2 ≤ j → i2 ≤ j2 + 1) ∧ (j < i2 → j2 = j) ∧ σ' = σ.set b (.rows 4 (rw' en dd) false cap) ∧ fr 0 = slv b n cap ∧ fr 1 = int a ∧ fr 4 = fnv g ∧ fr 12 = int i2 ∧ fr 13 = int j2, ⟨_, j, rfl, by omega, rfl, by omega, by omega, rfl, f0, f1, f4, f12, f13⟩, ?_⟩
      clear f0 f1 f4 f12 f13
      rintro m fr σ' ⟨j2, hm, k1, hJ, k2, k3, rfl, f0, f1, f4, f12, f13⟩
      subst hm
      rw [sdn_eq (by omega)] at hJ
      simp only [go_sem]
      refine aDraw_plan [.rd 0 false, .rd 1 false, .rd 2 false, .rd 3 false, .rd 4 false, .rd 5 false, .rd 6 false, .rd 7 false, .rd 8 true, .rd 9 false, .rd 10 false, .rd 11 false, .rd 12 true, .ef 13 [], .rd 14 false, .rd 15 false, .rd 16 false] (by kernel_rfl) (by kernel_rfl) (by kernel_rfl) ?_
      by_cases g1 : (i2 : Int) ≤ m
      · have q1 := rw_get (en := en) (d := dd) (j := m) (by omega)
        have q2 := rw_get (en := en) (d := dd) (j := a) (by omega)
        have w2 : IntKind.i64.wrap ((m : Int) - 1) = ((m - 1 : Nat) : Int) := by rw [wrap64 (by omega)]; omega
        simp only [go_sem, f0, f1, f4, f12, f13, decide_eq_true g1, set_same, q1, q2, en_take hl]
        refine ⟨by omega, by omega, by omega, by omega, (hC _ (sub_set hn hs) _ _).mono ?_⟩
        rintro _ σ1 ⟨rfl, rfl⟩
        simp only [go_sem]
        refine aIf_by (fun g2 => ?_) (fun g2 => ?_)
        · rw [if_neg (by unfold ltc; rw [decide_eq_true g2]; simp)] at hJ
          simp only [go_sem]
          exact ⟨m, k1, hJ.symm, k2, k3, f0, f1, f4, f12, f13⟩
        · rw [if_pos ⟨by omega, by unfold ltc; rw [decide_eq_false g2]; rfl⟩] at hJ
          simp only [go_sem, r_block, f0, f1, f4, f12, f13, w2]
          exact ⟨m - 1, by omega, m - 1, rfl, by omega, hJ, by omega, by omega, rfl⟩
      · rw [if_neg (fun h => g1 (by omega))] at hJ
        simp only [go_sem, f12, f13, decide_eq_false g1]
        exact ⟨m, k1, hJ.symm, k2, k3, f0, f1, f4, rfl⟩
    clear f0 f1 f4 f12 f13
    rintro fr σ' ⟨rfl, j2, k1, hj3, k2, k3, f0, f1, f4, f12, f13⟩
    simp only [go_sem, f12, f13]
    refine aIf_by (fun g1 => ?_) (fun g1 => ?_)
    · rw [pl_stop hi3 hj3 (by omega)] at hI
      rw [← hI]
      have q1 := rw_get (en := en) (d := dd) (j := a) (by omega)
      have q2 := rw_get (en := en) (d := dd) (j := j2) (by omega)
      have q3 := rw_get (en := en) (d := dd.setIfInBounds j2 dd[a]!) (j := a) (by rw [Array.size_setIfInBounds]; omega)
      simp only [go_sem]
      refine aDraw_plan [.rd 0 false, .rd 1 false, .rd 2 false, .rd 3 false, .rd 4 false, .rd 5 false, .rd 6 false, .rd 7 true, .rd 8 false, .rd 9 false, .rd 10 false, .rd 11 true, .rd 12 false, .ef 13 [], .rd 14 false, .ef 15 []] (by kernel_rfl) (by kernel_rfl) (by kernel_rfl) ?_
      simp only [go_sem, f0, f1, f4, f12, f13, set_same, q1, q2, en_take hl, en_app hl, hl, ho, rw_set, q3, Array.size_setIfInBounds]
      refine ⟨by omega, by omega, by omega, by omega, by omega, by omega, by omega, by omega, ?_⟩
      exact aRet_as (r := .tup [int j2, boo false]) rfl ⟨rfl, rfl⟩
    · rw [pl_go hi3 hj3 (by omega) h1 k1] at hI
      have w2 : IntKind.i64.wrap ((j2 : Int) - 1) = ((j2 - 1 : Nat) : Int) := by rw [wrap64 (by omega)]; omega
      have q1 := rw_get (en := en) (d := dd) (j := i2) (by omega)
      have q2 := rw_get (en := en) (d := dd) (j := j2) (by omega)
      have q3 := rw_get (en := en) (d := dd.setIfInBounds i2 dd[j2]!) (j := j2) (by rw [Array.size_setIfInBounds]; omega)
      simp only [go_sem]
      refine aDraw_plan [.rd 0 false, .rd 1 false, .rd 2 false, .rd 3 false, .rd 4 false, .rd 5 false, .rd 6 false, .rd 7 true, .rd 8 false, .rd 9 false, .rd 10 false, .rd 11 true, .rd 12 false, .ef 13 [], .rd 14 false, .ef 15 []] (by kernel_rfl) (by kernel_rfl) (by kernel_rfl) ?_
      simp only [go_sem, f0, f1, f4, f12, f13, set_same, q1, q2, en_take hl, en_app hl, hl, ho, rw_set, q3, Array.size_setIfInBounds, w2, next64 (show i2 < 9223372036854775807 by omega)]
      exact ⟨by omega, by omega, by omega, by omega, by omega, by omega, by omega, by omega, j2 - 1 + 1 - (i2 + 1), by omega, i2 + 1, j2 - 1, swp dd i2 j2, rfl, by omega, by omega, by omega, by omega, by rw [swp_size]; exact hdd, hI, rfl, rfl, rfl⟩
end
end Go.Proofs.YthdfpankebjleaaGreat.F

/-
  The library's sort, of facts: the whole.
  Conditions: none.
-/
namespace Go.Proofs.YthdfpankebjleaaGreat.F
open Go Go.Av Go.Sort

section
variable {α : Type} [Inhabited α] {en : α → List AV} (hl : ∀ x, (en x).length = 4) (ho : ∀ x, (en x).all AV.one = true) {cf : α → α → Int} {g : Nat} {β : St} (hC : ∀ σ', (∀ x o, β x = some o → σ' x = some o) → ∀ x y, AT Tryz.prog g [.agg (en x), .agg (en y)] σ' fun r σ'' => r = int (cf x y) ∧ σ'' = σ')
variable {b cap : Nat} (hn : β b = none) {n : Nat} (hsz : n ≤ 1000000000) (hS : SWO (ltc cf))
include hl ho hC hn hsz hS
theorem pdq_at : ∀ (w : Nat) {σ : St} {d : Array α} {a e limit : Nat}, e - a ≤ w → σ b = some (.rows 4 (rw' en d) false cap) → (∀ x o, β x = some o → σ x = some o) → d.size = n → a ≤ e → e ≤ n → limit ≤ 1000 → Below (ltc cf) a e d →
    AT Tryz.prog 120 [slv b n cap, int a, int e, int limit, fnv g] σ fun _ σ' => ∃ d', σ' = σ.set b (.rows 4 (rw' en d') false cap) ∧ PermIn a e d d' ∧ SortedIn (ltc cf) a e d' := by
  intro w
  induction w using Nat.strongRecOn with
  | ind w ih =>
  intro σ d a e limit hw hb hs hd hae he hlim hB
  refine AT.of_body Tryz.func120 rfl (by decide) (by kernel_rfl) (by kernel_rfl) (Nat.le_of_ble_eq_true rfl) ?_
  simp only [go_sem, r_block]
  refine ⟨fun m fr σ' => ∃ (p q lim : Nat) (wb wp : Bool) (d' : Array α), m = q - p ∧ p ≤ q ∧ q ≤ n ∧ q - p ≤ w ∧ lim ≤ 1000 ∧ d'.size = n ∧ Below (ltc cf) p q d' ∧ (∀ R, PermIn p q d' R → SortedIn (ltc cf) p q R → PermIn a e d R ∧ SortedIn (ltc cf) a e R) ∧ σ' = σ.set b (.rows 4 (rw' en d') false cap) ∧ fr 0 = slv b n cap ∧ fr 1 = int p ∧ fr 2 = int q ∧ fr 3 = int lim ∧ fr 4 = fnv g ∧ fr 10 = boo wb ∧ fr 11 = boo wp, ⟨_, a, e, limit, true, true, d, rfl, hae, he, hw, hlim, hd, hB, fun R h1 h2 => ⟨h1, h2⟩, (set_id hb).symm, rfl, rfl, rfl, rfl, rfl, rfl, rfl⟩, ?_⟩
  rintro m fr σ' ⟨p, q, lim, wb, wp, dd, rfl, hpq, hq, hw2, hlim2, hdd, hB2, hF, rfl, f0, f1, f2, f3, f4, f10, f11⟩
  have w1 : IntKind.i64.wrap ((q : Int) - p) = ((q - p : Nat) : Int) := by rw [wrap64 (by omega)]; omega
  simp only [go_sem]
  rw [r_block]
  simp only [go_sem, f1, f2, w1]
  refine aIf_by (fun g1 => ?_) (fun g1 => ?_)
  · simp only [go_sem, f0, f1, f2, f4]
    refine (ins_at hl ho hC (σ := σ.set b (.rows 4 (rw' en dd) false cap)) (d := dd) set_same hn (sub_set hn hs) hdd hsz (a := p) (e := q) hq (by omega)).mono ?_
    rintro _ σ1 rfl
    simp only [go_sem]
    have h := insertionSort_holds (lt := ltc cf) hS dd p q hpq (by omega)
    exact aRet_as (r := .tup []) rfl ⟨_, rfl, hF _ h.1 h.2⟩
  simp only [go_sem, f3]
  refine aIf_by (fun g2 => ?_) (fun g2 => ?_)
  · simp only [go_sem, f0, f1, f2, f4]
    refine (heap_at hl ho hC (σ := σ.set b (.rows 4 (rw' en dd) false cap)) (d := dd) set_same hn (sub_set hn hs) hdd hsz (a := p) (e := q) hq (by omega)).mono ?_
    rintro _ σ1 rfl
    simp only [go_sem]
    have h := heapSort_holds (lt := ltc cf) hS dd p q hpq (by omega)
    exact aRet_as (r := .tup []) rfl ⟨_, rfl, hF _ h.1 h.2⟩
  simp only [go_sem, f10]
  refine aIf_meetb (fun fr σ' => ∃ (lim' : Nat) (d1 : Array α), lim' ≤ 1000 ∧ PermIn p q dd d1 ∧ σ' = σ.set b (.rows 4 (rw' en d1) false cap) ∧ fr 0 = slv b n cap ∧ fr 1 = int p ∧ fr 2 = int q ∧ fr 3 = int lim' ∧ fr 4 = fnv g ∧ fr 10 = boo wb ∧ fr 11 = boo wp ∧ fr 12 = int (q - p : Nat)) (fun g3 => ?_) (fun g3 => ?_) ?_
  · simp only [go_sem]
    exact ⟨lim, dd, hlim2, permIn_refl dd p q, rfl, f0, f1, f2, f3, f4, f10, f11⟩
  · have w2 : IntKind.i64.wrap ((lim : Int) - 1) = ((lim - 1 : Nat) : Int) := by rw [wrap64 (by omega)]; omega
    simp only [go_sem, f0, f1, f2, f4]
    refine (break_at hl ho (σ := σ.set b (.rows 4 (rw' en dd) false cap)) (d := dd) set_same hdd hsz (a := p) (e := q) hq (by omega)).mono ?_
    rintro _ σ1 rfl
    simp only [go_sem, f0, f1, f2, f3, f4, f10, f11, w2]
    refine ⟨lim - 1, breakPatterns dd p q, by omega, breakPatterns_holds dd p q hpq (by omega), rfl, rfl⟩
  clear f0 f1 f2 f3 f4 f10 f11 fr hlim2
  rintro fr σ' ⟨lim, d1, hlim2, hP1, rfl, f0, f1, f2, f3, f4, f10, f11, f12⟩
  have hz1 : d1.size = n := by rw [hP1.1]; exact hdd
  have hB1 : Below (ltc cf) p q d1 := hB2.perm (by omega) hP1
  have hc0 := choosePivot_holds (ltc cf) d1 p q (by omega)
  simp only [go_sem, f0, f1, f2, f4]
  refine (pivot_at hl ho hC (σ := σ.set b (.rows 4 (rw' en d1) false cap)) (d := d1) set_same hn (sub_set hn hs) hz1 hsz (a := p) (e := q) hq (by omega)).mono ?_
  rintro _ _ ⟨rfl, rfl⟩
  generalize choosePivot (ltc cf) d1 p q = c at hc0 ⊢
  obtain ⟨c1, c2⟩ := c
  simp only [go_sem, f0, f1, f2, f4]
  refine aIf_meet (fun fr σ' => ∃ (pv : Nat) (h : Int) (d2 : Array α), p ≤ pv ∧ pv < q ∧ PermIn p q d1 d2 ∧ σ' = σ.set b (.rows 4 (rw' en d2) false cap) ∧ fr 0 = slv b n cap ∧ fr 1 = int p ∧ fr 2 = int q ∧ fr 3 = int lim ∧ fr 4 = fnv g ∧ fr 10 = boo wb ∧ fr 11 = boo wp ∧ fr 12 = int (q - p : Nat) ∧ fr 13 = int pv ∧ fr 14 = int h) (fun g3 => ?_) (fun g3 => ?_) ?_
  · simp only [go_sem, f0, f1, f2, f4]
    refine (rev_at hl ho (σ := σ.set b (.rows 4 (rw' en d1) false cap)) (d := d1) set_same hz1 hsz (a := p) (e := q) hq (by omega)).mono ?_
    rintro _ σ1 rfl
    have hc1 : p ≤ c1 := hc0.1
    have hc2 : c1 < q := hc0.2
    have w3 : IntKind.i64.wrap (IntKind.i64.wrap ((q : Int) - 1) - IntKind.i64.wrap ((c1 : Int) - p)) = ((q - 1 - (c1 - p) : Nat) : Int) := by
      rw [wrap64 (x := (q : Int) - 1) (by omega), wrap64 (x := (c1 : Int) - p) (by omega), wrap64 (by omega)]; omega
    simp only [go_sem, f0, f1, f2, f3, f4, f10, f11, f12, w3]
    exact ⟨q - 1 - (c1 - p), 1, reverseRange d1 p q, by omega, by omega, reverseRange_holds d1 p q hpq (by omega), rfl, rfl, rfl⟩
  · simp only [go_sem]
    exact ⟨c1, hintN c2, d1, hc0.1, hc0.2, permIn_refl d1 p q, rfl, f0, f1, f2, f3, f4, f10, f11, f12, rfl, rfl⟩
  clear f0 f1 f2 f3 f4 f10 f11 f12 fr hc0
  rintro fr σ' ⟨pv, h, d2, hp1, hp2, hP2, rfl, f0, f1, f2, f3, f4, f10, f11, f12, f13, f14⟩
  have hz2 : d2.size = n := by rw [hP2.1]; exact hz1
  have hB3 : Below (ltc cf) p q d2 := hB1.perm (by omega) hP2
  apply meet_by (fun fr σ' => ∃ (d3 : Array α), PermIn p q d2 d3 ∧ σ' = σ.set b (.rows 4 (rw' en d3) false cap) ∧ fr 0 = slv b n cap ∧ fr 1 = int p ∧ fr 2 = int q ∧ fr 3 = int lim ∧ fr 4 = fnv g ∧ fr 10 = boo wb ∧ fr 11 = boo wp ∧ fr 12 = int (q - p : Nat) ∧ fr 13 = int pv)
  case h1 =>
    intro key
    cases wb
    · simp only [go_sem, f10]
      refine key _ _ ?_
      exact ⟨d2, permIn_refl d2 p q, rfl, f0, f1, f2, f3, f4, f10, f11, f12, f13⟩
    · cases wp
      · simp only [go_sem, f10, f11]
        refine key _ _ ?_
        exact ⟨d2, permIn_refl d2 p q, rfl, f0, f1, f2, f3, f4, f10, f11, f12, f13⟩
      · simp only [go_sem, f10, f11, f14]
        refine aIf_by (fun g4 => ?_) (fun g4 => ?_)
        · simp only [go_sem, f0, f1, f2, f4]
          refine (partial_at hl ho hC (σ := σ.set b (.rows 4 (rw' en d2) false cap)) (d := d2) set_same hn (sub_set hn hs) hz2 hsz (a := p) (e := q) hq (by omega)).mono ?_
          rintro _ _ ⟨rfl, rfl⟩
          have hpi := partialInsertionSort_holds (lt := ltc cf) hS d2 p q (by omega) (by omega) hB3
          simp only [go_sem]
          refine aIf_bool (fun g5 => ?_) (fun g5 => ?_)
          · simp only [go_sem]
            exact aRet_as (r := .tup []) rfl ⟨_, rfl, hF _ (permIn_trans _ _ _ p q (permIn_trans _ _ _ p q hP1 hP2) hpi.1) (hpi.2 g5)⟩
          · simp only [go_sem]
            refine key _ _ ?_
            exact ⟨_, hpi.1, rfl, f0, f1, f2, f3, f4, f10, f11, f12, f13⟩
        · simp only [go_sem]
          refine key _ _ ?_
          exact ⟨d2, permIn_refl d2 p q, rfl, f0, f1, f2, f3, f4, f10, f11, f12, f13⟩
  case h2 =>
    clear f0 f1 f2 f3 f4 f10 f11 f12 f13 f14 fr
    rintro fr σ' ⟨d3, hP3, rfl, f0, f1, f2, f3, f4, f10, f11, f12, f13⟩
    have hz3 : d3.size = n := by rw [hP3.1]; exact hz2
    have hB4 : Below (ltc cf) p q d3 := hB3.perm (by omega) hP3
    have hF3 : ∀ R, PermIn p q d3 R → SortedIn (ltc cf) p q R → PermIn a e d R ∧ SortedIn (ltc cf) a e R := fun R h1 h2 => hF R (permIn_trans _ _ _ p q (permIn_trans _ _ _ p q (permIn_trans _ _ _ p q hP1 hP2) hP3) h1) h2
    clear hF hP1 hP2 hP3 hB1 hB2 hB3 hz1 hz2 hdd d1 d2
    refine aDraw_plan [.rd 0 false, .rd 1 false, .rd 2 false, .rd 3 false, .rd 4 false, .rd 5 false, .rd 6 false, .rd 7 false, .rd 8 true, .rd 9 false, .rd 10 false, .rd 11 false, .rd 12 true, .ef 13 [], .rd 14 false, .rd 15 false, .rd 16 false] (by kernel_rfl) (by kernel_rfl) (by kernel_rfl) ?_
    by_cases g6 : (0 : Int) < p
    · have w5 : IntKind.i64.wrap ((p : Int) - 1) = ((p - 1 : Nat) : Int) := by rw [wrap64 (by omega)]; omega
      have q1 := rw_get (en := en) (d := d3) (j := p - 1) (by omega)
      have q2 := rw_get (en := en) (d := d3) (j := pv) (by omega)
      simp only [go_sem, f0, f1, f4, f13, decide_eq_true g6, w5, set_same, q1, q2, en_take hl]
      refine ⟨by omega, by omega, by omega, by omega, (hC _ (sub_set hn hs) _ _).mono ?_⟩
      rintro _ σ1 ⟨rfl, rfl⟩
      simp only [go_sem]
      refine aIf_by (fun g7 => ?_) (fun g7 => ?_)
      · simp only [go_sem, f0, f1, f2, f4, f13]
        refine (part_at hl ho hC (σ := σ.set b (.rows 4 (rw' en d3) false cap)) (d := d3) set_same hn (sub_set hn hs) hz3 hsz (a := p) (e := q) (pv := pv) hq (by omega) (by omega)).mono ?_
        rintro _ _ ⟨rfl, rfl⟩
        generalize hx : partition (ltc cf) d3 p q pv = x
        obtain ⟨mid, ap, d4⟩ := x
        obtain ⟨g7, g8, hs4, hBa, hBr, hleft, hright⟩ := round_part hS (partition_holds (ltc cf)) hp1 hp2 (by omega) hB4 hx
        have v1 : IntKind.i64.wrap ((mid : Int) - p) = ((mid - p : Nat) : Int) := by rw [wrap64 (by omega)]; omega
        have v2 : IntKind.i64.wrap ((q : Int) - mid) = ((q - mid : Nat) : Int) := by rw [wrap64 (by omega)]; omega
        have v3 : IntKind.i64.wrap (((q - p : Nat) : Int).tdiv 8) = (((q - p) / 8 : Nat) : Int) := by rw [Int.tdiv_eq_ediv_of_nonneg (by omega), wrap64 (by omega)]; omega
        simp only [go_sem, f1, f2, f12, v1, v2, v3]
        refine aIf_by (fun g9 => ?_) (fun g9 => ?_)
        · simp only [go_sem, f0, f1, f2, f3, f4]
          refine (ih (mid - p) (by omega) (σ := σ.set b (.rows 4 (rw' en d4) false cap)) (d := d4) (a := p) (e := mid) (limit := lim) (Nat.le_refl _) set_same (sub_set hn hs) (by omega) g7 (by omega) hlim2 hBa).mono ?_
          rintro _ _ ⟨d5, rfl, l1, l2⟩
          obtain ⟨hBL, hfin⟩ := hleft _ l1 l2
          simp only [go_sem, f0, f2, f3, f4, next64 (show mid < 9223372036854775807 by omega)]
          exact ⟨q - (mid + 1), by omega, mid + 1, q, lim, decide ((((q - p) / 8 : Nat) : Int) ≤ ((mid - p : Nat) : Int)), ap, d5, rfl, by omega, by omega, by omega, hlim2, by rw [l1.1]; omega, hBL, fun R h1 h2 => (fun hh => hF3 R hh.1 hh.2) (hfin R h1 h2), rfl, rfl, rfl, rfl, rfl, rfl⟩
        · simp only [go_sem, f0, f1, f2, f3, f4, next64 (show mid < 9223372036854775807 by omega)]
          refine (ih (q - (mid + 1)) (by omega) (σ := σ.set b (.rows 4 (rw' en d4) false cap)) (d := d4) (a := mid + 1) (e := q) (limit := lim) (Nat.le_refl _) set_same (sub_set hn hs) (by omega) (by omega) (by omega) hlim2 hBr).mono ?_
          rintro _ _ ⟨d5, rfl, l1, l2⟩
          obtain ⟨hBL, hfin⟩ := hright _ l1 l2
          simp only [go_sem, f0, f1, f3, f4]
          exact ⟨mid - p, by omega, p, mid, lim, decide ((((q - p) / 8 : Nat) : Int) ≤ ((q - mid : Nat) : Int)), ap, d5, rfl, by omega, by omega, by omega, hlim2, by rw [l1.1]; omega, hBL, fun R h1 h2 => (fun hh => hF3 R hh.1 hh.2) (hfin R h1 h2), rfl, rfl, rfl, rfl, rfl, rfl⟩
      · simp only [go_sem, f0, f1, f2, f4, f13]
        refine (parteq_at hl ho hC (σ := σ.set b (.rows 4 (rw' en d3) false cap)) (d := d3) set_same hn (sub_set hn hs) hz3 hsz (a := p) (e := q) (pv := pv) hq (by omega) (by omega)).mono ?_
        rintro _ _ ⟨rfl, rfl⟩
        generalize hx : partitionEqual (ltc cf) d3 p q pv = x
        obtain ⟨mid, d4⟩ := x
        obtain ⟨g8, g9, hs4, hBr, hfin⟩ := round_eq hS (partitionEqual_holds (ltc cf)) (by omega) hp1 hp2 (by omega) hB4 (by unfold ltc; exact decide_eq_false g7) hx
        simp only [go_sem, f0, f2, f3, f4, f10, f11]
        exact ⟨q - mid, by omega, mid, q, lim, wb, wp, d4, rfl, by omega, by omega, by omega, hlim2, by omega, hBr, fun R h1 h2 => (fun hh => hF3 R hh.1 hh.2) (hfin R h1 h2), rfl, rfl, rfl, rfl, rfl, rfl⟩
    · simp only [go_sem, f1, decide_eq_false g6]
      simp only [go_sem, f0, f1, f2, f4, f13]
      refine (part_at hl ho hC (σ := σ.set b (.rows 4 (rw' en d3) false cap)) (d := d3) set_same hn (sub_set hn hs) hz3 hsz (a := p) (e := q) (pv := pv) hq (by omega) (by omega)).mono ?_
      rintro _ _ ⟨rfl, rfl⟩
      generalize hx : partition (ltc cf) d3 p q pv = x
      obtain ⟨mid, ap, d4⟩ := x
      obtain ⟨g7, g8, hs4, hBa, hBr, hleft, hright⟩ := round_part hS (partition_holds (ltc cf)) hp1 hp2 (by omega) hB4 hx
      have v1 : IntKind.i64.wrap ((mid : Int) - p) = ((mid - p : Nat) : Int) := by rw [wrap64 (by omega)]; omega
      have v2 : IntKind.i64.wrap ((q : Int) - mid) = ((q - mid : Nat) : Int) := by rw [wrap64 (by omega)]; omega
      have v3 : IntKind.i64.wrap (((q - p : Nat) : Int).tdiv 8) = (((q - p) / 8 : Nat) : Int) := by rw [Int.tdiv_eq_ediv_of_nonneg (by omega), wrap64 (by omega)]; omega
      simp only [go_sem, f1, f2, f12, v1, v2, v3]
      refine aIf_by (fun g9 => ?_) (fun g9 => ?_)
      · simp only [go_sem, f0, f1, f2, f3, f4]
        refine (ih (mid - p) (by omega) (σ := σ.set b (.rows 4 (rw' en d4) false cap)) (d := d4) (a := p) (e := mid) (limit := lim) (Nat.le_refl _) set_same (sub_set hn hs) (by omega) g7 (by omega) hlim2 hBa).mono ?_
        rintro _ _ ⟨d5, rfl, l1, l2⟩
        obtain ⟨hBL, hfin⟩ := hleft _ l1 l2
        simp only [go_sem, f0, f2, f3, f4, next64 (show mid < 9223372036854775807 by omega)]
        exact ⟨q - (mid + 1), by omega, mid + 1, q, lim, decide ((((q - p) / 8 : Nat) : Int) ≤ ((mid - p : Nat) : Int)), ap, d5, rfl, by omega, by omega, by omega, hlim2, by rw [l1.1]; omega, hBL, fun R h1 h2 => (fun hh => hF3 R hh.1 hh.2) (hfin R h1 h2), rfl, rfl, rfl, rfl, rfl, rfl⟩
      · simp only [go_sem, f0, f1, f2, f3, f4, next64 (show mid < 9223372036854775807 by omega)]
        refine (ih (q - (mid + 1)) (by omega) (σ := σ.set b (.rows 4 (rw' en d4) false cap)) (d := d4) (a := mid + 1) (e := q) (limit := lim) (Nat.le_refl _) set_same (sub_set hn hs) (by omega) (by omega) (by omega) hlim2 hBr).mono ?_
        rintro _ _ ⟨d5, rfl, l1, l2⟩
        obtain ⟨hBL, hfin⟩ := hright _ l1 l2
        simp only [go_sem, f0, f1, f3, f4]
        exact ⟨mid - p, by omega, p, mid, lim, decide ((((q - p) / 8 : Nat) : Int) ≤ ((q - mid : Nat) : Int)), ap, d5, rfl, by omega, by omega, by omega, hlim2, by rw [l1.1]; omega, hBL, fun R h1 h2 => (fun hh => hF3 R hh.1 hh.2) (hfin R h1 h2), rfl, rfl, rfl, rfl, rfl, rfl⟩
/-- SortFunc: a permutation that rises. -/
theorem sort_at {σ : St} {d : Array α} (hb : σ b = some (.rows 4 (rw' en d) false cap)) (hs : ∀ x o, β x = some o → σ x = some o) (hd : d.size = n) : AT Tryz.prog 74 [slv b n cap, fnv g] σ fun _ σ' => ∃ d', σ' = σ.set b (.rows 4 (rw' en d') false cap) ∧ d'.toList.Perm d.toList ∧ SortedIn (ltc cf) 0 n d' := by
  refine AT.of_body Tryz.func74 rfl (by decide) (by kernel_rfl) (by kernel_rfl) (Nat.le_of_ble_eq_true rfl) ?_
  have w1 : IntKind.u64.wrap (n : Int) = (n : Int) := by rw [wrapu]; omega
  simp only [go_sem, w1]
  refine (len_at (x := n) (by omega)).mono ?_
  rintro _ σ1 ⟨rfl, rfl⟩
  have hbl := bl_le32 (z := n) (by omega)
  simp only [go_sem]
  refine (pdq_at hl ho hC hn hsz hS n (a := 0) (e := n) (limit := bitsLen n) (by omega) hb hs hd (by omega) (by omega) (by omega) (.inl rfl)).mono ?_
  rintro _ _ ⟨d', rfl, h1, h2⟩
  simp only [go_sem]
  refine aRet_as (r := .tup []) rfl ⟨d', rfl, ?_, h2⟩
  have h3 := h1.2.2
  rw [Array.extract_eq_self_of_le (by rw [h1.1]; omega), Array.extract_eq_self_of_le (by omega)] at h3
  exact h3
end
end Go.Proofs.YthdfpankebjleaaGreat.F

/-
  Facts sorted, each once (package fact).
  Conditions: none.
-/
namespace Go.Proofs.YthdfpankebjleaaGreat
open Go Go.Av

/-- A small fact. -/
structure FS where
  f : Fa
  sm : f.Sm
instance : Inhabited FS := ⟨⟨⟨emp, emp, emp, []⟩, by simp [Fa.Sm]⟩⟩
def FS.en (x : FS) : List AV := x.f.cs
def FS.cf (x y : FS) : Int := cmpF x.f y.f
def FS.eq (x y : FS) : Bool := decide (x.f = y.f)
theorem FS.swo : Go.Sort.SWO (ltc FS.cf) where
  irrefl x := cmpF_ord.swo.irrefl x.f
  trans x y z := cmpF_ord.swo.trans x.f y.f z.f
  ntrans x y z := cmpF_ord.swo.ntrans x.f y.f z.f
section
variable {σ : St}
theorem FS.ord_at {β : St} (σ' : St) (hs : ∀ x o, β x = some o → σ' x = some o) (x y : FS) : AT Tryz.prog 41 [.agg x.en, .agg y.en] σ' fun r σ'' => r = int (FS.cf x y) ∧ σ'' = σ' :=
  cmpF_at x.f y.f x.sm y.sm
theorem FS.eq_at {β : St} (σ' : St) (hs : ∀ x o, β x = some o → σ' x = some o) (x y : FS) : AT Tryz.prog 76 [.agg x.en, .agg y.en] σ' fun r σ'' => r = boo (FS.eq x y) ∧ σ'' = σ' := by
  refine AT.of_body Tryz.func76 rfl (by decide) (by kernel_rfl) (by kernel_rfl) (Nat.le_of_ble_eq_true rfl) ?_
  have ex : x.en = x.f.cs := rfl
  have ey : y.en = y.f.cs := rfl
  simp only [go_sem, ex, ey]
  refine Ctx.nil.alloc fun p σ1 c1 => ?_
  simp only [go_sem, ex, ey]
  refine c1.alloc fun q σ2 c2 => ?_
  simp only [go_sem, c2.g1]
  refine (cmpF_at x.f y.f x.sm y.sm).mono ?_
  rintro _ σ2 ⟨rfl, rfl⟩
  simp only [go_sem]
  exact aRet_view (r := boo _) rfl _ σ' (c2.view _) ⟨by unfold FS.eq; rw [decide_eq_decide.2 (cmpF_ord.zero x.f y.f)], rfl⟩
theorem FS.done {d : Array FS} {out : List Fa} (hp : (d.toList.map FS.f).Perm out) (hs : Go.Sort.SortedIn (ltc FS.cf) 0 d.size d) : (cptB FS.eq d.toList).map FS.f = insS cmpF [] out := by
  rw [cptB_map (e := FS.eq) (f := FS.f) (e' := fun a b => decide (a = b)) (fun x y => by unfold FS.eq; simp) (fun x y => by simp)]
  refine cpt_sorted cmpF_ord (fun x y => by simp) hp ?_ (.refl _)
  rw [List.pairwise_map]
  exact sorted_pw (c := FS.cf) (fun x y => cmpF_ord.anti x.f y.f) hs
theorem insnilF_at (g : Nat) : AT Tryz.prog 145 [nilS, int 0, int 0, fnv g] σ fun _ σ' => σ' = σ := by
  refine AT.of_body Tryz.func145 rfl (by decide) (by kernel_rfl) (by kernel_rfl) (Nat.le_of_ble_eq_true rfl) ?_
  have w : IntKind.i64.wrap (0 + 1) = 1 := by rw [wrap64 (by omega)]; rfl
  simp only [go_sem, r_block, w]
  refine aLoop_few 1 ?_
  simp only [go_sem, r_block]
  exact aRet_as (r := .tup []) rfl rfl
theorem pdqnilF_at (g : Nat) (lim : Nat) : AT Tryz.prog 120 [nilS, int 0, int 0, int lim, fnv g] σ fun _ σ' => σ' = σ := by
  refine AT.of_body Tryz.func120 rfl (by decide) (by kernel_rfl) (by kernel_rfl) (Nat.le_of_ble_eq_true rfl) ?_
  have w : IntKind.i64.wrap (0 - 0) = 0 := by rw [wrap64 (by omega)]; rfl
  simp only [go_sem, r_block]
  refine aLoop_few 1 ?_
  simp only [go_sem, r_block, w]
  refine (insnilF_at g).mono ?_
  rintro _ _ rfl
  simp only [go_sem, r_block]
  exact aRet_as (r := .tup []) rfl rfl
theorem sortnilF_at (g : Nat) : AT Tryz.prog 74 [nilS, fnv g] σ fun _ σ' => σ' = σ := by
  refine AT.of_body Tryz.func74 rfl (by decide) (by kernel_rfl) (by kernel_rfl) (Nat.le_of_ble_eq_true rfl) ?_
  have w1 : IntKind.u64.wrap (0 : Int) = (0 : Int) := by simp [IntKind.wrap, IntKind.signed, IntKind.bits]
  simp only [go_sem, w1]
  refine (len_at (x := 0) (by omega)).mono ?_
  rintro _ σ1 ⟨rfl, rfl⟩
  simp only [go_sem]
  refine (pdqnilF_at g _).mono ?_
  rintro _ _ rfl
  simp only [go_sem]
  exact aRet_as (r := .tup []) rfl rfl
theorem compnilF_at (g : Nat) : AT Tryz.prog 75 [nilS, fnv g] σ fun r σ' => r = nilS ∧ σ' = σ := by
  refine AT.of_body Tryz.func75 rfl (by decide) (by kernel_rfl) (by kernel_rfl) (Nat.le_of_ble_eq_true rfl) ?_
  have d : decide ((0 : Int) < 2) = true := rfl
  simp only [go_sem, d]
  exact aRet_as (r := nilS) rfl ⟨rfl, rfl⟩
/-- What a walk has made, and what was. -/
def Made (σ σ' : St) (v : AV) (l : List Fa) : Prop := Ow 4 σ' v (faC l) ∧ (∀ x o, σ x = some o → σ' x = some o) ∧ ∀ x, Own v x → σ x = none
theorem Made.grow {σ σ' : St} {v : AV} {l : List Fa} (h : Made σ σ' v l) : Grow σ σ' v := fun y o hy => ⟨h.2.1 y o hy, fun ho => by rw [h.2.2 y ho] at hy; cases hy⟩
theorem Made.view {σ σ' : St} {v : AV} {l : List Fa} (h : Made σ σ' v l) : View σ' v σ (.sl 4 (faC l)) := ret_sl h.1.lat h.grow
theorem fs_list : ∀ (l : List Fa), (∀ f ∈ l, f.Sm) → ∃ L : List FS, L.map FS.f = l
  | [], _ => ⟨[], rfl⟩
  | f :: l, h => by
    obtain ⟨L, hL⟩ := fs_list l fun g hg => h g (by simp [hg])
    exact ⟨⟨f, h f (by simp)⟩ :: L, by rw [List.map_cons, hL]⟩
theorem fs_en (L : List FS) : L.map FS.en = faC (L.map FS.f) := by
  unfold faC
  rw [List.map_map]
  rfl
theorem sorted_at (l : List Fa) (hl : l.length ≤ 1000000) (hls : ∀ f ∈ l, f.Sm) : AT Tryz.prog 36 [.sl 4 (faC l)] σ fun v σ' => Made σ σ' v (insS cmpF [] l) := by
  refine AT.of_body Tryz.func36 rfl (by decide) (by kernel_rfl) (by kernel_rfl) (Nat.le_of_ble_eq_true rfl) ?_
  simp only [go_sem, r_block]
  refine ⟨fun m fr σ' => ∃ (i : Nat) (lv : AV) (es : List (List AV)), m = l.length - i ∧ i ≤ l.length ∧ CP σ σ' lv es (l.take i) ∧ Ow 4 σ' lv es ∧ lv ≠ .fsl 4 [] ∧ fr 3 = lv ∧ fr 6 = .sl 4 (faC l) ∧ fr 7 = int l.length ∧ fr 8 = int i, ⟨_, 0, nilS, [], rfl, by omega, ⟨fun _ _ h => h, .none, fun x hx => absurd hx own_no_nil, by simp, fun j hj => by simp at hj⟩, .inl ⟨rfl, .inl rfl⟩, by simp, rfl, rfl, rfl, rfl⟩, ?_⟩
  rintro m fr σ1 ⟨i, lv, es, rfl, hi, ⟨p1, p2, p3, p4, p5⟩, hO, hnf, f3, f6, f7, f8⟩
  simp only [go_sem, f7, f8]
  refine aIf_by (fun hlt => ?_) (fun hlt => ?_)
  · have hil : i < l.length := by omega
    have hsm := hls _ (List.getElem_mem hil)
    unfold Fa.Sm at hsm
    simp only [go_sem, r_block, f6, f8, faC_get hil]
    refine ⟨by omega, Ctx.nil.alloc fun t5 σ2 c1 => ?_⟩
    obtain ⟨σ3, e3, c2⟩ := c1.abs 0 rfl (.cells l[i].cs)
    simp only [go_sem, r_block, c1.g0, e3, c2.g0]
    refine (cloneC_at l[i].ar hsm .sl).mono ?_
    rintro la σ4 ⟨h1, G1⟩
    have k4 := G1 _ _ c2.g0
    simp only [go_sem, r_block, k4.1, h1.lat.one, h1.lat.cells]
    have esp : splice l[i].cs 3 [la] = faX l[i] la := rfl
    have eal : (faX l[i] la).all AV.one = true := faX_one _ h1.lat.one
    obtain ⟨σ5, e5⟩ : ∃ s, σ4.set t5 (.cells (faX l[i] la)) = s := ⟨_, rfl⟩
    have k5 : σ5 t5 = some (.cells (faX l[i] la)) := by rw [← e5]; exact set_same
    have s5 : ∀ y o, σ1 y = some o → σ5 y = some o := fun y o hy => by
      rw [← e5, set_ne fun e => by
        have := c2.f0
        rw [← e, hy] at this; cases this]
      exact (G1 _ _ (c2.sub _ _ hy)).1
    simp only [go_sem, r_block, esp, e5, k5, eal, f3]
    have p2' := p2.keep (σ' := σ5) fun y o hy _ => s5 y o hy
    refine aApp_by (ys := [faX l[i] la]) (by rfl) (by decide) (by decide) (by decide) (Ow.of_app p2' (by simp) (by rw [p4, List.length_take]; simp only [List.length_cons, List.length_nil]; omega) fun lv' σ6 h2 g2 _ => ?_)
    simp only [go_sem, r_block, f6, f7, f8, next64 (show i < 9223372036854775807 by omega)]
    have nol : ∀ y, σ y ≠ none → ¬ Own lv y := fun y hy ho => hy (p3 y ho)
    have n3 : ∀ {q : Nat} {es' : List (List AV)} {cap : Nat} {y : Nat}, q ≠ 4 → σ1 y = some (.rows q es' false cap) → ¬ Own lv y := fun hq hy ho => by
      obtain ⟨c, hc⟩ := p2.own_rows ho
      rw [hc] at hy
      injection hy with hy
      injection hy with hy
      exact hq hy.symm
    have h5 : LAt 3 σ5 la (cnC l[i].ar) := h1.lat.keep fun y o hy ho => by
      rw [← e5, set_ne fun e => by subst e; exact k4.2 ho]; exact hy
    have hla6 : LAt 3 σ6 la (cnC l[i].ar) := h5.keep fun y o hy ho => (g2 y o hy fun ho' => by
      obtain ⟨c, hc⟩ := p2'.own_rows ho'
      obtain ⟨c', hc'⟩ := h5.own_rows ho
      rw [hc] at hc'; cases hc').1
    refine ⟨l.length - (i + 1), by omega, i + 1, lv', es ++ [faX l[i] la], rfl, by omega, ⟨fun y o hy => (g2 _ _ (s5 _ _ (p1 y o hy)) (nol y (by rw [hy]; simp))).1, h2.lat, fun y ho => ?_, by simp [p4]; omega, fun j hj => ?_⟩, h2, ?_, rfl, rfl⟩
    · cases hy : σ y with
      | none => rfl
      | some o => exact absurd ho (g2 _ _ (s5 _ _ (p1 y o hy)) (nol y (by rw [hy]; simp))).2
    · by_cases e : j < i
      · have hj' : j < (l.take i).length := by simp; omega
        obtain ⟨a, a1, a2, a3⟩ := p5 j hj'
        refine ⟨a, ?_, ?_, a3⟩
        · rw [List.getD_eq_getElem?_getD, List.getElem?_append_left (by rw [p4]; exact hj'), ← List.getD_eq_getElem?_getD, a1]
          simp
        · have : (l.take (i + 1))[j] = (l.take i)[j] := by simp
          rw [this]
          refine a2.keepO fun y o hy ho => ?_
          obtain ⟨c, hc⟩ := a2.own_rows ho
          exact (g2 _ _ (s5 _ _ hy) (n3 (by decide) hc)).1
      · have e2 : j = i := by simp at hj; omega
        subst e2
        have e3 : (l.take (j + 1))[j] = l[j] := by simp
        rw [e3]
        refine ⟨la, ?_, .of hla6, fun y ho => ?_⟩
        · have : es.length = j := by rw [p4]; simp; omega
          rw [List.getD_eq_getElem?_getD, List.getElem?_append_right (by omega), this]; simp
        · exact none_of_sub (fun z o hz => c2.sub _ _ (p1 z o hz)) (G1.own ho)
    · rcases h2 with ⟨e, _⟩ | ⟨b, c, rfl, _⟩
      · simp at e
      · intro e; cases e
  · rw [List.take_of_length_le (by omega)] at p4 p5
    have hcp : CP σ σ1 lv es l := ⟨p1, p2, p3, p4, p5⟩
    simp only [go_sem, r_block, f3]
    rcases hO with ⟨rfl, hlo | hlo⟩ | ⟨b, cap, rfl, hcap, hb⟩
    · subst hlo
      refine (sortnilF_at _).mono ?_
      rintro _ σ1 rfl
      simp only [go_sem, r_block, f3]
      refine (compnilF_at _).mono ?_
      rintro _ σ1 ⟨rfl, rfl⟩
      have e0 : l = [] := List.eq_nil_of_length_eq_zero (by simpa using p4.symm)
      simp only [go_sem, r_block]
      exact aRet_as (r := nilS) rfl ⟨by rw [e0]; exact .inl ⟨rfl, .inl rfl⟩, p1, fun x hx => absurd hx own_no_nil⟩
    · exact absurd hlo hnf
    · have hbn : σ b = none := p3 b (own_slv.2 rfl)
      obtain ⟨L, hL1⟩ := fs_list l hls
      have hel : es.length = L.length := by rw [p4, ← hL1, List.length_map]
      have hLl : L.length ≤ 1000000 := by rw [← hL1, List.length_map] at hl; exact hl
      have hSV : SV σ1 (σ.set b (.rows 4 (rw' FS.en L.toArray) false cap)) := by
        refine sv_set hb ⟨rfl, rfl, rfl, by rw [rw_len, hel]; simp, fun j hj => ?_⟩ fun x p hne hx => p1 x p hx
        have hjl : j < l.length := by omega
        have hjL : j < L.length := by omega
        obtain ⟨a, a1, a2, a3⟩ := p5 j hjl
        have e1 : (rw' FS.en L.toArray).getD j [] = l[j].cs := by
          have : (L.map FS.f)[j]'(by simpa using hjL) = l[j] := List.getElem_of_eq hL1 _
          rw [← this]
          simp [rw', List.getD_eq_getElem?_getD, hjL, FS.en]
        rw [a1, e1]
        refine vws_same (vws_same (vws_same (vws_cons (a2.vw fun x hx => ?_) vws_nil)))
        rw [set_ne fun e => ?_]
        · exact a3 x hx
        · subst e
          obtain ⟨c, hc⟩ := a2.own_rows hx
          rw [hb] at hc; cases hc
      refine AT.pre (args' := [slv b es.length cap, fnv 41]) ((F.sort_at (fun _ => rfl) (fun _ => rfl) FS.ord_at hbn (n := es.length) (by omega) FS.swo set_same (sub_set hbn fun _ _ h => h) (by simpa using hel.symm)).mono ?_) (by kernel_rfl) hSV (vws_refl _)
      rintro _ _ ⟨d', rfl, hp, hsd⟩
      rw [set_set]
      have hdl : es.length = d'.toList.length := by rw [hp.length_eq, hel]
      simp only [go_sem, r_block, f3]
      rw [hdl]
      refine (F.compact_at (fun _ => rfl) (fun _ => rfl) FS.eq_at hbn (l := d'.toList) set_same (sub_set hbn fun _ _ h => h) (by omega) (by omega)).mono ?_
      rintro _ _ ⟨rfl, rfl⟩
      rw [set_set]
      simp only [go_sem, r_block]
      have hsz : d'.size = es.length := by simpa using hdl.symm
      have hd := FS.done (d := d') (out := l) (by rw [← hL1]; exact hp.map FS.f) (by rw [hsz]; exact hsd)
      have hcl := cptB_len FS.eq d'.toList
      refine aRet_as (r := slv b (cptB FS.eq d'.toList).length cap) rfl ⟨.inr ⟨b, cap, by rw [faC_len, ← hd, List.length_map], by rw [faC_len, ← hd, List.length_map]; omega, by rw [set_same, fs_en, hd]⟩, sub_set hbn fun _ _ h => h, fun x hx => by rw [own_slv.1 hx]; exact hbn⟩
end
end Go.Proofs.YthdfpankebjleaaGreat

/-
  What follows from rules and facts: heads, what follows at once, the least model.
  Conditions: none.
-/
namespace Go.Proofs.YthdfpankebjleaaGreat
open Go Go.Av

/-- A term's value, if that is a text. -/
def nameF (t : Tm) (env : List Bi) : Option ByteArray := match valF t env with
  | some c => if c = nmC c.s then some c.s else none
  | none => none
def valsF : List Tm → List Bi → Option (List Cn)
  | [], _ => some []
  | t :: l, env => match valF t env with
    | some c => (valsF l env).map (c :: ·)
    | none => none
/-- A rule's head, its variables bound. -/
def headF (r : Rl) (env : List Bi) : Option Fa := (nameF r.ho env).bind fun b => (nameF (orT r.at' r.ho) env).bind fun a => (valsF r.ar env).map fun args => ⟨a, b, r.nm, args⟩
/-- The bindings by which a body is among some facts. -/
def lvE (ho : Tm) (m : List Fa) : List Li → List Bi → List (List Bi)
  | [], env => [env]
  | l :: ls, env => m.flatMap fun x => match litF ho l x env with
    | some e => lvE ho m ls e
    | none => []
/-- The head, if it stands at one of these names. -/
def hdN (names : List ByteArray) (r : Rl) (env : List Bi) : Option Fa := match headF r env with
  | some f => if f.at' ∈ names then some f else none
  | none => none
def onceH (names : List ByteArray) (m : List Fa) (r : Rl) (h : ByteArray) : List Fa := match uniF r.ho (nmC h) [] with
  | some env => (lvE r.ho m r.bo env).filterMap (hdN names r)
  | none => []
/-- What follows at once. -/
def onceL (homes names : List ByteArray) (rs : List Rl) (m : List Fa) : List Fa := rs.flatMap fun r => homes.flatMap fun h => onceH names m r h
def onceF (homes names : List ByteArray) (rs : List Rl) (m : List Fa) : List Fa := insS cmpF [] (onceL homes names rs m)
/-- How many bindings are gone through. -/
def cntH (m : List Fa) (r : Rl) (h : ByteArray) : Nat := match uniF r.ho (nmC h) [] with
  | some env => (lvE r.ho m r.bo env).length
  | none => 0
def cntL (homes : List ByteArray) (rs : List Rl) (m : List Fa) : Nat := ((rs.map fun r => (homes.map fun h => cntH m r h).sum).sum)
theorem onceH_len (names : List ByteArray) (m : List Fa) (r : Rl) (h : ByteArray) : (onceH names m r h).length ≤ cntH m r h := by
  unfold onceH cntH
  split
  · exact List.length_filterMap_le _ _
  · simp
theorem onceL_len (homes names : List ByteArray) (rs : List Rl) (m : List Fa) : (onceL homes names rs m).length ≤ cntL homes rs m := by
  unfold onceL cntL
  induction rs with
  | nil => simp
  | cons r rs ih =>
    simp only [List.flatMap_cons, List.length_append, List.map_cons, List.sum_cons]
    have : (homes.flatMap fun h => onceH names m r h).length ≤ (homes.map fun h => cntH m r h).sum := by
      clear ih
      induction homes with
      | nil => simp
      | cons h hs ih =>
        simp only [List.flatMap_cons, List.length_append, List.map_cons, List.sum_cons]
        have := onceH_len names m r h
        omega
    omega

/-! ### The document's way -/
def frE (names : List ByteArray) (m : List Fa) (r : Rl) : List Li → List Bi → List Fa × Nat → List Fa × Nat
  | [], env, s => (match hdN names r env with
    | some f => insF cmpF f s.1
    | none => s.1, s.2)
  | l :: ls, env, s => m.foldl (fun s x => if 60000 < s.2 then s else match litF r.ho l x env with
    | some e => frE names m r ls e (s.1, s.2 + 1)
    | none => (s.1, s.2 + 1)) s
def stE (names : List ByteArray) (m : List Fa) (r : Rl) (l : Li) (ls : List Li) (env : List Bi) (s : List Fa × Nat) (x : Fa) : List Fa × Nat := if 60000 < s.2 then s else match litF r.ho l x env with
    | some e => frE names m r ls e (s.1, s.2 + 1)
    | none => (s.1, s.2 + 1)
theorem frE_cons {names : List ByteArray} {m : List Fa} {r : Rl} {l : Li} {ls : List Li} {env : List Bi} {s : List Fa × Nat} : frE names m r (l :: ls) env s = m.foldl (stE names m r l ls env) s := rfl
def onHR (names : List ByteArray) (m : List Fa) (r : Rl) (s : List Fa × Nat) (h : ByteArray) : List Fa × Nat := match uniF r.ho (nmC h) [] with
  | some env => frE names m r r.bo env s
  | none => s
def onRR (homes names : List ByteArray) (m : List Fa) (s : List Fa × Nat) (r : Rl) : List Fa × Nat := homes.foldl (onHR names m r) s
def onceR (homes names : List ByteArray) (rs : List Rl) (m : List Fa) (d : Nat) : List Fa × Nat := rs.foldl (onRR homes names m) ([], d)
theorem stE_heavy {names : List ByteArray} {m : List Fa} {r : Rl} {l : Li} {ls : List Li} {env : List Bi} {s : List Fa × Nat} (h : 60000 < s.2) : ∀ k : List Fa, k.foldl (stE names m r l ls env) s = s
  | [] => rfl
  | x :: k => by rw [List.foldl_cons]; unfold stE; rw [if_pos h]; exact stE_heavy h k
theorem foldl_inv {α β : Type} {f : β → α → β} {p : β → Prop} (hf : ∀ s x, p s → p (f s x)) : ∀ (l : List α) (s : β), p s → p (l.foldl f s)
  | [], s, h => h
  | x :: l, s, h => foldl_inv hf l _ (hf s x h)
theorem frE_ge {names : List ByteArray} {m : List Fa} {r : Rl} : ∀ (ls : List Li) (env : List Bi) (s : List Fa × Nat), s.2 ≤ (frE names m r ls env s).2
  | [], env, s => Nat.le_refl _
  | l :: ls, env, s => by
    rw [frE_cons]
    refine foldl_inv (p := fun t => s.2 ≤ t.2) (fun t x ht => ?_) m s (Nat.le_refl _)
    unfold stE
    split
    · exact ht
    · split
      · exact Nat.le_trans (Nat.le_succ_of_le ht) (frE_ge ls _ (t.1, t.2 + 1))
      · exact Nat.le_succ_of_le ht
/-- What it has found while it has not done too much; how much is in it at most. -/
theorem frE_ok {names : List ByteArray} {m : List Fa} {r : Rl} : ∀ (ls : List Li) (env : List Bi) (s : List Fa × Nat), (frE names m r ls env s).2 ≤ 60000 →
    (frE names m r ls env s).1 = insS cmpF s.1 ((lvE r.ho m ls env).filterMap (hdN names r)) ∧ (lvE r.ho m ls env).length + s.2 ≤ (frE names m r ls env s).2 + (if ls = [] then 1 else 0)
  | [], env, s, h => by
    refine ⟨?_, by simp [lvE, frE]; omega⟩
    show (match hdN names r env with
      | some f => insF cmpF f s.1
      | none => s.1) = insS cmpF s.1 (([env] : List (List Bi)).filterMap (hdN names r))
    cases hh : hdN names r env with
    | none => simp [hh, insS]
    | some f => simp [hh, insS]
  | l :: ls, env, s, h => by
    rw [if_neg (by simp), frE_cons] at *
    have key : ∀ (k : List Fa) (s : List Fa × Nat), (k.foldl (stE names m r l ls env) s).2 ≤ 60000 →
        (k.foldl (stE names m r l ls env) s).1 = insS cmpF s.1 ((k.flatMap fun x => match litF r.ho l x env with
          | some e => lvE r.ho m ls e
          | none => []).filterMap (hdN names r)) ∧ (k.flatMap fun x => match litF r.ho l x env with
          | some e => lvE r.ho m ls e
          | none => []).length + s.2 ≤ (k.foldl (stE names m r l ls env) s).2 := by
      intro k
      induction k with
      | nil => exact fun s h => ⟨rfl, by simp⟩
      | cons x k ih =>
        intro s h
        rw [List.foldl_cons] at h ⊢
        rw [List.flatMap_cons, List.filterMap_append, insS_app, List.length_append]
        have hm : (stE names m r l ls env s x).2 ≤ (k.foldl (stE names m r l ls env) (stE names m r l ls env s x)).2 :=
          foldl_inv (p := fun t : List Fa × Nat => (stE names m r l ls env s x).2 ≤ t.2) (fun t y ht => by
            have hh : t.2 ≤ (stE names m r l ls env t y).2 := by
              unfold stE
              split
              · exact Nat.le_refl _
              · split
                · exact Nat.le_trans (Nat.le_succ _) (frE_ge ls _ (t.1, t.2 + 1))
                · exact Nat.le_succ _
            exact Nat.le_trans ht hh) k _ (Nat.le_refl _)
        obtain ⟨i1, i2⟩ := ih _ h
        rw [i1]
        have hs : ¬ 60000 < s.2 := fun hs => by
          have h1 : (stE names m r l ls env s x).2 = s.2 := by unfold stE; rw [if_pos hs]
          omega
        cases hx : litF r.ho l x env with
        | none =>
          have e : stE names m r l ls env s x = (s.1, s.2 + 1) := by unfold stE; rw [if_neg hs, hx]
          rw [e] at i2 hm ⊢
          exact ⟨rfl, by simp only [List.length_nil] at i2 ⊢; omega⟩
        | some e' =>
          have e : stE names m r l ls env s x = frE names m r ls e' (s.1, s.2 + 1) := by unfold stE; rw [if_neg hs, hx]
          rw [e] at i2 hm h ⊢
          obtain ⟨j1, j2⟩ := frE_ok (names := names) (m := m) (r := r) ls e' (s.1, s.2 + 1) (by omega)
          refine ⟨by rw [j1], ?_⟩
          split at j2 <;> simp only at j2 ⊢ <;> omega
    exact key m s h
theorem frE_bd {names : List ByteArray} {m : List Fa} {r : Rl} : ∀ (ls : List Li) (env : List Bi) (s : List Fa × Nat) (c : Nat), s.1.length ≤ s.2 + c → s.2 ≤ 60001 → (frE names m r ls env s).1.length ≤ (frE names m r ls env s).2 + (c + 1) ∧ (frE names m r ls env s).2 ≤ 60001
  | [], env, s, c, h1, h2 => by
    refine ⟨?_, h2⟩
    show (match hdN names r env with
      | some f => insF cmpF f s.1
      | none => s.1).length ≤ s.2 + (c + 1)
    split
    · exact Nat.le_trans ins_len (by omega)
    · omega
  | l :: ls, env, s, c, h1, h2 => by
    rw [frE_cons]
    refine foldl_inv (p := fun t => t.1.length ≤ t.2 + (c + 1) ∧ t.2 ≤ 60001) (fun t x ht => ?_) m s ⟨by omega, h2⟩
    unfold stE
    split
    · exact ht
    · split
      · exact frE_bd ls _ (t.1, t.2 + 1) c (by simp only; omega) (by simp only; omega)
      · exact ⟨by simp only; omega, by simp only; omega⟩
end Go.Proofs.YthdfpankebjleaaGreat

/-
  A term's value; a term made a constant.
  Conditions: none.
-/
namespace Go.Proofs.YthdfpankebjleaaGreat
open Go Go.Av

section
variable {σ : St}
theorem valF_zero {t : Tm} {env : List Bi} (h : t = .zero) : valF t env = none := by unfold valF; rw [if_pos h]
theorem valF_con {t : Tm} {env : List Bi} (h : ¬ t = .zero) (h1 : t.v = emp) : valF t env = some t.val := by unfold valF; rw [if_neg h, if_pos h1]
theorem valF_var {t : Tm} {env : List Bi} (h : ¬ t = .zero) (h1 : ¬ t.v = emp) : valF t env = look env t.v := by unfold valF; rw [if_neg h, if_neg h1]
theorem value_at (t : Tm) (env : List Bi) (hl : env.length ≤ 1000000000) : AT Tryz.prog 58 [.agg t.cs, .sl 4 (biC env)] σ fun r σ' => r = resV (valF t env) ∧ σ' = σ := by
  refine AT.of_body Tryz.func58 rfl (by decide) (by kernel_rfl) (by kernel_rfl) (Nat.le_of_ble_eq_true rfl) ?_
  simp only [go_sem]
  refine Ctx.nil.alloc fun p σ1 c1 => ?_
  simp only [go_sem]
  refine c1.alloc fun q σ2 c2 => ?_
  simp only [go_sem, c2.g1]
  refine tm_eq ?_
  simp only [go_sem]
  refine aIf_by (fun h => ?_) (fun h => ?_)
  · simp only [go_sem, c2.g1]
    exact aRet_ct σ (resV none) rfl set_same tk38 rfl rfl ((c2.upd 0 rfl).view _) ⟨by rw [valF_zero h], rfl⟩
  · simp only [go_sem, c2.g1]
    refine aIf_by (fun h1 => ?_) (fun h1 => ?_)
    · simp only [go_sem, c2.g1]
      exact aRet_ct σ (resV (some t.val)) rfl set_same tk38 rfl rfl ((c2.upd 0 rfl).view _) ⟨by rw [valF_con h h1], rfl⟩
    · simp only [go_sem]
      refine (ixf_at env hl c2.g1.1.2).mono ?_
      rintro _ σ' ⟨rfl, ⟨i, hi, rfl, hI⟩ | ⟨rfl, hI⟩⟩
      · have g : decide ((i : Int) < 0) = false := decide_eq_false (by omega)
        simp only [go_sem, g]
        simp only [go_sem, c2.g1, biC_get hi]
        refine ⟨by omega, ?_⟩
        exact aRet_ct σ (resV (some env[i].c)) rfl set_same tk38 rfl rfl ((c2.upd 0 rfl).view _) ⟨by rw [valF_var h h1, hI], rfl⟩
      · have g : decide ((-1 : Int) < 0) = true := rfl
        simp only [go_sem, g]
        simp only [go_sem, c2.g1]
        exact aRet_ct σ (resV none) rfl set_same tk38 rfl rfl ((c2.upd 0 rfl).view _) ⟨by rw [valF_var h h1, hI], rfl⟩
theorem rvalue_at (t : Tm) (env : List Bi) (hl : env.length ≤ 1000000000) : AT Tryz.prog 84 [.agg t.cs, .sl 4 (biC env)] σ fun r σ' => r = resV (valF t env) ∧ σ' = σ := by
  refine AT.of_body Tryz.func84 rfl (by decide) (by kernel_rfl) (by kernel_rfl) (Nat.le_of_ble_eq_true rfl) ?_
  simp only [go_sem]
  refine Ctx.nil.alloc fun p σ1 c1 => ?_
  simp only [go_sem]
  refine c1.alloc fun q σ2 c2 => ?_
  simp only [go_sem, c2.g1]
  refine (none_at t).mono ?_
  rintro _ σ2 ⟨rfl, rfl⟩
  simp only [go_sem]
  refine aIf_by (fun h => ?_) (fun h => ?_)
  · simp only [go_sem, c2.g1]
    exact aRet_ct σ (resV none) rfl set_same tk38 rfl rfl ((c2.upd 0 rfl).view _) ⟨by rw [valF_zero h], rfl⟩
  · simp only [go_sem, c2.g1]
    refine aIf_by (fun h1 => ?_) (fun h1 => ?_)
    · simp only [go_sem, c2.g1]
      exact aRet_ct σ (resV (some t.val)) rfl set_same tk38 rfl rfl ((c2.upd 0 rfl).view _) ⟨by rw [valF_con h h1], rfl⟩
    · simp only [go_sem, r_block]
      refine ⟨fun m fr σ' => ∃ i : Nat, m = env.length - i ∧ i ≤ env.length ∧ σ' = σ2 ∧ look (env.drop i) t.v = look env t.v ∧ fr 1 = .sl 4 (biC env) ∧ fr 2 = ptr p ∧ fr 4 = ptr q ∧ fr 6 = int i, ⟨_, 0, rfl, by omega, rfl, rfl, rfl, rfl, rfl, rfl⟩, ?_⟩
      rintro m fr σ' ⟨i, rfl, hi, rfl, hI, f1, f2, f4, f6⟩
      simp only [go_sem, f1, f6]
      refine aIf_by (fun hlt => ?_) (fun hlt => ?_)
      · have hil : i < env.length := by omega
        rw [List.drop_eq_getElem_cons hil] at hI
        have e2 : look (env[i] :: env.drop (i + 1)) t.v = if env[i].v = t.v then some env[i].c else look (env.drop (i + 1)) t.v := rfl
        rw [e2] at hI
        simp only [go_sem, r_block]
        refine aDraw_plan [.rd 0 false, .rd 1 false, .rd 2 false, .rd 3 false, .rd 4 true, .rd 5 false, .rd 6 true, .rd 7 false] (by kernel_rfl) (by kernel_rfl) (by kernel_rfl) ?_
        simp only [go_sem, r_block, f1, f2, f6, c2.g1, biC_get hil]
        refine ⟨by omega, aIf_by (fun h0 => ?_) (fun h0 => ?_)⟩
        · rw [if_pos h0] at hI
          simp only [go_sem, f1, f2, f4, f6, c2.g1, biC_get hil]
          refine ⟨by omega, ?_⟩
          exact aRet_ct σ (resV (some env[i].c)) f4 set_same tk38 rfl rfl ((c2.upd 0 rfl).view _) ⟨by rw [valF_var h h1, ← hI], rfl⟩
        · rw [if_neg h0] at hI
          simp only [go_sem, f1, f2, f4, f6, next64 (show i < 9223372036854775807 by omega)]
          exact ⟨env.length - (i + 1), by omega, i + 1, rfl, by omega, hI, rfl⟩
      · rw [List.drop_of_length_le (by omega)] at hI
        simp only [go_sem, f4, c2.g1]
        exact aRet_ct σ (resV none) f4 set_same tk38 rfl rfl ((c2.upd 0 rfl).view _) ⟨by rw [valF_var h h1, ← hI]; rfl, rfl⟩
/-- A slice whose elements are those; what was is yet; all of it is new, or nobody's. -/
theorem cloneB_at (env : List Bi) (hl : env.length ≤ 1000000000) : AT Tryz.prog 59 [.sl 4 (biC env)] σ fun r σ' => LAt 4 σ' r (biC env) ∧ Grow σ σ' r := by
  refine AT.of_body Tryz.func59 rfl (by decide) (by kernel_rfl) (by kernel_rfl) (Nat.le_of_ble_eq_true rfl) ?_
  simp only [go_sem]
  by_cases he : biC env = []
  · refine ⟨fun h => absurd he h, fun _ b => ?_⟩
    refine aIf_bool (fun _ => ?_) (fun _ => ?_)
    · simp only [go_sem]
      exact aRet_as (r := nilS) rfl ⟨by rw [he]; exact .none, .nil⟩
    · simp only [go_sem]
      refine aApp_by (ys := biC env) (by simp [src]) (by decide) (by decide) (by decide) (LAt.full.app (by rw [biC_len]; simp only [List.length_nil]; omega) fun lv σ1 h1 h2 => ?_)
      simp only [go_sem]
      exact aRet_as (r := lv) rfl ⟨h1, fun y p hy => h2 y p hy own_no_fsl⟩
  · refine ⟨fun _ => ?_, fun h => absurd h he⟩
    refine aApp_by (ys := biC env) (by simp [src]) (by decide) (by decide) (by decide) (LAt.full.app (by rw [biC_len]; simp only [List.length_nil]; omega) fun lv σ1 h1 h2 => ?_)
    simp only [go_sem]
    exact aRet_as (r := lv) rfl ⟨h1, fun y p hy => h2 y p hy own_no_fsl⟩
end
end Go.Proofs.YthdfpankebjleaaGreat

/-
  A term made a constant.
  Conditions: none.
-/
namespace Go.Proofs.YthdfpankebjleaaGreat
open Go Go.Av

section
variable {σ : St} {K : AV → Prop}
@[go_sem] theorem resV_0 {o : Option Cn} : aExt (resV o) 0 K = K (.agg (o.getD .zero).cs) := by simp [resV, aExt]
@[go_sem] theorem resV_1 {o : Option Cn} : aExt (resV o) 1 K = K (boo o.isSome) := by simp [resV, aExt]
@[go_sem] theorem resU_0 {o : Option (List Bi)} : aExt (resU o) 0 K = K (.sl 4 (biC (o.getD []))) := by simp [resU, aExt]
@[go_sem] theorem resU_1 {o : Option (List Bi)} : aExt (resU o) 1 K = K (boo o.isSome) := by simp [resU, aExt]
theorem uniF_none0 {t : Tm} {c : Cn} {env : List Bi} (h : valF t env = none) (h1 : t.v = emp) : uniF t c env = none := by unfold uniF; rw [h]; simp only; rw [if_pos h1]
theorem uniF_none1 {t : Tm} {c : Cn} {env : List Bi} (h : valF t env = none) (h1 : ¬ t.v = emp) : uniF t c env = some (env ++ [⟨t.v, c⟩]) := by unfold uniF; rw [h]; simp only; rw [if_neg h1]
theorem uniF_some0 {t : Tm} {c x : Cn} {env : List Bi} (h : valF t env = some x) (h1 : x = c) : uniF t c env = some env := by unfold uniF; rw [h]; simp only; rw [if_pos h1]
theorem uniF_some1 {t : Tm} {c x : Cn} {env : List Bi} (h : valF t env = some x) (h1 : ¬ x = c) : uniF t c env = none := by unfold uniF; rw [h]; simp only; rw [if_neg h1]
theorem unify_at (t : Tm) (c : Cn) (env : List Bi) (hl : env.length ≤ 1000000) : AT Tryz.prog 29 [.agg t.cs, .agg c.cs, .sl 4 (biC env)] σ fun r σ' => r = resU (uniF t c env) ∧ σ' = σ := by
  refine AT.of_body Tryz.func29 rfl (by decide) (by kernel_rfl) (by kernel_rfl) (Nat.le_of_ble_eq_true rfl) ?_
  simp only [go_sem]
  refine Ctx.nil.alloc fun p σ1 c1 => ?_
  simp only [go_sem]
  refine c1.alloc fun q σ2 c2 => ?_
  simp only [go_sem, c2.g1]
  refine (value_at t env (by omega)).mono ?_
  rintro _ σ2 ⟨rfl, rfl⟩
  simp only [go_sem]
  refine c2.alloc fun r σ3 c3 => ?_
  cases hv : valF t env with
  | none =>
    obtain ⟨σ4, e4, c4⟩ := c3.abs 0 rfl (.cells ((none : Option Cn).getD .zero).cs)
    simp only [go_sem, c3.g2, e4, c4.g2]
    refine aIf_by (fun h1 => ?_) (fun h1 => ?_)
    · simp only [go_sem]
      exact aRet_view (r := .tup [nilS, boo false]) rfl (resU none) σ (ret_nil2 c4.sub _) ⟨by rw [uniF_none0 hv h1], rfl⟩
    · simp only [go_sem]
      refine aDraw_plan [.rd 0 false, .rd 2 false, .rd 3 true, .rd 4 true, .rd 5 false, .rd 6 false, .ef 1 [3, 4], .ef 7 [], .rd 8 false, .rd 9 false] (by kernel_rfl) (by kernel_rfl) (by kernel_rfl) ?_
      simp only [go_sem, c4.g2]
      refine (cloneB_at env (by omega)).mono ?_
      rintro lv σ5 ⟨hL, hG⟩
      have c5 := c4.more hG.sub
      simp only [go_sem, c5.g2]
      refine aApp_by (ys := [[str t.v, boo c.b, int c.n, str c.s]]) (by rfl) (by decide) (by decide) (by decide) (hL.app (by rw [biC_len]; simp only [List.length_cons, List.length_nil]; omega) fun lv' σ6 h1' h2' => ?_)
      simp only [go_sem]
      have e : biC env ++ [[str t.v, boo c.b, int c.n, str c.s]] = biC (env ++ [⟨t.v, c⟩]) := by simp [biC, Bi.cs]
      rw [e] at h1'
      exact aRet_view (r := .tup [lv', boo true]) rfl (resU (some (env ++ [⟨t.v, c⟩]))) σ (ret_sl2 h1' (fun y o hy => (hG.step h2') y o (c4.sub y o hy)) _) ⟨by rw [uniF_none1 hv h1], rfl⟩
  | some x =>
    obtain ⟨σ4, e4, c4⟩ := c3.abs 0 rfl (.cells ((some x).getD .zero).cs)
    simp only [go_sem, c3.g2, e4, c4.g2]
    refine cn_ne ?_
    simp only [go_sem]
    refine aIf_by (fun h1 => ?_) (fun h1 => ?_)
    · simp only [go_sem]
      refine (cloneB_at env (by omega)).mono ?_
      rintro lv σ5 ⟨hL, hG⟩
      simp only [go_sem]
      exact aRet_view (r := .tup [lv, boo true]) rfl (resU (some env)) σ (ret_sl2 hL (fun y o hy => hG y o (c4.sub y o hy)) _) ⟨by rw [uniF_some0 hv h1], rfl⟩
    · simp only [go_sem]
      exact aRet_view (r := .tup [nilS, boo false]) rfl (resU none) σ (ret_nil2 c4.sub _) ⟨by rw [uniF_some1 hv h1], rfl⟩
theorem runify_at (t : Tm) (c : Cn) (env : List Bi) (hl : env.length ≤ 1000000) : AT Tryz.prog 44 [.agg t.cs, .agg c.cs, .sl 4 (biC env)] σ fun r σ' => r = resU (uniF t c env) ∧ σ' = σ := by
  refine AT.of_body Tryz.func44 rfl (by decide) (by kernel_rfl) (by kernel_rfl) (Nat.le_of_ble_eq_true rfl) ?_
  simp only [go_sem]
  refine Ctx.nil.alloc fun p σ1 c1 => ?_
  simp only [go_sem]
  refine c1.alloc fun q σ2 c2 => ?_
  simp only [go_sem, c2.g1]
  refine (rvalue_at t env (by omega)).mono ?_
  rintro _ σ2 ⟨rfl, rfl⟩
  simp only [go_sem]
  refine c2.alloc fun r σ3 c3 => ?_
  obtain ⟨σ4, e4, c4⟩ := c3.abs 0 rfl (.cells ((valF t env).getD .zero).cs)
  simp only [go_sem, c3.g2, e4]
  refine aApp_by (ys := biC env) (by simp [src]) (by decide) (by decide) (by decide) (LAt.full.app (by rw [biC_len]; simp only [List.length_nil]; omega) fun lv σ5 hL h2 => ?_)
  rw [List.nil_append] at hL
  have hG : Grow σ4 σ5 lv := fun y p hy => h2 y p hy own_no_fsl
  have c5 := c4.more hG.sub
  cases hv : valF t env with
  | none =>
    rw [hv] at c5
    simp only [go_sem, c5.g2]
    refine (none_at t).mono ?_
    rintro _ σ5 ⟨rfl, rfl⟩
    simp only [go_sem]
    refine aIf_by (fun h0 => ?_) (fun h0 => ?_)
    · simp only [go_sem]
      exact aRet_view (r := .tup [nilS, boo false]) rfl (resU none) σ (ret_nil2 c5.sub _) ⟨by rw [uniF_none0 hv (by rw [h0]; rfl)], rfl⟩
    · have h1 : ¬ t.v = emp := fun h1 => by
        rw [valF_con h0 h1] at hv; cases hv
      simp only [go_sem, c5.g2]
      refine aApp_by (ys := [[str t.v, boo c.b, int c.n, str c.s]]) (by rfl) (by decide) (by decide) (by decide) (hL.app (by rw [biC_len]; simp only [List.length_cons, List.length_nil]; omega) fun lv' σ6 h1' h2' => ?_)
      simp only [go_sem]
      have e : biC env ++ [[str t.v, boo c.b, int c.n, str c.s]] = biC (env ++ [⟨t.v, c⟩]) := by simp [biC, Bi.cs]
      rw [e] at h1'
      exact aRet_view (r := .tup [lv', boo true]) rfl (resU (some (env ++ [⟨t.v, c⟩]))) σ (ret_sl2 h1' (fun y o hy => (hG.step h2') y o (c4.sub y o hy)) _) ⟨by rw [uniF_none1 hv h1], rfl⟩
  | some x =>
    rw [hv] at c5
    simp only [go_sem, c5.g2]
    refine cn_eq ?_
    simp only [go_sem]
    refine aIf_by (fun h1 => ?_) (fun h1 => ?_)
    · simp only [go_sem]
      exact aRet_view (r := .tup [lv, boo true]) rfl (resU (some env)) σ (ret_sl2 hL (fun y o hy => hG y o (c4.sub y o hy)) _) ⟨by rw [uniF_some0 hv h1], rfl⟩
    · simp only [go_sem]
      exact aRet_view (r := .tup [nilS, boo false]) rfl (resU none) σ (ret_nil2 c5.sub _) ⟨by rw [uniF_some1 hv h1], rfl⟩
end
end Go.Proofs.YthdfpankebjleaaGreat

/-
  A term's value as a text; the values of terms; a rule's head: as both packages reckon them.
  Conditions: none.
-/
namespace Go.Proofs.YthdfpankebjleaaGreat
open Go Go.Av

abbrev resN (s : ByteArray) (o : Bool) : AV := .tup [str s, boo o]
def resL (o : Option (List Cn)) : AV := .tup [.sl 3 (cnC (o.getD [])), boo o.isSome]
def Fa.nil : Fa := ⟨emp, emp, emp, []⟩
def resH (o : Option Fa) : AV := .tup [.agg (o.getD .nil).cs, boo o.isSome]
section
variable {σ : St} {K : AV → Prop}
@[go_sem] theorem resL_0 {o : Option (List Cn)} : aExt (resL o) 0 K = K (.sl 3 (cnC (o.getD []))) := by simp [resL, aExt]
@[go_sem] theorem resL_1 {o : Option (List Cn)} : aExt (resL o) 1 K = K (boo o.isSome) := by simp [resL, aExt]
@[go_sem] theorem resH_0 {o : Option Fa} : aExt (resH o) 0 K = K (.agg (o.getD .nil).cs) := by simp [resH, aExt]
@[go_sem] theorem resH_1 {o : Option Fa} : aExt (resH o) 1 K = K (boo o.isSome) := by simp [resH, aExt]
theorem nameF_none {t : Tm} {env : List Bi} (h : valF t env = none) : nameF t env = none := by unfold nameF; rw [h]
theorem nameF_yes {t : Tm} {env : List Bi} {c : Cn} (h : valF t env = some c) (h1 : c = nmC c.s) : nameF t env = some c.s := by unfold nameF; rw [h]; simp only; rw [if_pos h1]
theorem nameF_no {t : Tm} {env : List Bi} {c : Cn} (h : valF t env = some c) (h1 : ¬ c = nmC c.s) : nameF t env = none := by unfold nameF; rw [h]; simp only; rw [if_neg h1]
/-- A text and whether it is one: of the text nothing is told if it is none. -/
def NameIs (o : Option ByteArray) (r : AV) : Prop := ∃ s, r = resN s o.isSome ∧ (∀ x, o = some x → s = x)
theorem name_at' (t : Tm) (env : List Bi) (hl : env.length ≤ 1000000) : AT Tryz.prog 62 [.agg t.cs, .sl 4 (biC env)] σ fun r σ' => NameIs (nameF t env) r ∧ σ' = σ := by
  refine AT.of_body Tryz.func62 rfl (by decide) (by kernel_rfl) (by kernel_rfl) (Nat.le_of_ble_eq_true rfl) ?_
  simp only [go_sem]
  refine Ctx.nil.alloc fun p σ1 c1 => ?_
  simp only [go_sem, c1.g0]
  refine (value_at t env (by omega)).mono ?_
  rintro _ σ1 ⟨rfl, rfl⟩
  simp only [go_sem]
  refine c1.alloc fun q σ2 c2 => ?_
  cases hv : valF t env with
  | none =>
    obtain ⟨σ3, e3, c3⟩ := c2.abs 0 rfl (.cells Cn.zero.cs)
    have e0 : ((none : Option Cn).getD .zero).cs = Cn.zero.cs := rfl
    simp only [go_sem, c2.g1, e0, e3]
    refine aDraw_plan [.rd 0 false, .rd 1 true, .rd 2 false, .rd 3 false, .rd 4 true, .rd 5 false, .rd 6 true, .ef 7 [1, 4], .rd 8 false, .rd 9 false, .rd 10 false, .rd 11 false] (by kernel_rfl) (by kernel_rfl) (by kernel_rfl) ?_
    simp only [go_sem, c3.g1]
    exact aRet_view (r := .tup [str emp, boo false]) rfl _ σ (c3.view _) ⟨⟨emp, by rw [nameF_none hv]; rfl, fun x hx => by rw [nameF_none hv] at hx; cases hx⟩, rfl⟩
  | some c =>
    obtain ⟨σ3, e3, c3⟩ := c2.abs 0 rfl (.cells c.cs)
    have e0 : ((some c).getD .zero).cs = c.cs := rfl
    simp only [go_sem, c2.g1, e0, e3]
    refine aDraw_plan [.rd 0 false, .rd 1 true, .rd 2 false, .rd 3 false, .rd 4 true, .rd 5 false, .rd 6 true, .ef 7 [1, 4], .rd 8 false, .rd 9 false, .rd 10 false, .rd 11 false] (by kernel_rfl) (by kernel_rfl) (by kernel_rfl) ?_
    simp only [go_sem, c3.g1]
    refine (text_at c.s).mono ?_
    rintro _ σ3 ⟨rfl, rfl⟩
    simp only [go_sem, c3.g1]
    refine cn_eq ?_
    simp only [go_sem]
    by_cases h1 : c = nmC c.s
    · exact aRet_view (r := .tup [str c.s, boo (decide (c = nmC c.s))]) rfl _ σ (c3.view _) ⟨⟨c.s, by rw [nameF_yes hv h1, decide_eq_true h1]; rfl, fun x hx => by rw [nameF_yes hv h1] at hx; injection hx⟩, rfl⟩
    · exact aRet_view (r := .tup [str c.s, boo (decide (c = nmC c.s))]) rfl _ σ (c3.view _) ⟨⟨c.s, by rw [nameF_no hv h1, decide_eq_false h1]; rfl, fun x hx => by rw [nameF_no hv h1] at hx; cases hx⟩, rfl⟩
theorem vals_take {l : List Tm} {env : List Bi} {i : Nat} (h : i < l.length) : valsF (l.take (i + 1)) env = (valsF (l.take i) env).bind fun a => (valF l[i] env).map fun c => a ++ [c] := by
  induction l generalizing i with
  | nil => simp at h
  | cons t l ih =>
    cases i with
    | zero =>
      simp only [Nat.zero_add, List.take_succ_cons, List.take_zero, valsF, List.getElem_cons_zero, Option.bind_some]
      cases valF t env <;> rfl
    | succ i =>
      simp only [List.take_succ_cons, valsF, List.getElem_cons_succ]
      cases valF t env with
      | none => rfl
      | some c =>
        have h' : i < l.length := by simpa using h
        simp only
        rw [ih h']
        cases valsF (l.take i) env with
        | none => rfl
        | some a => cases valF l[i] env <;> rfl
theorem vals_none {l : List Tm} {env : List Bi} {i : Nat} (h : i ≤ l.length) (hn : valsF (l.take i) env = none) : valsF l env = none := by
  induction l generalizing i with
  | nil => simp [valsF] at hn
  | cons t l ih =>
    cases i with
    | zero => simp [valsF] at hn
    | succ i =>
      simp only [List.take_succ_cons, valsF] at hn ⊢
      cases hv : valF t env with
      | none => rfl
      | some c =>
        rw [hv] at hn
        simp only at hn ⊢
        rw [Option.map_eq_none_iff] at hn
        rw [ih (by simpa using h) hn]
        rfl
theorem values_at (l : List Tm) (env : List Bi) (hl : l.length ≤ 1000000) (he : env.length ≤ 1000000) : AT Tryz.prog 63 [.sl 4 (tmC l), .sl 4 (biC env)] σ fun r σ' => r = resL (valsF l env) ∧ σ' = σ := by
  refine AT.of_body Tryz.func63 rfl (by decide) (by kernel_rfl) (by kernel_rfl) (Nat.le_of_ble_eq_true rfl) ?_
  simp only [go_sem, r_block]
  refine ⟨fun m fr σ' => ∃ (i : Nat) (lv : AV) (a : List Cn), m = l.length - i ∧ i ≤ l.length ∧ LAt 3 σ' lv (cnC a) ∧ Grow σ σ' lv ∧ a.length = i ∧ valsF (l.take i) env = some a ∧ fr 1 = .sl 4 (biC env) ∧ fr 6 = lv ∧ fr 11 = .sl 4 (tmC l) ∧ fr 12 = int l.length ∧ fr 13 = int i, ⟨_, 0, nilS, [], rfl, by omega, .none, .nil, rfl, rfl, rfl, rfl, rfl, rfl, rfl⟩, ?_⟩
  rintro m fr σ1 ⟨i, lv, a, rfl, hi, hL, hG, ha, hv, f1, f6, f11, f12, f13⟩
  simp only [go_sem, f12, f13]
  refine aIf_by (fun hlt => ?_) (fun hlt => ?_)
  · have hil : i < l.length := by omega
    simp only [go_sem, r_block, f11, f13, tmC_get hil]
    refine ⟨by omega, Ctx.nil.alloc fun p σ2 c1 => ?_⟩
    obtain ⟨σ3, e3, c2⟩ := c1.abs 0 rfl (.cells l[i].cs)
    simp only [go_sem, r_block, c1.g0, e3, c2.g0, f1]
    refine (value_at l[i] env (by omega)).mono ?_
    rintro _ σ3 ⟨rfl, rfl⟩
    simp only [go_sem, r_block]
    refine c2.alloc fun q σ4 c3 => ?_
    have hs := vals_take (env := env) hil
    rw [hv, Option.bind_some] at hs
    cases hc : valF l[i] env with
    | none =>
      rw [hc] at hs
      obtain ⟨σ5, e5, c4⟩ := c3.abs 0 rfl (.cells Cn.zero.cs)
      have e0 : ((none : Option Cn).getD .zero).cs = Cn.zero.cs := rfl
      simp only [go_sem, r_block, c3.g1, e0, e5]
      exact aRet_view (r := .tup [nilS, boo false]) rfl (resL none) σ (ret_nil2 (fun y o hy => c4.sub _ _ (hG.sub y o hy)) _) ⟨by rw [vals_none (by omega) hs], rfl⟩
    | some c =>
      rw [hc] at hs
      obtain ⟨σ5, e5, c4⟩ := c3.abs 0 rfl (.cells c.cs)
      have e0 : ((some c).getD .zero).cs = c.cs := rfl
      simp only [go_sem, r_block, c3.g1, e0, e5, c4.g1, f6]
      have hL4 : LAt 3 σ5 lv (cnC a) := hL.keep fun y o hy _ => c4.sub y o hy
      refine aApp_by (ys := [c.cs]) (by rfl) (by decide) (by decide) (by decide) (hL4.app (by rw [cnC_len, ha]; simp only [List.length_cons, List.length_nil]; omega) fun lv' σ6 h1 g1 => ?_)
      have e6 : cnC a ++ [c.cs] = cnC (a ++ [c]) := by simp [cnC]
      rw [e6] at h1
      simp only [go_sem, r_block, f1, f11, f12, f13, next64 (show i < 9223372036854775807 by omega)]
      have hG' : Grow σ σ6 lv' := fun y o hy => g1 y o (c4.sub _ _ (hG y o hy).1) (hG y o hy).2
      exact ⟨l.length - (i + 1), by omega, i + 1, lv', a ++ [c], rfl, by omega, h1, hG', by simp [ha], hs, rfl, rfl⟩
  · rw [List.take_of_length_le (by omega)] at hv
    simp only [go_sem, r_block, f6]
    exact aRet_view (r := .tup [lv, boo true]) rfl (resL (some a)) σ (ret_sl2 hL hG _) ⟨by rw [hv], rfl⟩
end
end Go.Proofs.YthdfpankebjleaaGreat

/-
  A rule's head, as both packages reckon it.
  Conditions: none.
-/
namespace Go.Proofs.YthdfpankebjleaaGreat
open Go Go.Av

section
variable {σ σ1 : St}
theorem rname_at (t : Tm) (env : List Bi) (hl : env.length ≤ 1000000) : AT Tryz.prog 124 [.agg t.cs, .sl 4 (biC env)] σ fun r σ' => NameIs (nameF t env) r ∧ σ' = σ := by
  refine AT.of_body Tryz.func124 rfl (by decide) (by kernel_rfl) (by kernel_rfl) (Nat.le_of_ble_eq_true rfl) ?_
  simp only [go_sem]
  refine Ctx.nil.alloc fun p σ1 c1 => ?_
  simp only [go_sem, c1.g0]
  refine (rvalue_at t env (by omega)).mono ?_
  rintro _ σ1 ⟨rfl, rfl⟩
  simp only [go_sem]
  refine c1.alloc fun q σ2 c2 => ?_
  cases hv : valF t env with
  | none =>
    obtain ⟨σ3, e3, c3⟩ := c2.abs 0 rfl (.cells Cn.zero.cs)
    have e0 : ((none : Option Cn).getD .zero).cs = Cn.zero.cs := rfl
    simp only [go_sem, c2.g1, e0, e3]
    refine aDraw_plan [.rd 0 false, .rd 1 false, .rd 2 false, .rd 3 true, .rd 4 false, .rd 5 true, .ef 6 [3], .rd 7 false, .rd 8 false] (by kernel_rfl) (by kernel_rfl) (by kernel_rfl) ?_
    simp only [go_sem, c3.g1]
    exact aRet_view (r := .tup [str emp, boo false]) rfl _ σ (c3.view _) ⟨⟨emp, by rw [nameF_none hv]; rfl, fun x hx => by rw [nameF_none hv] at hx; cases hx⟩, rfl⟩
  | some c =>
    obtain ⟨σ3, e3, c3⟩ := c2.abs 0 rfl (.cells c.cs)
    have e0 : ((some c).getD .zero).cs = c.cs := rfl
    simp only [go_sem, c2.g1, e0, e3]
    refine aDraw_plan [.rd 0 false, .rd 1 false, .rd 2 false, .rd 3 true, .rd 4 false, .rd 5 true, .ef 6 [3], .rd 7 false, .rd 8 false] (by kernel_rfl) (by kernel_rfl) (by kernel_rfl) ?_
    simp only [go_sem, c3.g1]
    refine (name_at c.s).mono ?_
    rintro _ σ3 ⟨rfl, rfl⟩
    simp only [go_sem, c3.g1]
    refine cn_ne ?_
    simp only [go_sem]
    by_cases h1 : c = nmC c.s
    · have d := decide_eq_true h1
      simp only [go_sem, d, Bool.not_true, c3.g1]
      exact aRet_view (r := .tup [str c.s, boo true]) rfl _ σ (c3.view _) ⟨⟨c.s, by rw [nameF_yes hv h1]; rfl, fun x hx => by rw [nameF_yes hv h1] at hx; injection hx⟩, rfl⟩
    · have d := decide_eq_false h1
      simp only [go_sem, d, Bool.not_false]
      exact aRet_view (r := .tup [str emp, boo false]) rfl _ σ (c3.view _) ⟨⟨emp, by rw [nameF_no hv h1]; rfl, fun x hx => by rw [nameF_no hv h1] at hx; cases hx⟩, rfl⟩
theorem rvalues_at (l : List Tm) (env : List Bi) (hl : l.length ≤ 1000000) (he : env.length ≤ 1000000) : AT Tryz.prog 125 [.sl 4 (tmC l), .sl 4 (biC env)] σ fun r σ' => r = resL (valsF l env) ∧ σ' = σ := by
  refine AT.of_body Tryz.func125 rfl (by decide) (by kernel_rfl) (by kernel_rfl) (Nat.le_of_ble_eq_true rfl) ?_
  simp only [go_sem, r_block]
  refine ⟨fun m fr σ' => ∃ (i : Nat) (lv : AV) (a : List Cn), m = l.length - i ∧ i ≤ l.length ∧ LAt 3 σ' lv (cnC a) ∧ Grow σ σ' lv ∧ a.length = i ∧ valsF (l.take i) env = some a ∧ fr 0 = .sl 4 (tmC l) ∧ fr 1 = .sl 4 (biC env) ∧ fr 6 = lv ∧ fr 7 = int i, ⟨_, 0, nilS, [], rfl, by omega, .none, .nil, rfl, rfl, rfl, rfl, rfl, rfl⟩, ?_⟩
  rintro m fr σ1 ⟨i, lv, a, rfl, hi, hL, hG, ha, hv, f0, f1, f6, f7⟩
  simp only [go_sem, f0, f7]
  refine aIf_by (fun hlt => ?_) (fun hlt => ?_)
  · have hil : i < l.length := by omega
    simp only [go_sem, r_block, f0, f1, f7, tmC_get hil]
    refine ⟨by omega, (rvalue_at l[i] env (by omega)).mono ?_⟩
    rintro _ σ3 ⟨rfl, rfl⟩
    simp only [go_sem, r_block]
    refine Ctx.nil.alloc fun q σ4 c3 => ?_
    have hs := vals_take (env := env) hil
    rw [hv, Option.bind_some] at hs
    cases hc : valF l[i] env with
    | none =>
      rw [hc] at hs
      obtain ⟨σ5, e5, c4⟩ := c3.abs 0 rfl (.cells Cn.zero.cs)
      have e0 : ((none : Option Cn).getD .zero).cs = Cn.zero.cs := rfl
      simp only [go_sem, r_block, c3.g0, e0, e5]
      exact aRet_view (r := .tup [nilS, boo false]) rfl (resL none) σ (ret_nil2 (fun y o hy => c4.sub _ _ (hG.sub y o hy)) _) ⟨by rw [vals_none (by omega) hs], rfl⟩
    | some c =>
      rw [hc] at hs
      obtain ⟨σ5, e5, c4⟩ := c3.abs 0 rfl (.cells c.cs)
      have e0 : ((some c).getD .zero).cs = c.cs := rfl
      simp only [go_sem, r_block, c3.g0, e0, e5, c4.g0, f6]
      have hL4 : LAt 3 σ5 lv (cnC a) := hL.keep fun y o hy _ => c4.sub y o hy
      refine aApp_by (ys := [c.cs]) (by rfl) (by decide) (by decide) (by decide) (hL4.app (by rw [cnC_len, ha]; simp only [List.length_cons, List.length_nil]; omega) fun lv' σ6 h1 g1 => ?_)
      have e6 : cnC a ++ [c.cs] = cnC (a ++ [c]) := by simp [cnC]
      rw [e6] at h1
      simp only [go_sem, r_block, f0, f1, f7, next64 (show i < 9223372036854775807 by omega)]
      have hG' : Grow σ σ6 lv' := fun y o hy => g1 y o (c4.sub _ _ (hG y o hy).1) (hG y o hy).2
      exact ⟨l.length - (i + 1), by omega, i + 1, lv', a ++ [c], rfl, by omega, h1, hG', by simp [ha], hs, rfl, rfl⟩
  · rw [List.take_of_length_le (by omega)] at hv
    simp only [go_sem, r_block, f6]
    exact aRet_view (r := .tup [lv, boo true]) rfl (resL (some a)) σ (ret_sl2 hL hG _) ⟨by rw [hv], rfl⟩
theorem view_zero (h : ∀ x o, σ x = some o → σ1 x = some o) (x : AV) : View σ1 (.tup [.agg [str emp, str emp, str emp, nilS], x]) σ (.tup [.agg Fa.nil.cs, x]) := by
  have h1 : VWs σ1 σ [str emp, str emp, str emp, nilS] Fa.nil.cs := vws_same (vws_same (vws_same (vws_cons (.nil 3) vws_nil)))
  have h2 : VWs σ1 σ [.agg [str emp, str emp, str emp, nilS], x] [.agg Fa.nil.cs, x] := vws_cons (.agg _ _ rfl h1.2) (vws_refl _)
  exact view_of (sv_of fun y o hy => .inl (h y o hy)) (.tup _ _ rfl h2.2)
theorem headF_some {r : Rl} {env : List Bi} {b a : ByteArray} {l : List Cn} (h1 : nameF r.ho env = some b) (h2 : nameF (orT r.at' r.ho) env = some a) (h3 : valsF r.ar env = some l) : headF r env = some ⟨a, b, r.nm, l⟩ := by
  unfold headF; rw [h1, h2, h3]; rfl
theorem headF_none {r : Rl} {env : List Bi} (h : nameF r.ho env = none ∨ nameF (orT r.at' r.ho) env = none ∨ valsF r.ar env = none) : headF r env = none := by
  unfold headF
  rcases h with h | h | h
  · rw [h]; rfl
  · rw [h]; cases nameF r.ho env <;> rfl
  · rw [h]; cases nameF r.ho env <;> cases nameF (orT r.at' r.ho) env <;> rfl
@[go_sem] theorem Rl.at6 (r : Rl) : (r.cs.drop 6).take 4 = r.at'.cs := rfl
@[go_sem] theorem Rl.nm4' (r : Rl) : r.cs.getD 4 (.v undef) = str r.nm := rfl
@[go_sem] theorem Rl.ar5' (r : Rl) : r.cs.getD 5 (.v undef) = .sl 4 (tmC r.ar) := rfl
theorem head_at (r : Rl) (env : List Bi) (hl : r.ar.length ≤ 1000000) (he : env.length ≤ 1000000) : AT Tryz.prog 31 [.agg r.cs, .sl 4 (biC env)] σ fun v σ' => v = resH (headF r env) ∧ σ' = σ := by
  refine AT.of_body Tryz.func31 rfl (by decide) (by kernel_rfl) (by kernel_rfl) (Nat.le_of_ble_eq_true rfl) ?_
  simp only [go_sem]
  refine Ctx.nil.alloc fun p σ1 c1 => ?_
  simp only [go_sem]
  refine c1.alloc fun q σ2 c2 => ?_
  simp only [go_sem, c2.g1]
  refine (name_at' r.ho env he).mono ?_
  rintro _ σ2 ⟨⟨s1, rfl, hs1⟩, rfl⟩
  simp only [go_sem, c2.g1]
  refine (or_at' r.at' r.ho).mono ?_
  rintro _ σ2 ⟨rfl, rfl⟩
  simp only [go_sem, c2.g1]
  refine (name_at' (orT r.at' r.ho) env he).mono ?_
  rintro _ σ2 ⟨⟨s2, rfl, hs2⟩, rfl⟩
  simp only [go_sem, c2.g1]
  refine (values_at r.ar env hl he).mono ?_
  rintro _ σ2 ⟨rfl, rfl⟩
  have fail : ∀ {fr : Fr} {σ3 : St}, fr 4 = ptr q → fr 5 = boo false → (∀ y o, σ y = some o → σ3 y = some o) → σ3 q = some (.cells [str emp, str emp, str emp, nilS]) → headF r env = none → aRet Tryz.prog (fun v σ' => v = resH (headF r env) ∧ σ' = σ) [.cell 4 47, .tmp 5] fr σ3 := fun h4 h5 hs hq hn =>
    aRet_ct σ (resH none) h4 hq tk47 rfl rfl (by rw [h5]; exact view_zero hs _) ⟨by rw [hn], rfl⟩
  cases h1 : nameF r.ho env with
  | none =>
    simp only [go_sem, c2.g1]
    exact fail rfl rfl (c2.upd 0 rfl).sub set_same (headF_none (.inl h1))
  | some b =>
    cases h2 : nameF (orT r.at' r.ho) env with
    | none =>
      simp only [go_sem, c2.g1]
      exact fail rfl rfl (c2.upd 0 rfl).sub set_same (headF_none (.inr (.inl h2)))
    | some a =>
      cases h3 : valsF r.ar env with
      | none =>
        simp only [go_sem, c2.g1]
        exact fail rfl rfl (c2.upd 0 rfl).sub set_same (headF_none (.inr (.inr h3)))
      | some l =>
        obtain rfl := hs1 b h1
        obtain rfl := hs2 a h2
        simp only [go_sem, c2.g1]
        exact aRet_ct σ (resH (some ⟨s2, s1, r.nm, l⟩)) rfl set_same tk47 rfl rfl ((c2.upd 0 rfl).view _) ⟨by rw [headF_some h1 h2 h3], rfl⟩
theorem rhead_at (r : Rl) (env : List Bi) (hl : r.ar.length ≤ 1000000) (he : env.length ≤ 1000000) : AT Tryz.prog 86 [.agg r.cs, .sl 4 (biC env)] σ fun v σ' => v = resH (headF r env) ∧ σ' = σ := by
  refine AT.of_body Tryz.func86 rfl (by decide) (by kernel_rfl) (by kernel_rfl) (Nat.le_of_ble_eq_true rfl) ?_
  simp only [go_sem]
  refine Ctx.nil.alloc fun p σ1 c1 => ?_
  simp only [go_sem]
  refine c1.alloc fun q σ2 c2 => ?_
  simp only [go_sem, c2.g1]
  refine c2.alloc fun t σ3 c3 => ?_
  obtain ⟨σ4, e4, c4⟩ := c3.abs 0 rfl (.cells r.at'.cs)
  simp only [go_sem, c3.g2, e4, c4.g2]
  refine (none_at r.at').mono ?_
  rintro _ σ4 ⟨rfl, rfl⟩
  simp only [go_sem]
  refine aIf_meet (fun fr σ' => Ctx σ [(t, .cells (orT r.at' r.ho).cs), (q, .cells [str emp, str emp, str emp, nilS]), (p, .cells r.cs)] σ' ∧ fr 1 = .sl 4 (biC env) ∧ fr 2 = ptr p ∧ fr 4 = ptr q ∧ fr 5 = boo false ∧ fr 6 = ptr t) (fun h0 => ?_) (fun h0 => ?_) ?_
  · obtain ⟨σ6, e6, c6⟩ := c4.abs 0 rfl (.cells r.ho.cs)
    simp only [go_sem, c4.g2, e6]
    unfold orT; rw [if_pos h0]; exact c6
  · simp only [go_sem]
    unfold orT; rw [if_neg h0]; exact c4
  clear c4 c3 c2 c1 e4
  rintro fr σ6 ⟨c, f1, f2, f4, f5, f6⟩
  simp only [go_sem, f1, f2, c.g2]
  refine (rname_at r.ho env he).mono ?_
  rintro _ σ6 ⟨⟨s1, rfl, hs1⟩, rfl⟩
  simp only [go_sem, f1, f6, c.g2]
  refine (rname_at (orT r.at' r.ho) env he).mono ?_
  rintro _ σ6 ⟨⟨s2, rfl, hs2⟩, rfl⟩
  simp only [go_sem, f1, f2, c.g2]
  refine (rvalues_at r.ar env hl he).mono ?_
  rintro _ σ6 ⟨rfl, rfl⟩
  have fail : ∀ {fr : Fr} {σ3 : St}, fr 4 = ptr q → fr 5 = boo false → (∀ y o, σ y = some o → σ3 y = some o) → σ3 q = some (.cells [str emp, str emp, str emp, nilS]) → headF r env = none → aRet Tryz.prog (fun v σ' => v = resH (headF r env) ∧ σ' = σ) [.cell 4 47, .tmp 5] fr σ3 := fun h4 h5 hs hq hn =>
    aRet_ct σ (resH none) h4 hq tk47 rfl rfl (by rw [h5]; exact view_zero hs _) ⟨by rw [hn], rfl⟩
  cases h1 : nameF r.ho env with
  | none =>
    simp only [go_sem, f4, c.g2]
    exact fail f4 rfl (c.upd 1 rfl).sub set_same (headF_none (.inl h1))
  | some b =>
    cases h2 : nameF (orT r.at' r.ho) env with
    | none =>
      simp only [go_sem, f4, c.g2]
      exact fail f4 rfl (c.upd 1 rfl).sub set_same (headF_none (.inr (.inl h2)))
    | some a =>
      cases h3 : valsF r.ar env with
      | none =>
        simp only [go_sem, f4, c.g2]
        exact fail f4 rfl (c.upd 1 rfl).sub set_same (headF_none (.inr (.inr h3)))
      | some l =>
        obtain rfl := hs1 b h1
        obtain rfl := hs2 a h2
        simp only [go_sem, f2, f4, c.g2]
        exact aRet_ct σ (resH (some ⟨s2, s1, r.nm, l⟩)) f4 set_same tk47 rfl rfl ((c.upd 1 rfl).view _) ⟨by rw [headF_some h1 h2 h3], rfl⟩
theorem inN_at {l : List ByteArray} {s : ByteArray} (hl : l.length ≤ 1000000000) : AT Tryz.prog 87 [.sl 1 (stC l), str s] σ fun r σ' => r = boo (decide (s ∈ l)) ∧ σ' = σ := by
  refine AT.of_body Tryz.func87 rfl (by decide) (by kernel_rfl) (by kernel_rfl) (Nat.le_of_ble_eq_true rfl) ?_
  simp only [go_sem, r_block]
  refine ⟨fun m fr σ' => ∃ i : Nat, m = l.length - i ∧ i ≤ l.length ∧ σ' = σ ∧ fr 0 = .sl 1 (stC l) ∧ fr 1 = str s ∧ fr 5 = int i ∧ s ∉ l.take i, ⟨_, 0, rfl, by omega, rfl, rfl, rfl, rfl, by simp⟩, ?_⟩
  rintro m fr σ ⟨i, rfl, h1, rfl, f0, f1, f5, g⟩
  simp only [go_sem, f0, f1, f5]
  refine aIf_by (fun hlt => ?_) (fun hlt => ?_)
  · have hi : i < l.length := by omega
    simp only [go_sem, r_block, f0, f1, f5, stC_get hi]
    refine ⟨by omega, aIf_by (fun he => ?_) (fun he => ?_)⟩
    · simp only [go_sem, r_block]
      exact aRet_as (r := boo true) rfl ⟨by rw [decide_eq_true]; exact he ▸ List.getElem_mem hi, rfl⟩
    · simp only [go_sem, r_block, f0, f1, f5, next64 (show i < 9223372036854775807 by omega)]
      refine ⟨l.length - (i + 1), by omega, i + 1, rfl, by omega, rfl, ?_⟩
      rw [List.take_add_one, List.getElem?_eq_getElem hi]
      simp only [Option.toList, List.mem_append, List.mem_singleton, not_or]
      exact ⟨g, fun e => he e.symm⟩
  · simp only [go_sem, r_block, f0, f1, f5]
    rw [List.take_of_length_le (by simp at hlt; omega)] at g
    exact aRet_as (r := boo false) rfl ⟨by rw [decide_eq_false g], rfl⟩
end
end Go.Proofs.YthdfpankebjleaaGreat

/-
  Facts put in at their place; copies; what follows at once, as the document reckons it.
  Conditions: none.
-/
namespace Go.Proofs.YthdfpankebjleaaGreat
open Go Go.Av

section
variable {σ : St}
theorem sortedW_at (l : List Fa) (hl : l.length ≤ 1000000) (hls : ∀ f ∈ l, f.Sm) : AT Tryz.prog 36 [.sl 4 (faC l)] σ fun v σ' => v = .sl 4 (faC (insS cmpF [] l)) ∧ σ' = σ :=
  (sorted_at l hl hls).post (by kernel_rfl) fun v σ' h => ⟨_, _, h.view, rfl, rfl⟩
theorem cloneFW_at (l : List Fa) (hl : l.length ≤ 1000000000) : AT Tryz.prog 37 [.sl 4 (faC l)] σ fun r σ' => LAt 4 σ' r (faC l) ∧ Grow σ σ' r := by
  refine AT.of_body Tryz.func37 rfl (by decide) (by kernel_rfl) (by kernel_rfl) (Nat.le_of_ble_eq_true rfl) ?_
  simp only [go_sem]
  by_cases he : faC l = []
  · refine ⟨fun h => absurd he h, fun _ b => ?_⟩
    refine aIf_bool (fun _ => ?_) (fun _ => ?_)
    · simp only [go_sem]
      exact aRet_as (r := nilS) rfl ⟨by rw [he]; exact .none, .nil⟩
    · simp only [go_sem]
      refine aApp_by (ys := faC l) (by simp [src]) (by decide) (by decide) (by decide) (LAt.full.app (by rw [faC_len]; simp only [List.length_nil]; omega) fun lv σ1 h1 h2 => ?_)
      simp only [go_sem]
      exact aRet_as (r := lv) rfl ⟨h1, fun y p hy => h2 y p hy own_no_fsl⟩
  · refine ⟨fun _ => ?_, fun h => absurd h he⟩
    refine aApp_by (ys := faC l) (by simp [src]) (by decide) (by decide) (by decide) (LAt.full.app (by rw [faC_len]; simp only [List.length_nil]; omega) fun lv σ1 h1 h2 => ?_)
    simp only [go_sem]
    exact aRet_as (r := lv) rfl ⟨h1, fun y p hy => h2 y p hy own_no_fsl⟩
theorem faC_ins {l : List Fa} {f : Fa} (k : Nat) : ([] ++ (faC l).take k) ++ [f.cs] ++ (faC l).drop k = faC (l.take k ++ f :: l.drop k) := by
  simp [faC, List.map_take, List.map_drop]
theorem with_at (l : List Fa) (f : Fa) (hl : l.length ≤ 1000000) (hls : ∀ x ∈ l, x.Sm) (hf : f.Sm) : AT Tryz.prog 72 [.sl 4 (faC l), .agg f.cs] σ fun v σ' => v = .sl 4 (faC (insF cmpF f l)) ∧ σ' = σ := by
  refine AT.of_body Tryz.func72 rfl (by decide) (by kernel_rfl) (by kernel_rfl) (Nat.le_of_ble_eq_true rfl) ?_
  simp only [go_sem]
  refine Ctx.nil.alloc fun p σ1 c1 => ?_
  simp only [go_sem, r_block]
  refine ⟨fun m fr σ' => ∃ k : Nat, m = l.length - k ∧ k ≤ l.length ∧ σ' = σ1 ∧ (∀ i (hi : i < k) (hl : i < l.length), cmpF l[i] f < 0) ∧ fr 0 = .sl 4 (faC l) ∧ fr 3 = ptr p ∧ fr 5 = int k, ⟨_, 0, rfl, by omega, rfl, fun i hi => by omega, rfl, rfl, rfl⟩, ?_⟩
  rintro m fr σ1 ⟨k, rfl, hk, rfl, hI, f0, f3, f5⟩
  simp only [go_sem, r_block]
  refine aDraw_plan [.rd 0 false, .rd 1 false, .rd 2 false, .rd 3 false, .rd 4 false, .rd 5 false, .rd 6 false, .rd 7 false, .rd 8 true, .rd 9 true, .ef 10 [], .rd 11 false, .rd 12 false] (by kernel_rfl) (by kernel_rfl) (by kernel_rfl) ?_
  by_cases g : ∃ hk : k < l.length, cmpF l[k] f < 0
  · obtain ⟨g1, g2⟩ := g
    have d1 := decide_eq_true (show (k : Int) < l.length by omega)
    have d2 := decide_eq_true g2
    simp only [go_sem, r_block, f0, f3, f5, d1, c1.g0, faC_get g1]
    refine ⟨by omega, (rord_at (x := l[k]) (y := f) .cs .cs (hls _ (List.getElem_mem g1)) hf).mono ?_⟩
    rintro _ σ1 ⟨rfl, rfl⟩
    simp only [go_sem, r_block, f0, f3, f5, d2, next64 (show k < 9223372036854775807 by omega)]
    refine ⟨l.length - (k + 1), by omega, k + 1, ?_⟩
    have hI' : ∀ i (hi : i < k + 1) (hl : i < l.length), cmpF l[i] f < 0 := fun i hi hl => by
      by_cases e : i = k
      · subst e; exact g2
      · exact hI i (by omega) hl
    (and_intros <;> first | assumption | rfl | omega)
  · have hn : ∀ hk : k < l.length, ¬ cmpF l[k] f < 0 := fun h1 h2 => g ⟨h1, h2⟩
    have hins := ins_at (c := cmpF) hk hI hn
    by_cases h0 : ∃ hk : k < l.length, cmpF l[k] f = 0
    · obtain ⟨g1, g2⟩ := h0
      rw [if_pos ⟨g1, g2⟩] at hins
      have d1 := decide_eq_true (show (k : Int) < l.length by omega)
      have d2 := decide_eq_false (hn g1)
      have d3 := decide_eq_true g2
      simp only [go_sem, r_block, f0, f3, f5, d1, c1.g0, faC_get g1]
      refine ⟨by omega, (rord_at (x := l[k]) (y := f) .cs .cs (hls _ (List.getElem_mem g1)) hf).mono ?_⟩
      rintro _ σ1 ⟨rfl, rfl⟩
      simp only [go_sem, r_block, d2]
      refine aDraw_plan [.rd 0 false, .rd 1 false, .rd 2 false, .rd 3 false, .rd 4 false, .rd 5 false, .rd 6 false, .rd 7 false, .rd 8 true, .rd 9 true, .ef 10 [], .rd 11 false, .rd 12 false] (by kernel_rfl) (by kernel_rfl) (by kernel_rfl) ?_
      simp only [go_sem, r_block, f0, f3, f5, d1, c1.g0, faC_get g1]
      refine ⟨by omega, (rord_at (x := l[k]) (y := f) .cs .cs (hls _ (List.getElem_mem g1)) hf).mono ?_⟩
      rintro _ σ1 ⟨rfl, rfl⟩
      simp only [go_sem, r_block, d3, f0]
      exact aRet_view (r := .sl 4 (faC l)) rfl _ σ (c1.view _) ⟨by rw [hins], rfl⟩
    · rw [if_neg h0] at hins
      by_cases hkl : k < l.length
      case' pos =>
        have d1 := decide_eq_true (show (k : Int) < l.length by omega)
        have d2 := decide_eq_false (hn hkl)
        have d3 := decide_eq_false (show ¬ cmpF l[k] f = 0 from fun e => h0 ⟨hkl, e⟩)
        simp only [go_sem, r_block, f0, f3, f5, d1, c1.g0, faC_get hkl]
        refine ⟨by omega, (rord_at (x := l[k]) (y := f) .cs .cs (hls _ (List.getElem_mem hkl)) hf).mono ?_⟩
        rintro _ σ1 ⟨rfl, rfl⟩
        simp only [go_sem, r_block, d2]
        refine aDraw_plan [.rd 0 false, .rd 1 false, .rd 2 false, .rd 3 false, .rd 4 false, .rd 5 false, .rd 6 false, .rd 7 false, .rd 8 true, .rd 9 true, .ef 10 [], .rd 11 false, .rd 12 false] (by kernel_rfl) (by kernel_rfl) (by kernel_rfl) ?_
        simp only [go_sem, r_block, f0, f3, f5, d1, c1.g0, faC_get hkl]
        refine ⟨by omega, (rord_at (x := l[k]) (y := f) .cs .cs (hls _ (List.getElem_mem hkl)) hf).mono ?_⟩
        rintro _ σ1 ⟨rfl, rfl⟩
        simp only [go_sem, r_block, d3, f0, f5]
      case' neg =>
        have d1 := decide_eq_false (show ¬ (k : Int) < l.length by omega)
        simp only [go_sem, r_block, f0, f3, f5, d1]
        refine aDraw_plan [.rd 0 false, .rd 1 false, .rd 2 false, .rd 3 false, .rd 4 false, .rd 5 false, .rd 6 false, .rd 7 false, .rd 8 true, .rd 9 true, .ef 10 [], .rd 11 false, .rd 12 false] (by kernel_rfl) (by kernel_rfl) (by kernel_rfl) ?_
        simp only [go_sem, r_block, f0, f3, f5, d1]
      all_goals
        refine sli_upto (by omega) (by rw [faC_len]; omega) ?_
        simp only [go_sem, r_block]
        refine aApp_by (ys := (faC l).take k) (by simp [src]) (by decide) (by decide) (by decide) (LAt.full.app (by rw [List.length_take, faC_len]; simp only [List.length_nil]; omega) fun l1 σ2 h1 e1 => ?_)
        have G1 : Grow σ1 σ2 l1 := fun y p hy => e1 y p hy own_no_fsl
        simp only [go_sem, r_block, f3, G1.sub _ _ c1.g0]
        refine aApp_by (ys := [f.cs]) (by rfl) (by decide) (by decide) (by decide) (h1.app (by rw [List.nil_append, List.length_take, faC_len]; simp only [List.length_nil, List.length_cons]; omega) fun l2 σ3 h2 e2 => ?_)
        have G2 := G1.step e2
        simp only [go_sem, r_block, f0, f5]
        refine sli_from (by omega) (by rw [faC_len]; omega) ?_
        simp only [go_sem, r_block]
        refine aApp_by (ys := (faC l).drop k) (by simp [src]) (by decide) (by decide) (by decide) (h2.app (by simp only [List.nil_append, List.length_append, List.length_take, List.length_drop, faC_len, List.length_nil, List.length_cons]; omega) fun l3 σ4 h3 e3 => ?_)
        have G3 := G2.step e3
        rw [faC_ins, ← hins] at h3
        simp only [go_sem, r_block]
        exact aRet_view (r := l3) rfl _ σ (ret_sl h3 fun y o hy => G3 y o (c1.sub y o hy)) ⟨rfl, rfl⟩
theorem rsorted_at (l : List Fa) (hl : l.length ≤ 1000000) (hls : ∀ x ∈ l, x.Sm) : AT Tryz.prog 71 [.sl 4 (faC l)] σ fun v σ' => v = .sl 4 (faC (insS cmpF [] l)) ∧ σ' = σ := by
  refine AT.of_body Tryz.func71 rfl (by decide) (by kernel_rfl) (by kernel_rfl) (Nat.le_of_ble_eq_true rfl) ?_
  simp only [go_sem, r_block]
  refine ⟨fun m fr σ' => ∃ (k : Nat) (v : AV), m = l.length - k ∧ k ≤ l.length ∧ σ' = σ ∧ VW σ σ v (.sl 4 (faC (insS cmpF [] (l.take k)))) ∧ fr 0 = .sl 4 (faC l) ∧ fr 3 = v ∧ fr 4 = int k, ⟨_, 0, nilS, rfl, by omega, rfl, .nil 4, rfl, rfl, rfl⟩, ?_⟩
  rintro m fr σ ⟨k, v, rfl, hk, rfl, hv, f0, f3, f4⟩
  simp only [go_sem, f0, f4]
  refine aIf_by (fun hlt => ?_) (fun hlt => ?_)
  · have hkl : k < l.length := by omega
    have hlen := insS_len (c := cmpF) (s := []) (l := l.take k)
    have hsm : ∀ x ∈ insS cmpF [] (l.take k), x.Sm := fun x hx => by
      rcases (insS_mem cmpF_ord).1 hx with h | h
      · exact hls x (List.mem_of_mem_take h)
      · cases h
    simp only [List.length_nil, List.length_take] at hlen
    simp only [go_sem, r_block, f0, f3, f4, faC_get hkl]
    refine ⟨by omega, (AT.weak (with_at (insS cmpF [] (l.take k)) l[k] (by omega) hsm (hls _ (List.getElem_mem hkl))) (vws_cons hv (vws_refl _))).mono ?_⟩
    rintro _ σ ⟨rfl, rfl⟩
    simp only [go_sem, r_block, f0, f4, next64 (show k < 9223372036854775807 by omega)]
    have hv' : VW σ σ (.sl 4 (faC (insF cmpF l[k] (insS cmpF [] (l.take k))))) (.sl 4 (faC (insS cmpF [] (l.take (k + 1))))) := by
      rw [List.take_add_one, List.getElem?_eq_getElem hkl, insS_app]
      exact .refl _
    refine ⟨l.length - (k + 1), by omega, k + 1, .sl 4 (faC (insF cmpF l[k] (insS cmpF [] (l.take k)))), ?_⟩
    (and_intros <;> first | assumption | rfl | omega)
  · rw [List.take_of_length_le (by omega)] at hv
    simp only [go_sem, r_block, f3]
    exact aRet_view (r := v) rfl _ σ (view_of (sv_of fun x o hx => .inl hx) hv) ⟨rfl, rfl⟩
end
end Go.Proofs.YthdfpankebjleaaGreat

/-
  A literal made a fact, as both packages reckon it.
  Conditions: none.
-/
namespace Go.Proofs.YthdfpankebjleaaGreat
open Go Go.Av

theorem uni_len {t : Tm} {c : Cn} {env e : List Bi} (h : uniF t c env = some e) : e.length ≤ env.length + 1 := by
  unfold uniF at h
  split at h
  · split at h
    · injection h with h; subst h; omega
    · cases h
  · split at h
    · cases h
    · injection h with h; subst h; simp
theorem unis_len {l : List (Tm × Cn)} : ∀ {env e : List Bi}, uniS l env = some e → e.length ≤ env.length + l.length := by
  induction l with
  | nil => intro env e h; injection h with h; subst h; simp
  | cons p l ih =>
    intro env e h
    obtain ⟨m, h1, h2⟩ := Option.bind_eq_some_iff.1 h
    have := uni_len h1
    have := ih h2
    simp only [List.length_cons]
    omega
theorem lit_len {ho : Tm} {l : Li} {f : Fa} {env e : List Bi} (h : litF ho l f env = some e) : e.length ≤ env.length + l.ar.length + 2 := by
  unfold litF at h
  split at h
  · have := unis_len h
    unfold eqs at this
    simp only [List.length_cons, List.length_append, List.length_zip] at this
    split at this <;> simp only [List.length_nil, List.length_cons] at this <;> omega
  · cases h
theorem unis_app {l m : List (Tm × Cn)} : ∀ {env : List Bi}, uniS (l ++ m) env = (uniS l env).bind (uniS m) := by
  induction l with
  | nil => intro env; rfl
  | cons p l ih =>
    intro env
    show (uniF p.1 p.2 env).bind (uniS (l ++ m)) = _
    cases h : uniF p.1 p.2 env with
    | none => simp [uniS, h]
    | some e => simp only [Option.bind_some, uniS, h]; exact ih
/-- Behind the arguments up to place i. -/
theorem unis_take {a : List Tm} {b : List Cn} {i : Nat} (h1 : i < a.length) (h2 : i < b.length) (env : List Bi) : uniS ((a.take (i + 1)).zip (b.take (i + 1))) env = (uniS ((a.take i).zip (b.take i)) env).bind (uniF a[i] b[i]) := by
  rw [List.take_add_one, List.take_add_one, List.getElem?_eq_getElem h1, List.getElem?_eq_getElem h2, List.zip_append (by simp; omega), unis_app]
  congr 1
  funext e
  simp [uniS]
def litA (ho : Tm) (l : Li) (f : Fa) (env : List Bi) : Option (List Bi) := (uniF (orT l.at' ho) (nmC f.at') env).bind fun e => if l.by' = .zero then (if f.by' = f.at' then some e else none) else uniF l.by' (nmC f.by') e
theorem lit_eq {ho : Tm} {l : Li} {f : Fa} {env : List Bi} : litF ho l f env = if l.nm = f.pr ∧ l.ar.length = f.ar.length then (litA ho l f env).bind (uniS (l.ar.zip f.ar)) else none := by
  unfold litF fits eqs litA
  by_cases h : l.nm = f.pr ∧ l.ar.length = f.ar.length
  · rw [if_pos h, decide_eq_true h.1, decide_eq_true h.2]
    simp only [Bool.true_and]
    by_cases h0 : l.by' = .zero
    · rw [if_pos h0]
      by_cases h1 : f.by' = f.at'
      · rw [if_pos (by simp [h1])]
        simp only [uniS, List.nil_append, h0, h1, if_true]
        cases uniF (orT l.at' ho) (nmC f.at') env <;> rfl
      · rw [if_neg (by simp [h0, h1])]
        simp only [h0, h1, if_true, if_false]
        cases uniF (orT l.at' ho) (nmC f.at') env <;> rfl
    · rw [if_neg h0, if_pos (by simp [h0])]
      simp only [uniS, List.cons_append, List.nil_append, h0, if_false]
      cases uniF (orT l.at' ho) (nmC f.at') env <;> rfl
  · rw [if_neg h, if_neg]
    intro h'
    simp only [Bool.and_eq_true, decide_eq_true_eq] at h'
    exact h h'.1
section
variable {P : Program} {res : List ResultVar} {fr : Fr} {σ σ' : St} {o : Option (List Bi)}
theorem ret_fail (hr : aResult P fr σ' res = some (.tup [nilS, boo false])) (hs : ∀ y o, σ y = some o → σ' y = some o) (ho : o = none) : aRet P (fun r σ'' => r = resU o ∧ σ'' = σ) res fr σ' :=
  aRet_view hr (resU none) σ (ret_nil2 hs _) ⟨by rw [ho], rfl⟩
theorem ret_env {e : List Bi} (hr : aResult P fr σ' res = some (.tup [.sl 4 (biC e), boo true])) (hs : ∀ y o, σ y = some o → σ' y = some o) (ho : o = some e) : aRet P (fun r σ'' => r = resU o ∧ σ'' = σ) res fr σ' :=
  aRet_view hr (resU (some e)) σ (view_drop hs) ⟨by rw [ho], rfl⟩
end
theorem litF_off {ho : Tm} {l : Li} {f : Fa} {env : List Bi} (h : ¬ (l.nm = f.pr ∧ l.ar.length = f.ar.length)) : litF ho l f env = none := by rw [lit_eq, if_neg h]
theorem litF_on {ho : Tm} {l : Li} {f : Fa} {env : List Bi} (h1 : l.nm = f.pr) (h2 : l.ar.length = f.ar.length) : litF ho l f env = (litA ho l f env).bind (uniS (l.ar.zip f.ar)) := by rw [lit_eq, if_pos ⟨h1, h2⟩]
section
variable {σ : St}
theorem rlit_at (ho : Tm) (l : Li) (f : Fa) (env : List Bi) (hl : env.length ≤ 100000) (ha : l.ar.length ≤ 100000) : AT Tryz.prog 88 [.agg ho.cs, .agg l.cs, .agg f.cs, .sl 4 (biC env)] σ fun r σ' => r = resU (litF ho l f env) ∧ σ' = σ := by
  refine AT.of_body Tryz.func88 rfl (by decide) (by kernel_rfl) (by kernel_rfl) (Nat.le_of_ble_eq_true rfl) ?_
  simp only [go_sem]
  refine Ctx.nil.alloc fun p σ1 c1 => ?_
  simp only [go_sem]
  refine c1.alloc fun q σ2 c2 => ?_
  simp only [go_sem]
  refine c2.alloc fun x σ3 c3 => ?_
  by_cases h1 : l.nm = f.pr
  · simp only [go_sem, c3.g2, h1]
    refine aIf_by (fun h2 => ?_) (fun h2 => ?_)
    · have h2 : l.ar.length = f.ar.length := by omega
      have hlf := litF_on (ho := ho) (env := env) h1 h2
      simp only [go_sem, c3.g2]
      refine c3.alloc fun r σ4 c4 => ?_
      obtain ⟨σ5, e5, c5⟩ := c4.abs 0 rfl (.cells l.at'.cs)
      simp only [go_sem, c4.g3, e5, c5.g3]
      refine (none_at l.at').mono ?_
      rintro _ σ5 ⟨rfl, rfl⟩
      simp only [go_sem]
      refine aIf_meet (fun fr σ' => Ctx σ [(r, .cells (orT l.at' ho).cs), (x, .cells f.cs), (q, .cells l.cs), (p, .cells ho.cs)] σ' ∧ fr 3 = .sl 4 (biC env) ∧ fr 4 = ptr p ∧ fr 5 = ptr q ∧ fr 6 = ptr x ∧ fr 10 = ptr r) (fun h0 => ?_) (fun h0 => ?_) ?_
      · obtain ⟨σ6, e6, c6⟩ := c5.abs 0 rfl (.cells ho.cs)
        simp only [go_sem, c5.g3, e6]
        unfold orT; rw [if_pos h0]; exact c6
      · simp only [go_sem]
        unfold orT; rw [if_neg h0]; exact c5
      clear c5 c4 e5
      rintro fr σ6 ⟨c6, f3, f4, f5, f6, f10⟩
      simp only [go_sem]
      refine aDraw_plan [.rd 0 true, .rd 1 false, .rd 2 true, .rd 4 false, .ef 3 [0], .ef 5 [], .rd 6 false, .rd 7 false, .rd 8 false, .rd 9 false, .rd 10 false] (by kernel_rfl) (by kernel_rfl) (by kernel_rfl) ?_
      simp only [go_sem, f3, f6, f10, c6.g3]
      refine (name_at f.at').mono ?_
      rintro _ σ6 ⟨rfl, rfl⟩
      simp only [go_sem, f3, f6, f10, c6.g3]
      refine (runify_at (orT l.at' ho) (nmC f.at') env (by omega)).mono ?_
      rintro _ σ6 ⟨rfl, rfl⟩
      simp only [go_sem]
      cases hu : uniF (orT l.at' ho) (nmC f.at') env with
      | none =>
        have hn : litF ho l f env = none := by rw [hlf]; unfold litA; rw [hu]; rfl
        simp only [go_sem]
        exact ret_fail rfl c6.sub hn
      | some e =>
        have he := uni_len hu
        simp only [go_sem, f5, c6.g3]
        refine (none_at l.by').mono ?_
        rintro _ σ6 ⟨rfl, rfl⟩
        simp only [go_sem]
        refine aIf_meet (fun fr σ' => ∃ e2, σ' = σ6 ∧ litA ho l f env = some e2 ∧ e2.length ≤ env.length + 2 ∧ fr 5 = ptr q ∧ fr 6 = ptr x ∧ fr 11 = .sl 4 (biC e2)) (fun h0 => ?_) (fun h0 => ?_) ?_
        · by_cases h3 : f.by' = f.at'
          · have ht : litA ho l f env = some e := by unfold litA; rw [hu]; simp [h0, h3]
            simp only [go_sem, f6, c6.g3, h3]
            refine ⟨e, ?_⟩
            (and_intros <;> first | assumption | rfl | omega)
          · have hn : litF ho l f env = none := by rw [hlf]; unfold litA; rw [hu]; simp [h0, h3]
            simp only [go_sem, f6, c6.g3, h3]
            exact ret_fail rfl c6.sub hn
        · simp only [go_sem]
          refine aDraw_plan [.rd 0 false, .rd 1 true, .rd 2 false, .rd 3 true, .rd 5 false, .ef 4 [1], .ef 6 [], .rd 7 false, .rd 8 false, .rd 9 false, .rd 10 false, .rd 11 false] (by kernel_rfl) (by kernel_rfl) (by kernel_rfl) ?_
          simp only [go_sem, f5, f6, c6.g3]
          refine (name_at f.by').mono ?_
          rintro _ σ6 ⟨rfl, rfl⟩
          simp only [go_sem, f5, f6, c6.g3]
          refine (runify_at l.by' (nmC f.by') e (by omega)).mono ?_
          rintro _ σ6 ⟨rfl, rfl⟩
          simp only [go_sem]
          cases hv : uniF l.by' (nmC f.by') e with
          | none =>
            have hn : litF ho l f env = none := by rw [hlf]; unfold litA; rw [hu]; simp [h0, hv]
            simp only [go_sem]
            exact ret_fail rfl c6.sub hn
          | some e2 =>
            have ht : litA ho l f env = some e2 := by unfold litA; rw [hu]; simp [h0, hv]
            have := uni_len hv
            simp only [go_sem]
            refine ⟨e2, ?_⟩
            (and_intros <;> first | assumption | rfl | omega)
        rintro fr σ' ⟨e2, rfl, ht, hl2, f5, f6, f11⟩
        rw [ht, Option.bind_some] at hlf
        clear f3 f4 f10
        simp only [go_sem, r_block]
        refine ⟨fun m fr σ'' => ∃ (i : Nat) (ei : List Bi), m = l.ar.length - i ∧ i ≤ l.ar.length ∧ σ'' = σ' ∧ uniS ((l.ar.take i).zip (f.ar.take i)) e2 = some ei ∧ fr 5 = ptr q ∧ fr 6 = ptr x ∧ fr 11 = .sl 4 (biC ei) ∧ fr 13 = int i, ⟨_, 0, e2, rfl, by omega, rfl, rfl, f5, f6, f11, rfl⟩, ?_⟩
        clear f5 f6 f11
        rintro m fr σ'' ⟨i, ei, rfl, hi, rfl, hI, f5, f6, f11, f13⟩
        have hei := unis_len hI
        simp only [List.length_zip, List.length_take] at hei
        simp only [go_sem, f5, f13, c6.g3]
        refine aIf_by (fun hlt => ?_) (fun hlt => ?_)
        · have hil : i < l.ar.length := by omega
          have hif : i < f.ar.length := by omega
          simp only [go_sem, r_block]
          refine aDraw_plan [.rd 0 false, .rd 1 true, .rd 2 false, .rd 3 false, .rd 4 true, .rd 5 false, .rd 6 true, .rd 7 false, .rd 8 false, .rd 9 true, .rd 10 false, .ef 11 [], .rd 12 false, .rd 13 false, .rd 14 false, .rd 15 false, .rd 16 false] (by kernel_rfl) (by kernel_rfl) (by kernel_rfl) ?_
          simp only [go_sem, r_block, f5, f6, f11, f13, c6.g3, tmC_get hil, cnC_get hif]
          refine ⟨by omega, by omega, (runify_at l.ar[i] f.ar[i] ei (by omega)).mono ?_⟩
          rintro _ σ6 ⟨rfl, rfl⟩
          have hs := unis_take hil hif e2
          rw [hI, Option.bind_some] at hs
          simp only [go_sem]
          cases hw : uniF l.ar[i] f.ar[i] ei with
          | none =>
            rw [hw] at hs
            have hn : litF ho l f env = none := by
              rw [hlf]
              have e1 : l.ar.zip f.ar = (l.ar.take (i + 1)).zip (f.ar.take (i + 1)) ++ (l.ar.drop (i + 1)).zip (f.ar.drop (i + 1)) := by
                rw [← List.zip_append (by simp; omega), List.take_append_drop, List.take_append_drop]
              rw [e1, unis_app, hs]
              rfl
            simp only [go_sem]
            exact ret_fail rfl c6.sub hn
          | some e3 =>
            rw [hw] at hs
            simp only [go_sem, f5, f6, f13, next64 (show i < 9223372036854775807 by omega)]
            refine ⟨l.ar.length - (i + 1), by omega, i + 1, e3, ?_⟩
            (and_intros <;> first | assumption | rfl | omega)
        · rw [List.take_of_length_le (by omega), List.take_of_length_le (by omega)] at hI
          simp only [go_sem, f11]
          exact ret_env rfl c6.sub (by rw [hlf, hI])
    · have hn : litF ho l f env = none := litF_off fun h => h2 (by rw [h.2])
      simp only [go_sem]
      exact ret_fail rfl c3.sub hn
  · have hn : litF ho l f env = none := litF_off fun h => h1 h.1
    simp only [go_sem, c3.g2, h1]
    exact ret_fail rfl c3.sub hn
end
end Go.Proofs.YthdfpankebjleaaGreat

/-
  What follows at once, as the document reckons it: its walk.
  Conditions: none.
-/
namespace Go.Proofs.YthdfpankebjleaaGreat
open Go Go.Av

/-- A world of the document's, with what was done. -/
def wC (homes names : List ByteArray) (d : Nat) : List AV := [.sl 1 (stC homes), .sl 1 (stC names), int d, boo (decide (60000 < d))]
@[go_sem] theorem wC_len (h n : List ByteArray) (d : Nat) : (wC h n d).length = 4 := rfl
@[go_sem] theorem wC_0 (h n : List ByteArray) (d : Nat) : (wC h n d).getD 0 (.v undef) = .sl 1 (stC h) := rfl
@[go_sem] theorem wC_1 (h n : List ByteArray) (d : Nat) : (wC h n d).getD 1 (.v undef) = .sl 1 (stC n) := rfl
@[go_sem] theorem wC_2 (h n : List ByteArray) (d : Nat) : (wC h n d).getD 2 (.v undef) = int d := rfl
@[go_sem] theorem wC_3 (h n : List ByteArray) (d : Nat) : (wC h n d).getD 3 (.v undef) = boo (decide (60000 < d)) := rfl
/-- A rule that is small in all its parts. -/
def Rl.S4 (r : Rl) : Prop := r.S3 ∧ r.ar.length ≤ 300
theorem vals_len : ∀ {l : List Tm} {env : List Bi} {a : List Cn}, valsF l env = some a → a.length = l.length
  | [], env, a, h => by injection h with h; subst h; rfl
  | t :: l, env, a, h => by
    unfold valsF at h
    split at h
    · obtain ⟨b, h1, rfl⟩ := Option.map_eq_some_iff.1 h
      rw [List.length_cons, List.length_cons, vals_len h1]
    · cases h
theorem hd_sm {names : List ByteArray} {r : Rl} {env : List Bi} {f : Fa} (hr : r.S4) (h : hdN names r env = some f) : f.Sm := by
  unfold hdN at h
  split at h
  · rename_i g hg
    split at h
    · injection h with h
      subst h
      unfold headF at hg
      obtain ⟨b, _, hg⟩ := Option.bind_eq_some_iff.1 hg
      obtain ⟨a, _, hg⟩ := Option.bind_eq_some_iff.1 hg
      obtain ⟨l, hl, rfl⟩ := Option.map_eq_some_iff.1 hg
      have := vals_len hl
      have := hr.2
      unfold Fa.Sm
      show l.length ≤ _
      omega
    · cases h
  · cases h
theorem frE_sm {names : List ByteArray} {m : List Fa} {r : Rl} (hr : r.S4) : ∀ (ls : List Li) (env : List Bi) (s : List Fa × Nat), (∀ f ∈ s.1, f.Sm) → ∀ f ∈ (frE names m r ls env s).1, f.Sm
  | [], env, s, h => by
    show ∀ f ∈ (match hdN names r env with
      | some f => insF cmpF f s.1
      | none => s.1), f.Sm
    split
    · rename_i g hg
      intro f hf
      rcases (ins_mem cmpF_ord).1 hf with rfl | hf
      · exact hd_sm hr hg
      · exact h f hf
    · exact h
  | l :: ls, env, s, h => by
    rw [frE_cons]
    refine foldl_inv (p := fun t : List Fa × Nat => ∀ f ∈ t.1, f.Sm) (fun t x ht => ?_) m s h
    unfold stE
    split
    · exact ht
    · split
      · exact frE_sm hr ls _ _ ht
      · exact ht
section
variable {σ : St} {x : Nat}
theorem from12_at (homes names : List ByteArray) (r : Rl) (m : List Fa) (c : Nat) (hr : r.S4) (hm : m.length ≤ 1000000) (hn : names.length ≤ 1000000) (hc : c ≤ 100000) : ∀ (n k : Nat) {σ : St} {env : List Bi} {out : List Fa} {d : Nat}, k + n = r.bo.length → env.length ≤ 10 + 302 * k → σ x = some (.cells (wC homes names d)) → out.length ≤ d + c → d ≤ 60001 → (∀ f ∈ out, f.Sm) →
    AT Tryz.prog 46 [ptr x, .agg r.cs, int k, .sl 4 (faC m), .sl 4 (biC env), .sl 4 (faC out)] σ fun v σ' => v = .sl 4 (faC (frE names m r (r.bo.drop k) env (out, d)).1) ∧ σ' = σ.set x (.cells (wC homes names (frE names m r (r.bo.drop k) env (out, d)).2)) := by
  intro n
  induction n with
  | zero =>
    intro k σ env out d hk he hx ho hd hos
    refine AT.of_body Tryz.func46 rfl (by decide) (by kernel_rfl) (by kernel_rfl) (Nat.le_of_ble_eq_true rfl) ?_
    have hr1 := hr.1.1
    have hr2 := hr.2
    rw [List.drop_of_length_le (by omega)]
    have e2 : (frE names m r [] env (out, d)).2 = d := rfl
    rw [e2, set_id hx]
    simp only [go_sem]
    refine Ctx.nil.alloc fun p σ1 c1 => ?_
    have dd := decide_eq_true (show (k : Int) = r.bo.length by omega)
    simp only [go_sem, c1.g0, dd]
    refine (rhead_at r env (by omega) (by omega)).mono ?_
    rintro _ σ1 ⟨rfl, rfl⟩
    simp only [go_sem]
    refine c1.alloc fun q σ2 c2 => ?_
    have hx2 := c2.sub _ _ hx
    cases hh : headF r env with
    | none =>
      have e1 : (frE names m r [] env (out, d)).1 = out := by
        show (match hdN names r env with
          | some f => insF cmpF f out
          | none => out) = out
        unfold hdN; rw [hh]
      obtain ⟨σ3, e3, c3⟩ := c2.abs 0 rfl (.cells Fa.nil.cs)
      have e0 : ((none : Option Fa).getD .nil).cs = Fa.nil.cs := rfl
      simp only [go_sem, c2.g1, e0, e3]
      refine aDraw_plan [.rd 0 false, .rd 1 false, .rd 2 false, .rd 3 false, .rd 4 false, .rd 5 true, .rd 6 false, .rd 7 true, .ef 8 [], .rd 9 false] (by kernel_rfl) (by kernel_rfl) (by kernel_rfl) ?_
      simp only [go_sem, c3.g1]
      exact aRet_view (r := .sl 4 (faC out)) rfl _ σ (c3.view _) ⟨by rw [e1], rfl⟩
    | some f =>
      obtain ⟨σ3, e3, c3⟩ := c2.abs 0 rfl (.cells f.cs)
      have e0 : ((some f).getD .nil).cs = f.cs := rfl
      have hx3 := c3.sub _ _ hx
      simp only [go_sem, c2.g1, e0, e3]
      refine aDraw_plan [.rd 0 false, .rd 1 false, .rd 2 false, .rd 3 false, .rd 4 false, .rd 5 true, .rd 6 false, .rd 7 true, .ef 8 [], .rd 9 false] (by kernel_rfl) (by kernel_rfl) (by kernel_rfl) ?_
      simp only [go_sem, c3.g1, hx3]
      refine (inN_at (by omega)).mono ?_
      rintro _ σ3 ⟨rfl, rfl⟩
      simp only [go_sem]
      by_cases hin : f.at' ∈ names
      · have hhd : hdN names r env = some f := by unfold hdN; rw [hh]; simp only; rw [if_pos hin]
        have e1 : (frE names m r [] env (out, d)).1 = insF cmpF f out := by
          show (match hdN names r env with
            | some f => insF cmpF f out
            | none => out) = _
          rw [hhd]
        have di := decide_eq_true hin
        simp only [go_sem, di, c3.g1]
        refine (with_at out f (by omega) hos (hd_sm hr hhd)).mono ?_
        rintro _ σ3 ⟨rfl, rfl⟩
        simp only [go_sem]
        exact aRet_view (r := .sl 4 (faC (insF cmpF f out))) rfl _ σ (c3.view _) ⟨by rw [e1], rfl⟩
      · have hhd : hdN names r env = none := by unfold hdN; rw [hh]; simp only; rw [if_neg hin]
        have e1 : (frE names m r [] env (out, d)).1 = out := by
          show (match hdN names r env with
            | some f => insF cmpF f out
            | none => out) = _
          rw [hhd]
        have di := decide_eq_false hin
        simp only [go_sem, di]
        exact aRet_view (r := .sl 4 (faC out)) rfl _ σ (c3.view _) ⟨by rw [e1], rfl⟩
  | succ n ih =>
    intro k σ env out d hk he hx ho hd hos
    refine AT.of_body Tryz.func46 rfl (by decide) (by kernel_rfl) (by kernel_rfl) (Nat.le_of_ble_eq_true rfl) ?_
    have hr1 := hr.1.1
    have hkn : k < r.bo.length := by omega
    have hlk := hr.1.2 _ (List.getElem_mem hkn)
    have ed : r.bo.drop k = r.bo[k] :: r.bo.drop (k + 1) := List.drop_eq_getElem_cons hkn
    rw [ed, frE_cons]
    obtain ⟨S0, hS0⟩ : ∃ S0, S0 = m.foldl (stE names m r r.bo[k] (r.bo.drop (k + 1)) env) (out, d) := ⟨_, rfl⟩
    rw [← hS0]
    simp only [go_sem]
    refine Ctx.nil.alloc fun p σ1 c1 => ?_
    have hxp : x ≠ p := fun e => by
      have := c1.f0
      rw [← e, hx] at this; cases this
    have hx1 := c1.sub _ _ hx
    have dd := decide_eq_false (show ¬ (k : Int) = r.bo.length by omega)
    simp only [go_sem, r_block, c1.g0, dd]
    refine ⟨fun mm fr σ' => ∃ (i : Nat) (s : List Fa × Nat), mm = m.length - i ∧ i ≤ m.length ∧ σ' = σ1.set x (.cells (wC homes names s.2)) ∧ (m.drop i).foldl (stE names m r r.bo[k] (r.bo.drop (k + 1)) env) s = S0 ∧ s.1.length ≤ s.2 + (c + 1) ∧ s.2 ≤ 60001 ∧ (∀ f ∈ s.1, f.Sm) ∧ fr 0 = ptr x ∧ fr 2 = int k ∧ fr 3 = .sl 4 (faC m) ∧ fr 4 = .sl 4 (biC env) ∧ fr 5 = .sl 4 (faC s.1) ∧ fr 7 = ptr p ∧ fr 15 = int i, ⟨_, 0, (out, d), rfl, by omega, (set_id hx1).symm, by rw [hS0]; rfl, by simp only; omega, hd, hos, rfl, rfl, rfl, rfl, rfl, rfl, rfl⟩, ?_⟩
    rintro mm fr σ2 ⟨i, s, rfl, hi, rfl, hI, hs1, hs2, hs3, f0, f2, f3, f4, f5, f7, f15⟩
    have hp2 : ∀ d', (σ1.set x (.cells (wC homes names d'))) p = some (.cells r.cs) := fun d' => by rw [set_ne (Ne.symm hxp)]; exact c1.g0
    have fin : ∀ {fr : Fr}, S0 = s → aResult Tryz.prog fr (σ1.set x (.cells (wC homes names s.2))) (Tryz.f46).results.toList = some (.sl 4 (faC s.1)) → aRet Tryz.prog (fun v σ' => v = .sl 4 (faC S0.1) ∧ σ' = σ.set x (.cells (wC homes names S0.2))) (Tryz.f46).results.toList fr (σ1.set x (.cells (wC homes names s.2))) := fun e hr => by
      rw [e]
      refine aRet_view hr _ (σ.set x (.cells (wC homes names s.2))) (view_drop fun y o hy => ?_) ⟨rfl, rfl⟩
      by_cases e : y = x
      · subst e; rw [set_same] at hy ⊢; exact hy
      · rw [set_ne e] at hy ⊢; exact c1.sub y o hy
    by_cases hlt : i < m.length
    · have d1 := decide_eq_true (show (i : Int) < m.length by omega)
      by_cases hh : 60000 < s.2
      · have d2 := decide_eq_true hh
        simp only [go_sem, r_block, f0, f3, f5, f15, d1, set_same, d2]
        exact fin (by rw [← hI, stE_heavy hh]) rfl
      · have d2 := decide_eq_false hh
        have w1 : IntKind.i64.wrap ((s.2 : Int) + 1) = ((s.2 + 1 : Nat) : Int) := next64 (by omega)
        have es2 : ∀ y : AV, splice (wC homes names s.2) 2 [y] = [.sl 1 (stC homes), .sl 1 (stC names), y, boo (decide (60000 < s.2))] := fun y => rfl
        simp only [go_sem, r_block, f0, f3, f5, f15, d1, set_same, d2, w1, es2, set_set]
        refine aIf_meet (fun fr σ' => σ' = σ1.set x (.cells (wC homes names (s.2 + 1))) ∧ fr 0 = ptr x ∧ fr 2 = int k ∧ fr 3 = .sl 4 (faC m) ∧ fr 4 = .sl 4 (biC env) ∧ fr 5 = .sl 4 (faC s.1) ∧ fr 7 = ptr p ∧ fr 15 = int i) (fun h0 => ?_) (fun h0 => ?_) ?_
        · simp only [go_sem, f0, set_same, set_set]
          have e9 : wC homes names (s.2 + 1) = [.sl 1 (stC homes), .sl 1 (stC names), .v (.int .i64 ((s.2 + 1 : Nat) : Int)), .v (.bool true)] := by unfold wC; rw [decide_eq_true (show 60000 < s.2 + 1 by omega)]
          rw [e9]
          (and_intros <;> first | assumption | rfl | omega)
        · simp only [go_sem, f0]
          have e9 : wC homes names (s.2 + 1) = [.sl 1 (stC homes), .sl 1 (stC names), .v (.int .i64 ((s.2 + 1 : Nat) : Int)), .v (.bool false)] := by unfold wC; rw [decide_eq_false (show ¬ 60000 < s.2 + 1 by omega)]
          rw [e9]
          (and_intros <;> first | assumption | rfl | omega)
        clear f0 f2 f3 f4 f5 f7 f15
        rintro fr _ ⟨rfl, f0, f2, f3, f4, f5, f7, f15⟩
        have hp3 := hp2 (s.2 + 1)
        simp only [go_sem]
        refine aDraw_plan [.rd 0 false, .rd 1 true, .rd 2 false, .rd 3 true, .rd 4 false, .rd 5 false, .rd 6 true, .rd 7 false, .rd 8 false, .rd 9 false, .rd 10 true, .rd 11 false, .ef 12 [], .rd 13 false, .rd 14 false, .rd 15 false, .rd 16 false, .rd 17 false] (by kernel_rfl) (by kernel_rfl) (by kernel_rfl) ?_
        simp only [go_sem, f2, f3, f4, f7, f15, hp3, liC_get hkn, faC_get hlt]
        refine ⟨by omega, by omega, (rlit_at r.ho r.bo[k] m[i] env (by omega) (by omega)).mono ?_⟩
        rintro _ _ ⟨rfl, rfl⟩
        have hstep : S0 = (m.drop (i + 1)).foldl (stE names m r r.bo[k] (r.bo.drop (k + 1)) env) (stE names m r r.bo[k] (r.bo.drop (k + 1)) env s m[i]) := by
          rw [← hI, List.drop_eq_getElem_cons hlt]; rfl
        cases hv : litF r.ho r.bo[k] m[i] env with
        | none =>
          have e1 : stE names m r r.bo[k] (r.bo.drop (k + 1)) env s m[i] = (s.1, s.2 + 1) := by unfold stE; rw [if_neg hh, hv]
          rw [e1] at hstep
          simp only [go_sem, r_block, f0, f2, f3, f4, f5, f7, f15, next64 (show i < 9223372036854775807 by omega)]
          refine ⟨m.length - (i + 1), by omega, i + 1, (s.1, s.2 + 1), ?_⟩
          have hI' := hstep.symm
          have k1 : s.1.length ≤ s.2 + 1 + (c + 1) := by omega
          have k2 : s.2 + 1 ≤ 60001 := by omega
          (and_intros <;> first | assumption | rfl | omega)
        | some e2 =>
          have e1 : stE names m r r.bo[k] (r.bo.drop (k + 1)) env s m[i] = frE names m r (r.bo.drop (k + 1)) e2 (s.1, s.2 + 1) := by unfold stE; rw [if_neg hh, hv]
          rw [e1] at hstep
          have hel := lit_len hv
          simp only [go_sem, r_block, f0, f2, f3, f5, f7, hp3, next64 (show k < 9223372036854775807 by omega)]
          refine (ih (k + 1) (by omega) (by simp only [Option.getD_some]; omega) set_same (by omega) (by omega) hs3).mono ?_
          rintro _ _ ⟨rfl, rfl⟩
          rw [set_set]
          have hb := frE_bd (names := names) (m := m) (r := r) (r.bo.drop (k + 1)) e2 (s.1, s.2 + 1) c (by simp only; omega) (by simp only; omega)
          have hsm := frE_sm (names := names) (m := m) hr (r.bo.drop (k + 1)) e2 (s.1, s.2 + 1) hs3
          simp only [go_sem, r_block, f0, f2, f3, f4, f7, f15, next64 (show i < 9223372036854775807 by omega)]
          refine ⟨m.length - (i + 1), by omega, i + 1, frE names m r (r.bo.drop (k + 1)) e2 (s.1, s.2 + 1), ?_⟩
          have hI' := hstep.symm
          have hb1 := hb.1
          have hb2 := hb.2
          (and_intros <;> first | assumption | rfl | omega)
    · have d1 := decide_eq_false (show ¬ (i : Int) < m.length by omega)
      simp only [go_sem, r_block, f0, f3, f5, f15, d1]
      exact fin (by rw [← hI, show m.drop i = [] from List.drop_of_length_le (by omega)]; rfl) rfl
end
end Go.Proofs.YthdfpankebjleaaGreat

/-
  What follows at once, and the least model, as the document reckons them.
  Conditions: none.
-/
namespace Go.Proofs.YthdfpankebjleaaGreat
open Go Go.Av

/-- How much there is at most, while it is reckoned. -/
def BdE (s : List Fa × Nat) (c : Nat) : Prop := s.1.length ≤ s.2 + c ∧ s.2 ≤ 60001 ∧ ∀ f ∈ s.1, f.Sm
theorem onHR_bd {names : List ByteArray} {m : List Fa} {r : Rl} {s : List Fa × Nat} {h : ByteArray} {c : Nat} (hr : r.S4) (hs : BdE s c) : BdE (onHR names m r s h) (c + 1) := by
  unfold onHR
  split
  · have := frE_bd (names := names) (m := m) (r := r) r.bo ‹_› s c hs.1 hs.2.1
    exact ⟨this.1, this.2, frE_sm hr _ _ _ hs.2.2⟩
  · exact ⟨by have := hs.1; omega, hs.2⟩
theorem onRR_bd {homes names : List ByteArray} {m : List Fa} {r : Rl} (hr : r.S4) : ∀ {hs : List ByteArray} {s : List Fa × Nat} {c : Nat}, BdE s c → BdE (hs.foldl (onHR names m r) s) (c + hs.length)
  | [], s, c, h => h
  | x :: hs, s, c, h => by
    have := onRR_bd (homes := homes) (names := names) (m := m) hr (hs := hs) (onHR_bd (names := names) (m := m) (h := x) hr h)
    rw [List.foldl_cons, List.length_cons, show c + (hs.length + 1) = c + 1 + hs.length by omega]
    exact this
theorem onceR_bd {homes names : List ByteArray} {m : List Fa} : ∀ {rs : List Rl} {s : List Fa × Nat} {c : Nat}, (∀ r ∈ rs, r.S4) → BdE s c → BdE (rs.foldl (onRR homes names m) s) (c + rs.length * homes.length)
  | [], s, c, _, h => by simpa using h
  | r :: rs, s, c, hr, h => by
    have := onceR_bd (homes := homes) (names := names) (m := m) (rs := rs) (fun q hq => hr q (by simp [hq])) (onRR_bd (homes := homes) (names := names) (m := m) (hr r (by simp)) (hs := homes) h)
    rw [List.foldl_cons, List.length_cons, Nat.succ_mul, show c + (rs.length * homes.length + homes.length) = c + homes.length + rs.length * homes.length by omega]
    exact this
section
variable {σ : St} {x : Nat}
theorem once12_at (homes names : List ByteArray) (rs : List Rl) (m : List Fa) (d : Nat) (hrs : ∀ r ∈ rs, r.S4) (hm : m.length ≤ 1000000) (hh : homes.length ≤ 8) (hn : names.length ≤ 1000000) (hrl : rs.length ≤ 1000) (hx : σ x = some (.cells (wC homes names d))) (hd : d ≤ 60001) :
    AT Tryz.prog 19 [ptr x, .sl 11 (rlC rs), .sl 4 (faC m)] σ fun v σ' => v = .sl 4 (faC (onceR homes names rs m d).1) ∧ σ' = σ.set x (.cells (wC homes names (onceR homes names rs m d).2)) := by
  refine AT.of_body Tryz.func19 rfl (by decide) (by kernel_rfl) (by kernel_rfl) (Nat.le_of_ble_eq_true rfl) ?_
  simp only [go_sem, r_block]
  refine ⟨fun mm fr σ' => ∃ (i : Nat) (s : List Fa × Nat) (v : AV), mm = rs.length - i ∧ i ≤ rs.length ∧ σ' = σ.set x (.cells (wC homes names s.2)) ∧ s = (rs.take i).foldl (onRR homes names m) ([], d) ∧ (v = nilS ∧ s.1 = [] ∨ v = .sl 4 (faC s.1)) ∧ fr 0 = ptr x ∧ fr 1 = .sl 11 (rlC rs) ∧ fr 2 = .sl 4 (faC m) ∧ fr 7 = v ∧ fr 8 = int i, ⟨_, 0, ([], d), nilS, rfl, by omega, (set_id hx).symm, rfl, .inl ⟨rfl, rfl⟩, rfl, rfl, rfl, rfl, rfl⟩, ?_⟩
  rintro mm fr _ ⟨i, s, v, rfl, hi, rfl, hs, hv, f0, f1, f2, f7, f8⟩
  have hB : BdE s (i * 8) := by
    have h0 : BdE ([], d) 0 := ⟨by simp, hd, fun f hf => by cases hf⟩
    have := onceR_bd (homes := homes) (names := names) (m := m) (rs := rs.take i) (fun r hr => hrs r (List.mem_of_mem_take hr)) h0
    rw [← hs, List.length_take, Nat.min_eq_left hi, Nat.zero_add] at this
    exact ⟨Nat.le_trans this.1 (by have := Nat.mul_le_mul_left i hh; omega), this.2⟩
  simp only [go_sem, f1, f8]
  refine aIf_by (fun hlt => ?_) (fun hlt => ?_)
  · have hil : i < rs.length := by omega
    obtain ⟨r, hr⟩ : ∃ r, r = rs[i] := ⟨_, rfl⟩
    have hr4 : r.S4 := by rw [hr]; exact hrs _ (List.getElem_mem hil)
    have er : (rlC rs).getD i [] = r.cs := by rw [hr]; exact rlC_get hil
    have hstep : (rs.take (i + 1)).foldl (onRR homes names m) ([], d) = onRR homes names m s r := by
      rw [List.take_add_one, List.getElem?_eq_getElem hil, List.foldl_append, ← hs, ← hr]; rfl
    simp only [go_sem, r_block]
    refine ⟨fun mm fr σ' => ∃ (j : Nat) (t : List Fa × Nat) (v : AV), mm = homes.length - j ∧ j ≤ homes.length ∧ σ' = σ.set x (.cells (wC homes names t.2)) ∧ t = (homes.take j).foldl (onHR names m r) s ∧ (v = nilS ∧ t.1 = [] ∨ v = .sl 4 (faC t.1)) ∧ fr 0 = ptr x ∧ fr 1 = .sl 11 (rlC rs) ∧ fr 2 = .sl 4 (faC m) ∧ fr 7 = v ∧ fr 8 = int i ∧ fr 9 = int j, ⟨_, 0, s, v, rfl, by omega, rfl, rfl, hv, f0, f1, f2, f7, f8, rfl⟩, ?_⟩
    clear hv f0 f1 f2 f7 f8 v fr
    rintro mm fr _ ⟨j, t, v, rfl, hj, rfl, ht, hv, f0, f1, f2, f7, f8, f9⟩
    have hBt : BdE t (i * 8 + j) := by
      have := onRR_bd (homes := homes) (names := names) (m := m) hr4 (hs := homes.take j) hB
      rw [← ht, List.length_take, Nat.min_eq_left hj] at this
      exact this
    simp only [go_sem, f0, f9, set_same]
    refine aIf_by (fun hlt2 => ?_) (fun hlt2 => ?_)
    · have hjl : j < homes.length := by omega
      have hst2 : (homes.take (j + 1)).foldl (onHR names m r) s = onHR names m r t homes[j] := by
        rw [List.take_add_one, List.getElem?_eq_getElem hjl, List.foldl_append, ← ht]; rfl
      simp only [go_sem, r_block]
      refine aDraw_plan [.rd 0 false, .rd 1 false, .rd 2 false, .rd 3 false, .rd 4 true, .rd 5 false, .rd 6 false, .rd 7 false, .rd 8 true, .rd 9 false, .rd 10 false, .rd 11 true, .ef 12 [4], .ef 13 [], .rd 14 false, .rd 15 false, .rd 16 false, .rd 17 false, .rd 18 false] (by kernel_rfl) (by kernel_rfl) (by kernel_rfl) ?_
      simp only [go_sem, r_block, f0, f1, f8, f9, er, set_same, stC_get hjl]
      refine ⟨by omega, by omega, (name_at homes[j]).mono ?_⟩
      rintro _ _ ⟨rfl, rfl⟩
      simp only [go_sem, r_block, f0, f1, f8, f9, er, set_same, stC_get hjl]
      refine (AT.weak (runify_at r.ho (nmC homes[j]) [] (by simp)) (vws_same (vws_same (vws_cons (.nil 4) vws_nil)))).mono ?_
      rintro _ _ ⟨rfl, rfl⟩
      cases hu : uniF r.ho (nmC homes[j]) [] with
      | none =>
        have e1 : onHR names m r t homes[j] = t := by unfold onHR; rw [hu]
        rw [e1] at hst2
        simp only [go_sem, r_block, f0, f1, f2, f7, f8, f9, next64 (show j < 9223372036854775807 by omega)]
        refine ⟨homes.length - (j + 1), by omega, j + 1, t, v, rfl, by omega, rfl, hst2.symm, hv, ?_⟩
        (and_intros <;> first | assumption | rfl | omega)
      | some env =>
        have e1 : onHR names m r t homes[j] = frE names m r r.bo env t := by unfold onHR; rw [hu]
        rw [e1] at hst2
        have hel := uni_len hu
        simp only [List.length_nil] at hel
        have hvw : ∀ σ', VW σ' σ' v (.sl 4 (faC t.1)) := fun σ' => by
          rcases hv with ⟨rfl, h0⟩ | rfl
          · rw [h0]; exact .nil 4
          · exact .refl _
        simp only [go_sem, r_block, f0, f1, f2, f7, f8, er, set_same]
        refine ⟨by omega, (AT.weak (from12_at homes names r m (i * 8 + j) hr4 hm hn (by omega) r.bo.length 0 (env := env) (out := t.1) (d := t.2) (by omega) (by omega) set_same hBt.1 hBt.2.1 hBt.2.2) (vws_same (vws_same (vws_same (vws_same (vws_same (vws_cons (hvw _) vws_nil))))))).mono ?_⟩
        rintro _ _ ⟨rfl, rfl⟩
        rw [set_set]
        simp only [go_sem, r_block, f0, f1, f2, f8, f9, next64 (show j < 9223372036854775807 by omega)]
        refine ⟨homes.length - (j + 1), by omega, j + 1, frE names m r r.bo env t, .sl 4 (faC (frE names m r r.bo env t).1), rfl, by omega, rfl, hst2.symm, .inr rfl, ?_⟩
        (and_intros <;> first | assumption | rfl | omega)
    · rw [List.take_of_length_le (by omega)] at ht
      simp only [go_sem, r_block, f0, f1, f2, f7, f8, next64 (show i < 9223372036854775807 by omega)]
      refine ⟨rs.length - (i + 1), by omega, i + 1, t, v, rfl, by omega, rfl, ?_, hv, ?_⟩
      · rw [hstep, ht]; rfl
      · (and_intros <;> first | assumption | rfl | omega)
  · rw [List.take_of_length_le (by omega)] at hs
    have e : s = onceR homes names rs m d := hs
    simp only [go_sem, r_block, f7]
    refine aRet_view (r := v) rfl (.sl 4 (faC s.1)) _ (view_of (sv_of fun y o hy => .inl hy) ?_) ⟨by rw [e], by rw [e]⟩
    rcases hv with ⟨rfl, h0⟩ | rfl
    · rw [h0]; exact .nil 4
    · exact .refl _
end
end Go.Proofs.YthdfpankebjleaaGreat

/-
  The least model: plain; and as the document reckons it.
  Conditions: none.
-/
namespace Go.Proofs.YthdfpankebjleaaGreat
open Go Go.Av

section
variable {homes names : List ByteArray} {rs : List Rl} {m : List Fa}
theorem onHR_ge {r : Rl} {s : List Fa × Nat} {h : ByteArray} : s.2 ≤ (onHR names m r s h).2 := by
  unfold onHR
  split
  · exact frE_ge _ _ _
  · exact Nat.le_refl _
theorem onRR_ge {r : Rl} {s : List Fa × Nat} : s.2 ≤ (onRR homes names m s r).2 := foldl_inv (p := fun t : List Fa × Nat => s.2 ≤ t.2) (fun t x ht => Nat.le_trans ht onHR_ge) homes s (Nat.le_refl _)
theorem onHR_ok {r : Rl} {s : List Fa × Nat} {h : ByteArray} (hd : (onHR names m r s h).2 ≤ 60000) : (onHR names m r s h).1 = insS cmpF s.1 (onceH names m r h) ∧ cntH m r h + s.2 ≤ (onHR names m r s h).2 + 1 := by
  unfold onHR onceH cntH at *
  cases hu : uniF r.ho (nmC h) [] with
  | none => exact ⟨rfl, by simp⟩
  | some env =>
    rw [hu] at hd
    obtain ⟨h1, h2⟩ := frE_ok (names := names) (m := m) (r := r) r.bo env s hd
    refine ⟨h1, ?_⟩
    simp only
    split at h2 <;> omega
theorem onRR_ok {r : Rl} : ∀ {hs : List ByteArray} {s : List Fa × Nat}, (hs.foldl (onHR names m r) s).2 ≤ 60000 → (hs.foldl (onHR names m r) s).1 = insS cmpF s.1 (hs.flatMap fun h => onceH names m r h) ∧ (hs.map fun h => cntH m r h).sum + s.2 ≤ (hs.foldl (onHR names m r) s).2 + hs.length
  | [], s, h => ⟨rfl, by simp⟩
  | x :: hs, s, h => by
    rw [List.foldl_cons] at h ⊢
    have hm : (onHR names m r s x).2 ≤ (hs.foldl (onHR names m r) (onHR names m r s x)).2 := foldl_inv (p := fun t : List Fa × Nat => (onHR names m r s x).2 ≤ t.2) (fun t y ht => Nat.le_trans ht onHR_ge) hs _ (Nat.le_refl _)
    obtain ⟨i1, i2⟩ := onRR_ok (hs := hs) h
    obtain ⟨j1, j2⟩ := onHR_ok (names := names) (m := m) (r := r) (s := s) (h := x) (by omega)
    rw [List.flatMap_cons, insS_app, i1, j1]
    refine ⟨rfl, ?_⟩
    simp only [List.map_cons, List.sum_cons, List.length_cons]
    omega
theorem onceRs_ok : ∀ {rs : List Rl} {s : List Fa × Nat}, (rs.foldl (onRR homes names m) s).2 ≤ 60000 → (rs.foldl (onRR homes names m) s).1 = insS cmpF s.1 (onceL homes names rs m) ∧ cntL homes rs m + s.2 ≤ (rs.foldl (onRR homes names m) s).2 + rs.length * homes.length
  | [], s, h => ⟨rfl, by simp [cntL]⟩
  | r :: rs, s, h => by
    rw [List.foldl_cons] at h ⊢
    have hm : (onRR homes names m s r).2 ≤ (rs.foldl (onRR homes names m) (onRR homes names m s r)).2 := foldl_inv (p := fun t : List Fa × Nat => (onRR homes names m s r).2 ≤ t.2) (fun t y ht => Nat.le_trans ht onRR_ge) rs _ (Nat.le_refl _)
    obtain ⟨i1, i2⟩ := onceRs_ok (rs := rs) h
    obtain ⟨j1, j2⟩ := onRR_ok (names := names) (m := m) (r := r) (hs := homes) (s := s) (by have : (homes.foldl (onHR names m r) s).2 = (onRR homes names m s r).2 := rfl; omega)
    have e : onceL homes names (r :: rs) m = (homes.flatMap fun h => onceH names m r h) ++ onceL homes names rs m := rfl
    rw [e, insS_app, i1]
    refine ⟨by rw [show onRR homes names m s r = homes.foldl (onHR names m r) s from rfl, j1], ?_⟩
    have e2 : cntL homes (r :: rs) m = (homes.map fun h => cntH m r h).sum + cntL homes rs m := by simp [cntL]
    rw [e2, List.length_cons, Nat.succ_mul]
    have : (homes.foldl (onHR names m r) s).2 = (onRR homes names m s r).2 := rfl
    omega
theorem onceR_ok {d : Nat} (h : (onceR homes names rs m d).2 ≤ 60000) : (onceR homes names rs m d).1 = onceF homes names rs m ∧ cntL homes rs m + d ≤ (onceR homes names rs m d).2 + rs.length * homes.length := onceRs_ok h
theorem onceR_ge {d : Nat} : d ≤ (onceR homes names rs m d).2 := foldl_inv (p := fun t : List Fa × Nat => d ≤ t.2) (fun t y ht => Nat.le_trans ht onRR_ge) rs ([], d) (Nat.le_refl _)
end
theorem insS_self {α : Type} {c : α → α → Int} (h : Ord3 c) {l : List α} (hl : Rises c l) : insS c [] l = l := rises_ext h (insS_rises h .nil) hl fun y => by rw [insS_mem h]; simp
theorem insS_two {α : Type} {c : α → α → Int} (h : Ord3 c) {l k : List α} (hl : Rises c l) : insS c [] (l ++ k) = insS c l k := by rw [insS_app, insS_self h hl]
theorem insS_ge {α : Type} {c : α → α → Int} : ∀ {l s : List α}, s.length ≤ (insS c s l).length
  | [], s => Nat.le_refl _
  | x :: l, s => Nat.le_trans ins_ge (insS_ge (l := l) (s := insF c x s))
/-- The least model, step by step, as the document goes: 402 steps are enough. -/
def leaR (homes names : List ByteArray) (rs : List Rl) : Nat → List Fa → Nat → List Fa × Int × Nat
  | 0, _, d => ([], 0, d)
  | n + 1, m, d => if 60000 < d then ([], 0, d) else if 400 < m.length then ([], 150, d) else
    if (insS cmpF m (onceR homes names rs m d).1).length = m.length then (m, 0, (onceR homes names rs m d).2) else leaR homes names rs n (insS cmpF m (onceR homes names rs m d).1) (onceR homes names rs m d).2
/-- As the program goes. -/
def nxP (homes names : List ByteArray) (rs : List Rl) (m : List Fa) : List Fa := insS cmpF [] (m ++ onceF homes names rs m)
def leaP (homes names : List ByteArray) (rs : List Rl) : Nat → List Fa → List Fa × Int
  | 0, _ => ([], 0)
  | n + 1, m => if 400 < m.length then ([], 150) else if (nxP homes names rs m).length = m.length then (m, 0) else leaP homes names rs n (nxP homes names rs m)
/-- On the way not too much is gone through. -/
def OkP (homes names : List ByteArray) (rs : List Rl) : Nat → List Fa → Prop
  | 0, _ => True
  | n + 1, m => m.length ≤ 400 → cntL homes rs m ≤ 900000 ∧ ((nxP homes names rs m).length ≠ m.length → OkP homes names rs n (nxP homes names rs m))
theorem leaR_ge (homes names : List ByteArray) (rs : List Rl) : ∀ (n : Nat) (m : List Fa) (d : Nat), d ≤ (leaR homes names rs n m d).2.2
  | 0, _, d => Nat.le_refl _
  | n + 1, m, d => by
    unfold leaR
    split
    · exact Nat.le_refl _
    · split
      · exact Nat.le_refl _
      · split
        · exact onceR_ge
        · exact Nat.le_trans onceR_ge (leaR_ge homes names rs n _ _)
theorem lea_same (homes names : List ByteArray) (rs : List Rl) (hb : rs.length * homes.length ≤ 100000) : ∀ (n : Nat) (m : List Fa) (d : Nat), Rises cmpF m → (leaR homes names rs n m d).2.2 ≤ 60000 → leaP homes names rs n m = ((leaR homes names rs n m d).1, (leaR homes names rs n m d).2.1) ∧ OkP homes names rs n m
  | 0, _, d, _, _ => ⟨rfl, trivial⟩
  | n + 1, m, d, hm, h => by
    unfold leaR at h ⊢
    unfold leaP OkP
    by_cases h1 : 60000 < d
    · rw [if_pos h1] at h
      have h' : d ≤ 60000 := h
      omega
    · rw [if_neg h1] at h ⊢
      by_cases h2 : 400 < m.length
      · rw [if_pos h2, if_pos h2]
        exact ⟨rfl, fun h3 => by omega⟩
      · rw [if_neg h2] at h ⊢
        rw [if_neg h2]
        have ho : (onceR homes names rs m d).2 ≤ 60000 := by
          split at h
          · exact h
          · exact Nat.le_trans (leaR_ge homes names rs n _ _) h
        obtain ⟨k1, k2⟩ := onceR_ok ho
        have e : nxP homes names rs m = insS cmpF m (onceR homes names rs m d).1 := by unfold nxP; rw [insS_two cmpF_ord hm, k1]
        rw [e]
        by_cases h3 : (insS cmpF m (onceR homes names rs m d).1).length = m.length
        · rw [if_pos h3] at h ⊢
          rw [if_pos h3]
          exact ⟨rfl, fun _ => ⟨by omega, fun hn => absurd h3 hn⟩⟩
        · rw [if_neg h3] at h ⊢
          rw [if_neg h3]
          obtain ⟨i1, i2⟩ := lea_same homes names rs hb n _ _ (insS_rises cmpF_ord hm) h
          exact ⟨i1, fun _ => ⟨by omega, fun _ => i2⟩⟩
section
variable {σ : St} {x : Nat}
theorem least12_at (homes names : List ByteArray) (rs : List Rl) (base : List Fa) (hrs : ∀ r ∈ rs, r.S4) (hh : homes.length ≤ 8) (hn : names.length ≤ 1000000) (hrl : rs.length ≤ 1000) (hbl : base.length ≤ 1000000) (hbs : ∀ f ∈ base, f.Sm) (hx : σ x = some (.cells (wC homes names 0))) :
    AT Tryz.prog 35 [ptr x, .sl 11 (rlC rs), .sl 4 (faC base)] σ fun v σ' => v = .tup [.sl 4 (faC (leaR homes names rs 402 (insS cmpF [] base) 0).1), int (leaR homes names rs 402 (insS cmpF [] base) 0).2.1] ∧ σ' = σ.set x (.cells (wC homes names (leaR homes names rs 402 (insS cmpF [] base) 0).2.2)) := by
  refine AT.of_body Tryz.func35 rfl (by decide) (by kernel_rfl) (by kernel_rfl) (Nat.le_of_ble_eq_true rfl) ?_
  simp only [go_sem, r_block]
  refine (rsorted_at base hbl hbs).mono ?_
  rintro _ σ ⟨rfl, rfl⟩
  obtain ⟨R, hR⟩ : ∃ R, R = leaR homes names rs 402 (insS cmpF [] base) 0 := ⟨_, rfl⟩
  rw [← hR]
  have hs0 : ∀ f ∈ insS cmpF [] base, f.Sm := fun f hf => by
    rcases (insS_mem cmpF_ord).1 hf with h | h
    · exact hbs f h
    · cases h
  have hl0 := insS_len (c := cmpF) (s := []) (l := base)
  simp only [List.length_nil] at hl0
  simp only [go_sem, r_block]
  refine ⟨fun mm fr σ' => ∃ (n : Nat) (m : List Fa) (d : Nat), mm = n ∧ 402 ≤ m.length + n ∧ 1 ≤ n ∧ m.length ≤ 1100000 ∧ (∀ f ∈ m, f.Sm) ∧ d ≤ 60001 ∧ leaR homes names rs n m d = R ∧ σ' = σ.set x (.cells (wC homes names d)) ∧ fr 0 = ptr x ∧ fr 1 = .sl 11 (rlC rs) ∧ fr 8 = .sl 4 (faC m), ⟨_, 402, insS cmpF [] base, 0, rfl, by omega, by omega, by omega, hs0, by omega, hR.symm, (set_id hx).symm, rfl, rfl, rfl⟩, ?_⟩
  rintro mm fr _ ⟨n, m, d, rfl, hm1, hm2, hm3, hms, hd, hI, rfl, f0, f1, f8⟩
  obtain ⟨n, rfl⟩ : ∃ k, mm = k + 1 := ⟨mm - 1, by omega⟩
  unfold leaR at hI
  by_cases h1 : 60000 < d
  · rw [if_pos h1] at hI
    have d1 := decide_eq_true h1
    simp only [go_sem, r_block, f0, set_same, d1]
    exact aRet_view (r := .tup [nilS, int 0]) rfl _ (σ.set x (.cells (wC homes names d))) (ret_nil2 (fun _ _ h => h) _) ⟨by rw [← hI]; rfl, by rw [← hI]⟩
  · rw [if_neg h1] at hI
    have d1 := decide_eq_false h1
    by_cases h2 : 400 < m.length
    · rw [if_pos h2] at hI
      have d2 := decide_eq_true (show (400 : Int) < m.length by omega)
      simp only [go_sem, r_block, f0, f8, set_same, d1, d2]
      exact aRet_view (r := .tup [nilS, int 150]) rfl _ (σ.set x (.cells (wC homes names d))) (ret_nil2 (fun _ _ h => h) _) ⟨by rw [← hI]; rfl, by rw [← hI]⟩
    · rw [if_neg h2] at hI
      have d2 := decide_eq_false (show ¬ (400 : Int) < m.length by omega)
      simp only [go_sem, r_block, f0, f8, set_same, d1, d2]
      refine aApp_by (ys := faC m) (by simp [src]) (by decide) (by decide) (by decide) (LAt.full.app (by rw [faC_len]; simp only [List.length_nil]; omega) fun l1 σ2 g1 g2 => ?_)
      rw [List.nil_append] at g1
      have G : Grow (σ.set x (.cells (wC homes names d))) σ2 l1 := fun y o hy => g2 y o hy own_no_fsl
      have hx2 : σ2 x = some (.cells (wC homes names d)) := (G x _ set_same).1
      have hnx : ¬ Own l1 x := g1.not_own hx2
      simp only [go_sem, r_block, f0, f1, f8]
      refine (once12_at homes names rs m d hrs (by omega) hh hn hrl hx2 hd).mono ?_
      rintro _ _ ⟨rfl, rfl⟩
      have hq0 := onceR_bd (homes := homes) (names := names) (m := m) (s := ([], d)) (c := 0) hrs ⟨by simp, hd, fun f hf => by cases hf⟩
      obtain ⟨q, hq⟩ : ∃ q, q = onceR homes names rs m d := ⟨_, rfl⟩
      rw [show rs.foldl (onRR homes names m) ([], d) = q from hq.symm] at hq0
      rw [← hq] at hI ⊢
      obtain ⟨hq1, hq2, hqs⟩ := hq0
      have hmul : rs.length * homes.length ≤ 8000 := Nat.le_trans (Nat.mul_le_mul hrl hh) (by decide)
      have g3 : LAt 4 (σ2.set x (.cells (wC homes names q.2))) l1 (faC m) := g1.keep fun y o hy ho => by
        have hne : y ≠ x := fun e => hnx (e ▸ ho)
        rw [set_ne hne]; exact hy
      have hgr : ∀ y o, (σ.set x (.cells (wC homes names q.2))) y = some o → (σ2.set x (.cells (wC homes names q.2))) y = some o ∧ ¬ Own l1 y := fun y o hy => by
        by_cases e : y = x
        · subst e; rw [set_same] at hy ⊢; exact ⟨hy, hnx⟩
        · rw [set_ne e] at hy ⊢
          exact G y o (by rw [set_ne e]; exact hy)
      have hSV : SV (σ2.set x (.cells (wC homes names q.2))) (σ.set x (.cells (wC homes names q.2))) := sv_of fun y o hy => .inl (hgr y o hy).1
      have hVW : VW (σ2.set x (.cells (wC homes names q.2))) (σ.set x (.cells (wC homes names q.2))) l1 (.sl 4 (faC m)) := g3.vw_same fun y ho => by
        cases hy : (σ.set x (.cells (wC homes names q.2))) y with
        | none => rfl
        | some o => exact absurd ho (hgr y o hy).2
      obtain ⟨σ3, e3⟩ : ∃ s, s = σ2.set x (.cells (wC homes names q.2)) := ⟨_, rfl⟩
      obtain ⟨σ4, e4⟩ : ∃ s, s = σ.set x (.cells (wC homes names q.2)) := ⟨_, rfl⟩
      rw [← e3, ← e4] at hVW hSV
      rw [← e3] at g3 ⊢
      have hx4 : σ4 x = some (.cells (wC homes names q.2)) := by rw [e4]; exact set_same
      simp only [go_sem, r_block]
      refine ⟨fun mm fr σ' => ∃ (i : Nat) (v : AV), mm = q.1.length - i ∧ i ≤ q.1.length ∧ (i = 0 ∧ v = l1 ∧ σ' = σ3 ∨ v = .sl 4 (faC (insS cmpF m (q.1.take i))) ∧ σ' = σ4) ∧ fr 0 = ptr x ∧ fr 1 = .sl 11 (rlC rs) ∧ fr 8 = .sl 4 (faC m) ∧ fr 9 = v ∧ fr 10 = .sl 4 (faC q.1) ∧ fr 11 = int i, ⟨_, 0, l1, rfl, by omega, .inl ⟨rfl, rfl, rfl⟩, f0, f1, f8, rfl, rfl, rfl⟩, ?_⟩
      clear f0 f1 f8
      rintro mm fr σ' ⟨i, v, rfl, hi, hv, f0, f1, f8, f9, f10, f11⟩
      simp only [go_sem, f10, f11]
      refine aIf_by (fun hlt => ?_) (fun hlt => ?_)
      · have hil : i < q.1.length := by omega
        have hlen := insS_len (c := cmpF) (s := m) (l := q.1.take i)
        have hsm : ∀ x ∈ insS cmpF m (q.1.take i), x.Sm := fun x hx => by
          rcases (insS_mem cmpF_ord).1 hx with h | h
          · exact hqs x (List.mem_of_mem_take h)
          · exact hms x h
        rw [List.length_take] at hlen
        have hnext : insF cmpF q.1[i] (insS cmpF m (q.1.take i)) = insS cmpF m (q.1.take (i + 1)) := by
          rw [List.take_add_one, List.getElem?_eq_getElem hil, insS_app]; rfl
        have hw := with_at (σ := σ4) (insS cmpF m (q.1.take i)) q.1[i] (by omega) hsm (hqs _ (List.getElem_mem hil))
        rw [hnext] at hw
        simp only [go_sem, r_block, f9, f10, f11, faC_get hil]
        refine ⟨by omega, ?_⟩
        have hc : AT Tryz.prog 72 [v, .agg q.1[i].cs] σ' fun v σ' => v = .sl 4 (faC (insS cmpF m (q.1.take (i + 1)))) ∧ σ' = σ4 := by
          rcases hv with ⟨rfl, rfl, rfl⟩ | ⟨rfl, rfl⟩
          · exact AT.pre hw (by kernel_rfl) hSV (vws_cons hVW (vws_cons (.refl _) vws_nil))
          · exact hw
        refine hc.mono ?_
        rintro _ σ4 ⟨rfl, rfl⟩
        simp only [go_sem, r_block, f0, f1, f8, f10, f11, next64 (show i < 9223372036854775807 by omega)]
        refine ⟨q.1.length - (i + 1), by omega, i + 1, .sl 4 (faC (insS cmpF m (q.1.take (i + 1)))), rfl, by omega, Or.inr rfl, ?_⟩
        (and_intros <;> first | assumption | rfl | omega)
      · have hiq : i = q.1.length := by omega
        rcases hv with ⟨rfl, rfl, rfl⟩ | ⟨rfl, rfl⟩
        · have hq0 : q.1 = [] := List.eq_nil_of_length_eq_zero hiq.symm
          rw [hq0] at hI
          rw [if_pos (show (insS cmpF m []).length = m.length from rfl)] at hI
          simp only [go_sem, f8, f9, g3.len]
          exact aRet_view (r := .tup [.sl 4 (faC m), int 0]) rfl _ (σ.set x (.cells (wC homes names q.2))) (view_drop fun y o hy => by rw [e3]; exact (hgr y o hy).1) ⟨by rw [← hI], by rw [← hI]⟩
        · rw [hiq, List.take_length] at f9
          by_cases hl2 : (insS cmpF m q.1).length = m.length
          · rw [if_pos hl2] at hI
            have dd := decide_eq_true (show ((insS cmpF m q.1).length : Int) = m.length by omega)
            simp only [go_sem, f8, f9]
            simp only [go_sem, f8, dd]
            exact aRet_as (r := .tup [.sl 4 (faC m), int 0]) rfl ⟨by rw [← hI], by rw [e4, ← hI]⟩
          · rw [if_neg hl2] at hI
            have dd := decide_eq_false (show ¬ ((insS cmpF m q.1).length : Int) = m.length by omega)
            have hge := insS_ge (c := cmpF) (s := m) (l := q.1)
            have hle := insS_len (c := cmpF) (s := m) (l := q.1)
            have hsm : ∀ x ∈ insS cmpF m q.1, x.Sm := fun x hx => by
              rcases (insS_mem cmpF_ord).1 hx with h | h
              · exact hqs x h
              · exact hms x h
            simp only [go_sem, r_block, f0, f1, f8, f9, dd]
            refine ⟨n, by omega, n, insS cmpF m q.1, q.2, rfl, by omega, by omega, by omega, hsm, hq2, hI, e4, ?_⟩
            (and_intros <;> first | assumption | rfl | omega)
end
end Go.Proofs.YthdfpankebjleaaGreat

/-
  A literal made a fact, as the program reckons it.
  Conditions: none.
-/
namespace Go.Proofs.YthdfpankebjleaaGreat
open Go Go.Av

section
variable {σ : St}
theorem lit_at (ho : Tm) (l : Li) (f : Fa) (env : List Bi) (hl : env.length ≤ 100000) (ha : l.ar.length ≤ 100000) : AT Tryz.prog 30 [.agg ho.cs, .agg l.cs, .agg f.cs, .sl 4 (biC env)] σ fun r σ' => r = resU (litF ho l f env) ∧ σ' = σ := by
  refine AT.of_body Tryz.func30 rfl (by decide) (by kernel_rfl) (by kernel_rfl) (Nat.le_of_ble_eq_true rfl) ?_
  simp only [go_sem]
  refine Ctx.nil.alloc fun p σ1 c1 => ?_
  simp only [go_sem]
  refine c1.alloc fun q σ2 c2 => ?_
  simp only [go_sem]
  refine c2.alloc fun x σ3 c3 => ?_
  by_cases h1 : l.nm = f.pr
  · simp only [go_sem, c3.g2, h1]
    refine aIf_by (fun h2 => ?_) (fun h2 => ?_)
    · have h2 : l.ar.length = f.ar.length := by omega
      have hlf := litF_on (ho := ho) (env := env) h1 h2
      simp only [go_sem]
      refine aDraw_plan [.rd 0 false, .rd 1 true, .rd 2 true, .rd 4 false, .rd 5 true, .rd 7 false, .ef 3 [5], .ef 6 [], .ef 8 [], .rd 9 false, .rd 10 false, .rd 11 false, .rd 12 false, .rd 13 false] (by kernel_rfl) (by kernel_rfl) (by kernel_rfl) ?_
      simp only [go_sem, c3.g2]
      refine (or_at' l.at' ho).mono ?_
      rintro _ σ3 ⟨rfl, rfl⟩
      simp only [go_sem, c3.g2]
      refine (text_at f.at').mono ?_
      rintro _ σ3 ⟨rfl, rfl⟩
      simp only [go_sem, c3.g2]
      refine (unify_at (orT l.at' ho) (nmC f.at') env (by omega)).mono ?_
      rintro _ σ3 ⟨rfl, rfl⟩
      simp only [go_sem]
      cases hu : uniF (orT l.at' ho) (nmC f.at') env with
      | none =>
        have hn : litF ho l f env = none := by rw [hlf]; unfold litA; rw [hu]; rfl
        simp only [go_sem]
        exact ret_fail rfl c3.sub hn
      | some e =>
        have he := uni_len hu
        simp only [go_sem, c3.g2]
        refine tm_eq ?_
        simp only [go_sem]
        refine aIf_meet (fun fr σ' => ∃ (b : Bool) (e2 : List Bi), σ' = σ3 ∧ (b = true → litA ho l f env = some e2) ∧ (b = false → litF ho l f env = none) ∧ e2.length ≤ env.length + 2 ∧ fr 3 = .sl 4 (biC e2) ∧ fr 5 = ptr q ∧ fr 6 = ptr x ∧ fr 10 = boo b) (fun h0 => ?_) (fun h0 => ?_) ?_
        · simp only [go_sem, c3.g2]
          refine ⟨decide (f.by' = f.at'), e, ?_⟩
          have g1 : decide (f.by' = f.at') = true → litA ho l f env = some e := fun h3 => by unfold litA; rw [hu]; simp [h0, of_decide_eq_true h3]
          have g2 : decide (f.by' = f.at') = false → litF ho l f env = none := fun h3 => by rw [hlf]; unfold litA; rw [hu]; simp [h0, of_decide_eq_false h3]
          (and_intros <;> first | assumption | rfl | omega)
        · simp only [go_sem]
          refine aDraw_plan [.rd 0 false, .rd 1 true, .rd 2 false, .rd 3 true, .rd 5 false, .ef 4 [1], .ef 6 [], .rd 7 false, .rd 8 false, .rd 9 false, .rd 10 false, .rd 11 false] (by kernel_rfl) (by kernel_rfl) (by kernel_rfl) ?_
          simp only [go_sem, c3.g2]
          refine (text_at f.by').mono ?_
          rintro _ σ3 ⟨rfl, rfl⟩
          simp only [go_sem, c3.g2]
          refine (unify_at l.by' (nmC f.by') e (by omega)).mono ?_
          rintro _ σ3 ⟨rfl, rfl⟩
          simp only [go_sem]
          refine ⟨(uniF l.by' (nmC f.by') e).isSome, (uniF l.by' (nmC f.by') e).getD [], ?_⟩
          have g1 : (uniF l.by' (nmC f.by') e).isSome = true → litA ho l f env = some ((uniF l.by' (nmC f.by') e).getD []) := fun h3 => by
            obtain ⟨y, hy⟩ := Option.isSome_iff_exists.1 h3
            unfold litA; rw [hu]; simp [h0, hy]
          have g2 : (uniF l.by' (nmC f.by') e).isSome = false → litF ho l f env = none := fun h3 => by
            rw [Option.isSome_eq_false_iff, Option.isNone_iff_eq_none] at h3
            rw [hlf]; unfold litA; rw [hu]; simp [h0, h3]
          have g3 : ((uniF l.by' (nmC f.by') e).getD []).length ≤ env.length + 2 := by
            cases hv : uniF l.by' (nmC f.by') e with
            | none => simp
            | some y => have := uni_len hv; simp only [Option.getD_some]; omega
          (and_intros <;> first | assumption | rfl | omega)
        rintro fr σ4 ⟨b, e2, rfl, g1, g2, hl2, f3, f5, f6, f10⟩
        simp only [go_sem, r_block, f5, c3.g2]
        refine ⟨fun m fr σ'' => ∃ (i : Nat) (b : Bool) (ei : List Bi), m = l.ar.length - i ∧ i ≤ l.ar.length ∧ Ctx σ [(x, .cells f.cs), (q, .cells l.cs), (p, .cells ho.cs)] σ'' ∧ (b = true → (litA ho l f env).bind (uniS ((l.ar.take i).zip (f.ar.take i))) = some ei) ∧ (b = false → litF ho l f env = none) ∧ ei.length ≤ env.length + 2 + i ∧ fr 3 = .sl 4 (biC ei) ∧ fr 6 = ptr x ∧ fr 10 = boo b ∧ fr 61 = .sl 4 (tmC l.ar) ∧ fr 62 = int l.ar.length ∧ fr 63 = int i, ⟨_, 0, b, e2, rfl, by omega, c3, fun h => (by rw [g1 h]; rfl), g2, by omega, f3, f6, f10, rfl, rfl, rfl⟩, ?_⟩
        clear f3 f5 f6 f10 g1 g2 c3 c2 c1 hl2 hu he
        rintro m fr σ4 ⟨i, b, ei, rfl, hi, c3, g1, g2, hli, f3, f6, f10, f61, f62, f63⟩
        simp only [go_sem, f62, f63]
        refine aIf_by (fun hlt => ?_) (fun hlt => ?_)
        · have hil : i < l.ar.length := by omega
          have hif : i < f.ar.length := by omega
          simp only [go_sem, r_block, f61, f63, tmC_get hil]
          refine ⟨by omega, c3.alloc fun r σ5 c4 => ?_⟩
          obtain ⟨σ6, e6, c5⟩ := c4.abs 0 rfl (.cells l.ar[i].cs)
          simp only [go_sem, c4.g3, e6, f10]
          cases b with
          | false =>
            simp only [go_sem, f10]
            exact ret_fail rfl c5.sub (g2 rfl)
          | true =>
            have g1 := g1 rfl
            simp only [go_sem, r_block]
            refine aDraw_plan [.rd 0 true, .rd 1 false, .rd 2 true, .rd 3 false, .rd 4 false, .rd 5 true, .rd 6 false, .ef 7 [], .rd 8 false, .rd 9 false, .rd 10 false, .rd 11 false, .rd 12 false] (by kernel_rfl) (by kernel_rfl) (by kernel_rfl) ?_
            simp only [go_sem, r_block, f3, f6, f10, f63, c5.g3, cnC_get hif]
            refine ⟨by omega, (unify_at l.ar[i] f.ar[i] ei (by omega)).mono ?_⟩
            rintro _ σ6 ⟨rfl, rfl⟩
            simp only [go_sem, r_block, f6, f61, f62, f63, next64 (show i < 9223372036854775807 by omega)]
            have hs : (litA ho l f env).bind (uniS ((l.ar.take (i + 1)).zip (f.ar.take (i + 1)))) = uniF l.ar[i] f.ar[i] ei := by
              cases hA : litA ho l f env with
              | none => rw [hA] at g1; cases g1
              | some a =>
                rw [hA] at g1
                rw [Option.bind_some] at g1 ⊢
                rw [unis_take hil hif, g1]; rfl
            refine ⟨l.ar.length - (i + 1), by omega, i + 1, (uniF l.ar[i] f.ar[i] ei).isSome, (uniF l.ar[i] f.ar[i] ei).getD [], ?_⟩
            have k1 : (uniF l.ar[i] f.ar[i] ei).isSome = true → (litA ho l f env).bind (uniS ((l.ar.take (i + 1)).zip (f.ar.take (i + 1)))) = some ((uniF l.ar[i] f.ar[i] ei).getD []) := fun h3 => by
              obtain ⟨y, hy⟩ := Option.isSome_iff_exists.1 h3
              rw [hs, hy]; rfl
            have k2 : (uniF l.ar[i] f.ar[i] ei).isSome = false → litF ho l f env = none := fun h3 => by
              rw [Option.isSome_eq_false_iff, Option.isNone_iff_eq_none] at h3
              rw [h3] at hs
              have e1 : l.ar.zip f.ar = (l.ar.take (i + 1)).zip (f.ar.take (i + 1)) ++ (l.ar.drop (i + 1)).zip (f.ar.drop (i + 1)) := by
                rw [← List.zip_append (by simp; omega), List.take_append_drop, List.take_append_drop]
              rw [hlf, e1]
              cases hA : litA ho l f env with
              | none => rfl
              | some a =>
                rw [hA, Option.bind_some] at hs
                rw [Option.bind_some, unis_app, hs]
                rfl
            have k3 : ((uniF l.ar[i] f.ar[i] ei).getD []).length ≤ env.length + 2 + (i + 1) := by
              cases hv : uniF l.ar[i] f.ar[i] ei with
              | none => simp
              | some y => have := uni_len hv; simp only [Option.getD_some]; omega
            have k4 := c5.tl
            (and_intros <;> first | assumption | rfl | omega)
        · simp only [go_sem, r_block, f3, f10]
          cases b with
          | false =>
            simp only [go_sem]
            exact ret_fail rfl c3.sub (g2 rfl)
          | true =>
            have g1 := g1 rfl
            rw [List.take_of_length_le (by omega), List.take_of_length_le (by omega)] at g1
            simp only [go_sem, f3]
            exact ret_env rfl c3.sub (by rw [hlf, g1])
    · have hn : litF ho l f env = none := litF_off fun h => h2 (by rw [h.2])
      simp only [go_sem]
      exact ret_fail rfl c3.sub hn
  · have hn : litF ho l f env = none := litF_off fun h => h1 h.1
    simp only [go_sem, c3.g2, h1]
    exact ret_fail rfl c3.sub hn
end
end Go.Proofs.YthdfpankebjleaaGreat

/-
  The bindings by which a rule's body is among some facts, told one by one (package model).
  Conditions: none.
-/
namespace Go.Proofs.YthdfpankebjleaaGreat
open Go Go.Av

abbrev yieldF (l : Nat) : AV := .v (.func (.yield l) #[] #[])
/-- Blocks of cells but d are as they were. -/
def Kp (d : Nat) (σ σ' : St) : Prop := ∀ y cs, σ y = some (.cells cs) → y ≠ d → σ' y = some (.cells cs)
theorem Kp.refl {d : Nat} {σ : St} : Kp d σ σ := fun _ _ h _ => h
theorem Kp.trans {d : Nat} {σ σ1 σ2 : St} (h : Kp d σ σ1) (k : Kp d σ1 σ2) : Kp d σ σ2 := fun y cs hy hn => k y cs (h y cs hy hn) hn
theorem Kp.of {d : Nat} {σ σ' : St} (h : ∀ x o, σ x = some o → σ' x = some o) : Kp d σ σ' := fun y cs hy _ => h y _ hy
def LitsOk (r : Rl) : Prop := r.S3
section
variable {σ : St} {l d : Nat}
/-- The bindings by which a rule holds at a home. -/
def envH (m : List Fa) (r : Rl) (h : ByteArray) : List (List Bi) := match uniF r.ho (nmC h) [] with
  | some env => lvE r.ho m r.bo env
  | none => []
theorem envH_once (names : List ByteArray) (m : List Fa) (r : Rl) (h : ByteArray) : onceH names m r h = (envH m r h).filterMap (hdN names r) := by
  unfold onceH envH
  cases uniF r.ho (nmC h) [] <;> rfl
theorem envH_len (m : List Fa) (r : Rl) (h : ByteArray) : (envH m r h).length = cntH m r h := by
  unfold cntH envH
  cases uniF r.ho (nmC h) [] <;> rfl
theorem fm_len {G : Fa → List (List Bi)} {m : List Fa} (i : Nat) : ((m.take i).flatMap G).length ≤ (m.flatMap G).length := by
  conv => rhs; rw [← List.take_append_drop i m]
  rw [List.flatMap_append, List.length_append]
  omega
theorem walk_at (B : Nat) (r : Rl) (m : List Fa) (hr : r.S3) (hm : m.length ≤ 1000000) (Inv : List (List Bi) → St → Prop) (hd : ∀ acc σ, Inv acc σ → ∃ o, σ d = some o) (hnew : ∀ acc σ c o, Inv acc σ → σ c = none → Inv acc (σ.set c (.cells o)))
    (step : ∀ acc e σ', (acc ++ [e]).length ≤ B → e.length ≤ 100000 → Inv acc σ' → YC Tryz.prog l [.sl 4 (biC e)] σ' fun v σ'' => v = boo true ∧ Inv (acc ++ [e]) σ'' ∧ Kp d σ' σ'') :
    ∀ (n k : Nat) {σ : St} {env : List Bi} {acc : List (List Bi)}, k + n = r.bo.length → (acc ++ lvE r.ho m (r.bo.drop k) env).length ≤ B → env.length ≤ 10 + 302 * k → Inv acc σ →
    AT Tryz.prog 90 [.agg r.cs, int k, .sl 4 (faC m), .sl 4 (biC env), yieldF l] σ fun v σ' => v = boo true ∧ Inv (acc ++ lvE r.ho m (r.bo.drop k) env) σ' ∧ Kp d σ σ' := by
  intro n
  induction n with
  | zero =>
    intro k σ env acc hk hB he hI
    refine AT.of_body Tryz.func90 rfl (by decide) (by kernel_rfl) (by kernel_rfl) (Nat.le_of_ble_eq_true rfl) ?_
    have hr1 := hr.1
    rw [List.drop_of_length_le (by omega)] at hB ⊢
    simp only [go_sem]
    refine aNew_intro fun p hp hpn => ?_
    have c1 := (Ctx.nil (σ := σ)).new (o := .cells r.cs) hp
    have hI1 := hnew _ _ p r.cs hI hp
    have hk1 : Kp d σ (σ.set p (.cells r.cs)) := .of c1.sub
    obtain ⟨σ1, e1⟩ : ∃ s, s = σ.set p (.cells r.cs) := ⟨_, rfl⟩
    rw [← e1] at c1 hI1 hk1 ⊢
    have dd := decide_eq_true (show (k : Int) = r.bo.length by omega)
    simp only [go_sem, c1.g0, dd]
    refine (step acc env σ1 hB (by omega) hI1).mono ?_
    rintro _ σ2 ⟨rfl, h2, h3⟩
    simp only [go_sem]
    exact aRet_as (r := boo true) rfl ⟨rfl, h2, hk1.trans h3⟩
  | succ n ih =>
    intro k σ env acc hk hB he hI
    refine AT.of_body Tryz.func90 rfl (by decide) (by kernel_rfl) (by kernel_rfl) (Nat.le_of_ble_eq_true rfl) ?_
    have hr1 := hr.1
    have hkn : k < r.bo.length := by omega
    have hlk := hr.2 _ (List.getElem_mem hkn)
    simp only [go_sem]
    refine aNew_intro fun p hp hpn => ?_
    have c1 := (Ctx.nil (σ := σ)).new (o := .cells r.cs) hp
    have hI1 := hnew _ _ p r.cs hI hp
    have hk1 : Kp d σ (σ.set p (.cells r.cs)) := .of c1.sub
    have hpd : p ≠ d := fun e => by
      obtain ⟨o, ho⟩ := hd _ _ hI
      rw [← e, hp] at ho; cases ho
    obtain ⟨σ1, e1⟩ : ∃ s, s = σ.set p (.cells r.cs) := ⟨_, rfl⟩
    rw [← e1] at c1 hI1 hk1 ⊢
    have dd := decide_eq_false (show ¬ (k : Int) = r.bo.length by omega)
    simp only [go_sem, r_block, c1.g0, dd]
    have ed : r.bo.drop k = r.bo[k] :: r.bo.drop (k + 1) := List.drop_eq_getElem_cons hkn
    rw [ed] at hB ⊢
    obtain ⟨G, hG⟩ : ∃ G : Fa → List (List Bi), G = fun x => match litF r.ho r.bo[k] x env with
      | some e => lvE r.ho m (r.bo.drop (k + 1)) e
      | none => [] := ⟨_, rfl⟩
    have el : lvE r.ho m (r.bo[k] :: r.bo.drop (k + 1)) env = m.flatMap G := by rw [hG]; rfl
    rw [el] at hB ⊢
    refine ⟨fun mm fr σ' => ∃ i : Nat, mm = m.length - i ∧ i ≤ m.length ∧ Inv (acc ++ (m.take i).flatMap G) σ' ∧ Kp d σ σ' ∧ σ' p = some (.cells r.cs) ∧ fr 1 = int k ∧ fr 2 = .sl 4 (faC m) ∧ fr 3 = .sl 4 (biC env) ∧ fr 4 = yieldF l ∧ fr 5 = ptr p ∧ fr 23 = .sl 4 (faC m) ∧ fr 24 = int m.length ∧ fr 25 = int i, ⟨_, 0, rfl, by omega, by simpa using hI1, hk1, c1.g0, rfl, rfl, rfl, rfl, rfl, rfl, rfl, rfl⟩, ?_⟩
    clear hI1 hk1 c1 e1 hI
    rintro mm fr σ2 ⟨i, rfl, hi, hI, hK, h5, f1, f2, f3, f4, f5, f23, f24, f25⟩
    simp only [go_sem, f24, f25]
    refine aIf_by (fun hlt => ?_) (fun hlt => ?_)
    · have hil : i < m.length := by omega
      simp only [go_sem, r_block, f23, f25, faC_get hil]
      refine ⟨by omega, aNew_intro fun q hq hqn => ?_⟩
      have c2 := (Ctx.nil (σ := σ2)).new (o := .cells [str emp, str emp, str emp, nilS]) hq
      have hI2 := hnew _ _ q [str emp, str emp, str emp, nilS] hI hq
      obtain ⟨σ3, e3, c3⟩ := c2.abs 0 rfl (.cells m[i].cs)
      have hI3 : Inv (acc ++ (m.take i).flatMap G) σ3 := by
        have := hnew _ _ q m[i].cs hI hq
        rw [← e3, set_set]; exact this
      have h53 := c3.sub _ _ h5
      have hg := c2.g0
      simp only [go_sem, r_block, hg, e3]
      refine aDraw_plan [.rd 0 false, .rd 1 true, .rd 2 false, .rd 3 true, .rd 4 false, .rd 5 false, .rd 6 true, .rd 7 true, .rd 8 false, .ef 9 [], .rd 10 false, .rd 11 false, .rd 12 false, .rd 13 false, .rd 14 false] (by kernel_rfl) (by kernel_rfl) (by kernel_rfl) ?_
      simp only [go_sem, r_block, f1, f3, f5, h53, c3.g0, liC_get hkn]
      refine ⟨by omega, (lit_at r.ho r.bo[k] m[i] env (by omega) (by omega)).mono ?_⟩
      rintro _ σ3 ⟨rfl, rfl⟩
      have htk : (m.take (i + 1)).flatMap G = (m.take i).flatMap G ++ G m[i] := by
        rw [List.take_add_one, List.getElem?_eq_getElem hil, List.flatMap_append]
        simp
      have hgi : G m[i] = match litF r.ho r.bo[k] m[i] env with
        | some e => lvE r.ho m (r.bo.drop (k + 1)) e
        | none => [] := by rw [hG]
      cases hv : litF r.ho r.bo[k] m[i] env with
      | none =>
        rw [hv] at hgi
        simp only at hgi
        simp only [go_sem, r_block, f1, f2, f3, f4, f5, f23, f24, f25, next64 (show i < 9223372036854775807 by omega)]
        refine ⟨m.length - (i + 1), by omega, i + 1, rfl, by omega, ?_, hK.trans (.of c3.sub), h53, ?_⟩
        · rw [htk, hgi, List.append_nil]; exact hI3
        · (and_intros <;> first | assumption | rfl | omega)
      | some e2 =>
        rw [hv] at hgi
        simp only at hgi
        have hel := lit_len hv
        simp only [go_sem, r_block, f1, f2, f4, f5, h53, next64 (show k < 9223372036854775807 by omega)]
        refine (ih (k + 1) (by omega) (by
          simp only [Option.getD_some]
          rw [← hgi, List.append_assoc, ← htk, List.length_append]
          have := fm_len (G := G) (m := m) (i + 1)
          rw [List.length_append] at hB
          omega) (by simp only [Option.getD_some]; omega) hI3).mono ?_
        rintro _ σ4 ⟨rfl, h2, h3⟩
        simp only [go_sem, r_block, f1, f2, f3, f4, f5, f23, f24, f25, Bool.not_true, next64 (show i < 9223372036854775807 by omega)]
        refine ⟨m.length - (i + 1), by omega, i + 1, rfl, by omega, ?_, (hK.trans (.of c3.sub)).trans h3, h3 p _ h53 hpd, ?_⟩
        · rw [htk, hgi, ← List.append_assoc]; exact h2
        · (and_intros <;> first | assumption | rfl | omega)
    · rw [List.take_of_length_le (by omega)] at hI
      simp only [go_sem, r_block]
      exact aRet_as (r := boo true) rfl ⟨rfl, hI, hK⟩
theorem inst_at (B : Nat) (r : Rl) (h : ByteArray) (m : List Fa) (hr : r.S3) (hm : m.length ≤ 1000000) (Inv : List (List Bi) → St → Prop) (hd : ∀ acc σ, Inv acc σ → ∃ o, σ d = some o) (hnew : ∀ acc σ c o, Inv acc σ → σ c = none → Inv acc (σ.set c (.cells o)))
    (step : ∀ acc e σ', (acc ++ [e]).length ≤ B → e.length ≤ 100000 → Inv acc σ' → YC Tryz.prog l [.sl 4 (biC e)] σ' fun v σ'' => v = boo true ∧ Inv (acc ++ [e]) σ'' ∧ Kp d σ' σ'')
    {t3 t4 t5 : Nat} (h3 : σ t3 = some (.cells r.cs)) (h4 : σ t4 = some (.cells [str h])) (h5 : σ t5 = some (.cells [.sl 4 (faC m)])) (hI : Inv [] σ) (hB : (envH m r h).length ≤ B) :
    AT Tryz.prog 89 [yieldF l, ptr t3, ptr t4, ptr t5] σ fun _ σ' => Inv (envH m r h) σ' ∧ Kp d σ σ' := by
  refine AT.of_body Tryz.func89 rfl (by decide) (by kernel_rfl) (by kernel_rfl) (Nat.le_of_ble_eq_true rfl) ?_
  simp only [go_sem, h3, h4]
  refine (AT.weak (unify_at r.ho (nmC h) [] (by simp)) (vws_same (vws_same (vws_cons (.nil 4) vws_nil)))).mono ?_
  rintro _ σ1 ⟨rfl, rfl⟩
  cases hu : uniF r.ho (nmC h) [] with
  | none =>
    have eh : envH m r h = [] := by unfold envH; rw [hu]
    rw [eh]
    simp only [go_sem]
    exact aRet_as (r := .tup []) rfl ⟨hI, .refl⟩
  | some env =>
    have hel := uni_len hu
    have eh : envH m r h = lvE r.ho m r.bo env := by unfold envH; rw [hu]
    rw [eh] at hB ⊢
    simp only [List.length_nil] at hel
    simp only [go_sem, h3, h5]
    refine (walk_at B r m hr hm Inv hd hnew step r.bo.length 0 (by omega) (by exact hB) (by simp only [Option.getD_some]; omega) hI).mono ?_
    rintro _ σ2 ⟨rfl, k1, k2⟩
    simp only [go_sem]
    exact aRet_as (r := .tup []) rfl ⟨k1, k2⟩
theorem insts_at (r : Rl) (h : ByteArray) (m : List Fa) : AT Tryz.prog 47 [.agg r.cs, str h, .sl 4 (faC m)] σ fun v σ' => ∃ t3 t4 t5, v = .v (.func (.func 89) #[] #[.pointer (some ⟨t3, 0, none⟩), .pointer (some ⟨t4, 0, none⟩), .pointer (some ⟨t5, 0, none⟩)]) ∧ Ctx σ [(t5, .cells [.sl 4 (faC m)]), (t4, .cells [str h]), (t3, .cells r.cs)] σ' := by
  refine AT.of_body Tryz.func47 rfl (by decide) (by kernel_rfl) (by kernel_rfl) (Nat.le_of_ble_eq_true rfl) ?_
  simp only [go_sem]
  refine Ctx.nil.alloc fun t3 σ1 c1 => ?_
  simp only [go_sem]
  refine c1.alloc fun t4 σ2 c2 => ?_
  simp only [go_sem]
  refine c2.alloc fun t5 σ3 c3 => ?_
  simp only [go_sem]
  simp only [aFunc, exacts]
  simp only [go_sem]
  exact aRet_as (r := .v (.func (.func 89) #[] #[.pointer (some ⟨t3, 0, none⟩), .pointer (some ⟨t4, 0, none⟩), .pointer (some ⟨t5, 0, none⟩)])) rfl ⟨t3, t4, t5, rfl, c3⟩
end
end Go.Proofs.YthdfpankebjleaaGreat

/-
  What follows at once, as the program reckons it.
  Conditions: none.
-/
namespace Go.Proofs.YthdfpankebjleaaGreat
open Go Go.Av

theorem round_n {l n : Nat} {fr fr1 : Fr} {σ1 : St} {ps : List Nat} {assign body : Code} {k : AV → St → Prop} : AK.round l fr n ps assign body k .normal fr1 σ1 = ((∃ p, σ1 l = some (.loop fr n ps assign body .busy p)) ∧ k (.v (.bool true)) (σ1.set l (.loop fr n ps assign body .ready none))) := _root_.id rfl
theorem begun_b {P : Program} {l n : Nat} {fr fr1 : Fr} {σ1 : St} {ps : List Nat} {assign body B : Code} {k : AV → St → Prop} (hB : body = B) : AK.begun P l fr n ps assign body k .normal fr1 σ1 = (σ1 l = some (.loop fr n ps assign body .ready none) ∧ aCode P B (@hid _ ⟨AK.round l fr n ps assign body k⟩) fr1 (σ1.set l (.loop fr n ps assign body .busy none))) := by subst hB; rfl
theorem yield_to {P : Program} {l n : Nat} {args : List AV} {σ : St} {k : AV → St → Prop} {fr : Fr} {ps : List Nat} {assign body A : Code} {pend : Option Code} (hA : assign = A) (hl : σ l = some (.loop fr n ps assign body .ready pend)) (hn : args.length = ps.length) (hfl : (flat assign && flat body) = true)
    (h : aCode P A (@hid _ ⟨AK.begun P l fr n ps assign body k⟩) (parFr fr ps args) σ) : YC P l args σ k := yield_by hl hn hfl (by subst hA; exact h)
theorem gen_range {P : Program} {g : AV} {ps : List Nat} {A B : Code} {K : AK} {fr : Fr} {σ : St} (F : Fr → Prop) (hF : F fr) (h : ∀ assign body fr, assign = A → body = B → F fr → aRange P g ps assign body K fr σ) : aRange P g ps A B K fr σ := h A B fr rfl rfl hF

/-- A block d holds a list that was made; what was known is. -/
def OnI (τ : St) (d : Nat) (acc : List Fa) (σ : St) : Prop := τ d = none ∧ ∃ lv, σ d = some (.cells [lv]) ∧ LAt 4 σ lv (faC acc) ∧ Grow τ σ lv
section
variable {τ σ σ' : St} {d c e l : Nat} {acc : List Fa} {o o' : AObj}
theorem OnI.start (hd : σ d = none) : OnI σ d [] (σ.set d (.cells [nilS])) := ⟨hd, nilS, set_same, .none, fun y o hy => ⟨set_sub hd (fun _ _ h => h) y o hy, own_no_nil⟩⟩
theorem OnI.sub (h : OnI τ d acc σ) {x : Nat} (hx : τ x = some o) : σ x = some o := by
  obtain ⟨_, lv, _, _, h3⟩ := h
  exact h3.sub x o hx
theorem OnI.ne (h : OnI τ d acc σ) (hc : σ c = none) : c ≠ d := fun e => by
  obtain ⟨_, lv, h1, _⟩ := h
  rw [← e, hc] at h1; cases h1
theorem OnI.none (h : OnI τ d acc σ) (hc : σ c = none) : τ c = none := by
  cases hx : τ c with
  | none => rfl
  | some o => rw [h.sub hx] at hc; cases hc
theorem OnI.more (h : OnI τ d acc σ) (hs : ∀ x o, σ x = some o → σ' x = some o) : OnI τ d acc σ' := by
  obtain ⟨h0, lv, h1, h2, h3⟩ := h
  exact ⟨h0, lv, hs _ _ h1, h2.keep fun x o hx _ => hs x o hx, fun y o hy => ⟨hs _ _ (h3 y o hy).1, (h3 y o hy).2⟩⟩
theorem OnI.new (h : OnI τ d acc σ) (hc : σ c = Option.none) : OnI (τ.set c o) d acc (σ.set c o) := by
  have hne := h.ne hc
  have hs : ∀ x p, σ x = some p → (σ.set c o) x = some p := set_sub hc fun _ _ h => h
  obtain ⟨h0, lv, h1, h2, h3⟩ := h
  refine ⟨by rw [set_ne hne.symm]; exact h0, lv, hs _ _ h1, h2.keep fun x o hx _ => hs x o hx, fun y p hy => ?_⟩
  by_cases e : y = c
  · subst e
    rw [set_same] at hy ⊢
    exact ⟨hy, fun ho => by obtain ⟨cap, hr⟩ := h2.own_rows ho; rw [hc] at hr; cases hr⟩
  · rw [set_ne e] at hy ⊢
    exact h3 y p hy
theorem OnI.back (h : OnI (τ.set c o) d acc σ) (hc : τ c = Option.none) : OnI τ d acc σ := by
  obtain ⟨h0, lv, h1, h2, h3⟩ := h
  refine ⟨?_, lv, h1, h2, fun y p hy => h3 y p ?_⟩
  · by_cases e : d = c
    · rw [e]; exact hc
    · rw [set_ne e] at h0; exact h0
  · rw [set_ne (fun e => by rw [e, hc] at hy; cases hy)]; exact hy
theorem OnI.loop {fr : Fr} {n : Nat} {ps : List Nat} {A B : Code} {st : LoopState} {pend : Option Code} (h : OnI τ d acc σ) (hl : σ l = some (.loop fr n ps A B st pend)) (ht : τ l = Option.none) (hs : ∀ y, y ≠ l → σ' y = σ y) : OnI τ d acc σ' := by
  obtain ⟨h0, lv, h1, h2, h3⟩ := h
  have nl : ¬ Own lv l := fun ho => by obtain ⟨cap, h⟩ := h2.own_rows ho; rw [hl] at h; cases h
  refine ⟨h0, lv, ?_, h2.keep fun x o hx ho => ?_, fun y o hy => ⟨?_, (h3 y o hy).2⟩⟩
  · rw [hs d (fun e => by rw [← e, h1] at hl; cases hl)]; exact h1
  · rw [hs x (by rintro rfl; exact nl ho)]; exact hx
  · rw [hs y (fun e => by rw [e, ht] at hy; cases hy)]; exact (h3 y o hy).1
end
section
variable {homes names : List ByteArray} {rs : List Rl} {m : List Fa}
theorem onceH_sm {r : Rl} {h : ByteArray} (hr : r.S4) : ∀ f ∈ onceH names m r h, f.Sm := fun f hf => by
  unfold onceH at hf
  split at hf
  · obtain ⟨e, _, he⟩ := List.mem_filterMap.1 hf
    exact hd_sm hr he
  · cases hf
theorem onceL_sm (hrs : ∀ r ∈ rs, r.S4) : ∀ f ∈ onceL homes names rs m, f.Sm := fun f hf => by
  obtain ⟨r, hr, hf⟩ := List.mem_flatMap.1 hf
  obtain ⟨h, _, hf⟩ := List.mem_flatMap.1 hf
  exact onceH_sm (hrs r hr) f hf
theorem sum_ge {l : List Nat} {x : Nat} (h : x ∈ l) : x ≤ l.sum := by
  induction l with
  | nil => cases h
  | cons y l ih =>
    rw [List.sum_cons]
    rcases List.mem_cons.1 h with rfl | h
    · omega
    · have := ih h; omega
theorem cntH_le {r : Rl} {h : ByteArray} (hr : r ∈ rs) (hh : h ∈ homes) : cntH m r h ≤ cntL homes rs m :=
  Nat.le_trans (sum_ge (List.mem_map_of_mem hh)) (sum_ge (List.mem_map_of_mem (f := fun r => (homes.map fun h => cntH m r h).sum) hr))
theorem flat_take {α β : Type} {G : α → List β} {l : List α} {i : Nat} (h : i < l.length) : (l.take (i + 1)).flatMap G = (l.take i).flatMap G ++ G l[i] := by
  rw [List.take_add_one, List.getElem?_eq_getElem h, List.flatMap_append]; simp
theorem flat_le {α β : Type} {G : α → List β} {l : List α} (i : Nat) : ((l.take i).flatMap G).length ≤ (l.flatMap G).length := by
  conv => rhs; rw [← List.take_append_drop i l]
  rw [List.flatMap_append, List.length_append]
  omega
end
section
variable {σ : St}
theorem once_at (homes names : List ByteArray) (rs : List Rl) (m : List Fa) (hrs : ∀ r ∈ rs, r.S4) (hm : m.length ≤ 1000000) (hh : homes.length ≤ 1000000) (hn : names.length ≤ 1000000) (hrl : rs.length ≤ 1000000) (hc : cntL homes rs m ≤ 900000) :
    AT Tryz.prog 22 [.agg [.sl 1 (stC homes), .sl 1 (stC names)], .sl 11 (rlC rs), .sl 4 (faC m)] σ fun v σ' => v = .sl 4 (faC (onceF homes names rs m)) ∧ σ' = σ := by
  refine AT.of_body Tryz.func22 rfl (by decide) (by kernel_rfl) (by kernel_rfl) (Nat.le_of_ble_eq_true rfl) ?_
  have hlen := Nat.le_trans (onceL_len homes names rs m) hc
  obtain ⟨R, hR⟩ : ∃ R : Rl → List Fa, R = fun r => homes.flatMap fun h => onceH names m r h := ⟨_, rfl⟩
  have hL : onceL homes names rs m = rs.flatMap R := by rw [hR]; rfl
  simp only [go_sem]
  refine aNew_intro fun c hcn hcm => ?_
  simp only [go_sem]
  obtain ⟨σ1, e1⟩ : ∃ s, s = σ.set c (.cells [.sl 1 (stC homes), .sl 1 (stC names)]) := ⟨_, rfl⟩
  have hs1 : ∀ x o, σ x = some o → σ1 x = some o := by rw [e1]; exact set_sub hcn fun _ _ h => h
  have hc1 : σ1 c = some (.cells [.sl 1 (stC homes), .sl 1 (stC names)]) := by rw [e1]; exact set_same
  rw [← e1]
  clear e1 hcn hcm
  refine aNew_intro fun d hd hdm => ?_
  have h0 := OnI.start hd
  obtain ⟨σ2, e2⟩ : ∃ s, s = σ1.set d (.cells [nilS]) := ⟨_, rfl⟩
  rw [← e2] at h0 ⊢
  clear e2 hd hdm
  simp only [go_sem, r_block]
  refine ⟨fun mm fr σ' => ∃ i : Nat, mm = rs.length - i ∧ i ≤ rs.length ∧ OnI σ1 d ((rs.take i).flatMap R) σ' ∧ fr 2 = .sl 4 (faC m) ∧ fr 3 = ptr c ∧ fr 7 = ptr d ∧ fr 15 = .sl 11 (rlC rs) ∧ fr 16 = int rs.length ∧ fr 17 = int i, ⟨_, 0, rfl, by omega, h0, rfl, rfl, rfl, rfl, rfl, rfl⟩, ?_⟩
  clear h0
  rintro mm fr σ2 ⟨i, rfl, hi, hI, f2, f3, f7, f15, f16, f17⟩
  simp only [go_sem, f16, f17]
  refine aIf_by (fun hlt => ?_) (fun hlt => ?_)
  · have hil : i < rs.length := by omega
    have hrm := List.getElem_mem hil
    have hstep := flat_take (G := R) hil
    have hOl := flat_le (G := R) (l := rs) (i + 1)
    rw [hstep, ← hL] at hOl
    obtain ⟨O, hO⟩ : ∃ O, O = (rs.take i).flatMap R := ⟨_, rfl⟩
    rw [← hO] at hI hstep hOl
    obtain ⟨r, hr⟩ : ∃ r, r = rs[i] := ⟨_, rfl⟩
    have hrg := rlC_get hil
    rw [← hr] at hrm hstep hrg hOl
    have hRr : R r = homes.flatMap fun h => onceH names m r h := by rw [hR]
    have hr4 := hrs r hrm
    have hr1 := hr4.1.1
    have hr2 := hr4.2
    simp only [go_sem, r_block, f15, f17, hrg]
    refine ⟨by omega, aNew_intro fun e he hem => ?_⟩
    simp only [go_sem, set_same, set_set]
    have het := hI.none he
    have hI2 := hI.new (o := .cells r.cs) he
    have hke : (σ1.set e (.cells r.cs)) e = some (.cells r.cs) := set_same
    have hkc : (σ1.set e (.cells r.cs)) c = some (.cells [.sl 1 (stC homes), .sl 1 (stC names)]) := set_sub het (fun _ _ h => h) _ _ hc1
    have hck := hI2.sub hkc
    obtain ⟨σ3, e3⟩ : ∃ s, s = σ2.set e (.cells r.cs) := ⟨_, rfl⟩
    obtain ⟨τ, e4⟩ : ∃ s, s = σ1.set e (.cells r.cs) := ⟨_, rfl⟩
    rw [← e3] at hI2 hck ⊢
    rw [← e4] at hI2 hke hkc
    clear hem he hI e3
    simp only [go_sem, r_block, f3, hck]
    refine ⟨fun mm fr σ' => ∃ j : Nat, mm = homes.length - j ∧ j ≤ homes.length ∧ OnI τ d (O ++ (homes.take j).flatMap fun h => onceH names m r h) σ' ∧ fr 2 = .sl 4 (faC m) ∧ fr 3 = ptr c ∧ fr 7 = ptr d ∧ fr 9 = ptr e ∧ fr 15 = .sl 11 (rlC rs) ∧ fr 16 = int rs.length ∧ fr 17 = int i ∧ fr 22 = .sl 1 (stC homes) ∧ fr 23 = int homes.length ∧ fr 24 = int j, ⟨_, 0, rfl, by omega, by simpa using hI2, f2, f3, f7, rfl, f15, f16, f17, rfl, rfl, rfl⟩, ?_⟩
    clear hI2 hck f2 f3 f7 f15 f16 f17 fr σ3
    rintro mm fr σ3 ⟨j, rfl, hj, hI, f2, f3, f7, f9, f15, f16, f17, f22, f23, f24⟩
    simp only [go_sem, f23, f24]
    refine aIf_by (fun hlt2 => ?_) (fun hlt2 => ?_)
    · have hjl : j < homes.length := by omega
      have hhm := List.getElem_mem hjl
      have hst2 := flat_take (G := fun h => onceH names m r h) hjl
      have hOl2 := flat_le (G := fun h => onceH names m r h) (l := homes) (j + 1)
      rw [hst2, ← hRr, List.length_append] at hOl2
      rw [List.length_append] at hOl
      obtain ⟨O2, hO2⟩ : ∃ O2, O2 = O ++ (homes.take j).flatMap fun h => onceH names m r h := ⟨_, rfl⟩
      have hO2l : O2.length ≤ 900000 := by rw [hO2, List.length_append]; omega
      rw [← hO2] at hI
      have hcnt := Nat.le_trans (cntH_le (m := m) hrm hhm) hc
      obtain ⟨h, hh0⟩ : ∃ h, h = homes[j] := ⟨_, rfl⟩
      have hsg := stC_get hjl
      rw [← hh0] at hst2 hcnt hsg
      have hEf := envH_once names m r h
      have hEl := envH_len m r h
      simp only [go_sem, r_block, f2, f9, f22, f24, hI.sub hke, hsg]
      refine ⟨by omega, (insts_at r h m).mono ?_⟩
      rintro _ σ4 ⟨t3, t4, t5, rfl, cc⟩
      have hI4 := hI.more cc.sub
      obtain ⟨⟨m5, m4, m3⟩, _⟩ := cc.g2
      clear cc hI
      simp only [go_sem, r_block]
      refine gen_range (fun fr => fr 2 = .sl 4 (faC m) ∧ fr 3 = ptr c ∧ fr 7 = ptr d ∧ fr 9 = ptr e ∧ fr 15 = .sl 11 (rlC rs) ∧ fr 16 = int rs.length ∧ fr 17 = int i ∧ fr 22 = .sl 1 (stC homes) ∧ fr 23 = int homes.length ∧ fr 24 = int j) ⟨f2, f3, f7, f9, f15, f16, f17, f22, f23, f24⟩ fun assign body fr hA hB ⟨f2, f3, f7, f9, f15, f16, f17, f22, f23, f24⟩ => ?_
      intro n l hl hlm
      have htl := hI4.none hl
      have hsl : ∀ y o, σ4 y = some o → (σ4.set l (.loop fr n [32] assign body .ready none)) y = some o := set_sub hl fun _ _ h => h
      refine (inst_at (d := d) 900000 r h m hr4.1 hm (fun envs σ' => OnI τ d (O2 ++ envs.filterMap (hdN names r)) σ' ∧ σ' l = some (.loop fr n [32] assign body .ready none)) ?_ ?_ ?_ (hsl _ _ m3) (hsl _ _ m4) (hsl _ _ m5) ⟨by simpa using hI4.more hsl, set_same⟩ (by omega)).mono ?_
      · rintro acc σ5 ⟨g1, g2⟩
        obtain ⟨_, lv, g3, _⟩ := g1
        exact ⟨_, g3⟩
      · rintro acc σ5 c' o ⟨g1, g2⟩ hc'
        have hk : ∀ y p, σ5 y = some p → (σ5.set c' (.cells o)) y = some p := set_sub hc' fun _ _ h => h
        exact ⟨g1.more hk, hk _ _ g2⟩
      · rintro acc env σ5 hacc henv ⟨g1, g2⟩
        have hal : (acc.filterMap (hdN names r)).length ≤ 900000 := Nat.le_trans (List.length_filterMap_le _ _) (by rw [List.length_append] at hacc; omega)
        refine yield_to hA g2 rfl (by rw [hA, hB]; rfl) ?_
        have hbg := fun k fr1 σ1 => begun_b (P := Tryz.prog) (l := l) (fr := fr) (fr1 := fr1) (σ1 := σ1) (ps := [32]) (n := n) (assign := assign) (k := k) hB
        simp only [go_sem, hbg]
        refine ⟨g2, ?_⟩
        have g3 := g1.loop (σ' := σ5.set l (.loop fr n [32] assign body .busy none)) g2 htl fun y hy => set_ne hy
        have g4 : (σ5.set l (.loop fr n [32] assign body .busy none)) l = some (.loop fr n [32] assign body .busy none) := set_same
        have hkp : Kp d σ5 (σ5.set l (.loop fr n [32] assign body .busy none)) := fun y cs hy _ => by rw [set_ne (fun e => by rw [e, g2] at hy; cases hy)]; exact hy
        revert g3 g4 hkp
        generalize σ5.set l (.loop fr n [32] assign body .busy none) = σ6
        intro g3 g4 hkp
        have h3e := g3.sub hke
        have h3c := g3.sub hkc
        simp only [go_sem, r_block, f9, h3e]
        refine (head_at r env (by omega) (by omega)).mono ?_
        rintro _ σ6 ⟨rfl, rfl⟩
        simp only [go_sem]
        refine aNew_intro fun q hq hqm => ?_
        have g5 := g3.more (set_sub (o := .cells (headF r env |>.getD Fa.nil).cs) hq fun _ _ h => h)
        have g6 := set_sub (o := .cells (headF r env |>.getD Fa.nil).cs) hq (fun _ _ h => h) _ _ g4
        have g7 := set_sub (o := .cells (headF r env |>.getD Fa.nil).cs) hq (fun _ _ h => h) _ _ h3c
        have hkp2 : Kp d σ5 (σ6.set q (.cells (headF r env |>.getD Fa.nil).cs)) := hkp.trans (.of (set_sub hq fun _ _ h => h))
        have g8 : (σ6.set q (.cells (headF r env |>.getD Fa.nil).cs)) q = some (.cells (headF r env |>.getD Fa.nil).cs) := set_same
        simp only [go_sem, set_same, set_set]
        revert g5 g6 g7 g8 hkp2
        generalize σ6.set q (.cells (headF r env |>.getD Fa.nil).cs) = σ7
        intro g5 g6 g7 hkp2 g8
        have no : hdN names r env = none → acc.filterMap (hdN names r) = (acc ++ [env]).filterMap (hdN names r) := fun h => by rw [List.filterMap_append]; simp [h]
        have yes : ∀ f, hdN names r env = some f → acc.filterMap (hdN names r) ++ [f] = (acc ++ [env]).filterMap (hdN names r) := fun f h => by rw [List.filterMap_append]; simp [h]
        have fin : ∀ {σ8 : St} {fs : List Fa}, fs = (acc ++ [env]).filterMap (hdN names r) → OnI τ d (O2 ++ fs) σ8 → σ8 l = some (.loop fr n [32] assign body .busy none) → Kp d σ5 σ8 → OnI τ d (O2 ++ (acc ++ [env]).filterMap (hdN names r)) (σ8.set l (.loop fr n [32] assign body .ready none)) ∧ Kp d σ5 (σ8.set l (.loop fr n [32] assign body .ready none)) := by
          rintro σ8 _ rfl k1 k2 k3
          exact ⟨k1.loop k2 htl fun y hy => set_ne hy, k3.trans fun y cs hy _ => by rw [set_ne (fun e => by rw [e, k2] at hy; cases hy)]; exact hy⟩
        cases hh : headF r env with
        | none =>
          have hno : hdN names r env = none := by unfold hdN; rw [hh]
          have his : (none : Option Fa).isSome = false := rfl
          simp only [go_sem, r_block, his, round_n]
          exact ⟨⟨_, g6⟩, fin (no hno) g5 g6 hkp2⟩
        | some f =>
          rw [hh] at g8
          have g8' : σ7 q = some (.cells f.cs) := g8
          have his : (some f).isSome = true := rfl
          simp only [go_sem, r_block, his, f3, g7, g8']
          refine (has_at (l := names) (s := f.at') (by omega) .sl).mono ?_
          rintro _ σ7 ⟨rfl, rfl⟩
          simp only [go_sem, r_block]
          refine aIf_by (fun hin => ?_) (fun hin => ?_)
          · have hyes : hdN names r env = some f := by unfold hdN; rw [hh]; simp only; rw [if_pos hin]
            obtain ⟨hd0, lv, h1, h2, h3⟩ := g5
            have nl : ¬ Own lv l := fun ho => by obtain ⟨cap, h⟩ := h2.own_rows ho; rw [g6] at h; cases h
            simp only [go_sem, r_block, f7, h1, g8']
            refine aApp_by (ys := [f.cs]) rfl (by decide) (by decide) (by decide) (h2.app (by rw [faC_len, List.length_append]; simp only [List.length_cons, List.length_nil]; omega) fun lv' σ8 hL4 hs4 => ?_)
            have m1 := hs4 _ _ h1 (h2.not_own h1)
            have m6 := hs4 _ _ g6 nl
            have h3' := h3.step hs4
            simp only [go_sem, r_block, m1.1, f7, hL4.one, hL4.cells, round_n]
            have hld : l ≠ d := fun e => by rw [e, h1] at g6; cases g6
            have g6' : (σ8.set d (.cells [lv'])) l = some (.loop fr n [32] assign body .busy none) := by rw [set_ne hld]; exact m6.1
            refine ⟨⟨_, g6'⟩, fin (yes f hyes) (σ8 := σ8.set d (.cells [lv'])) ⟨hd0, lv', set_same, ?_, fun y o hy => ⟨?_, (h3' y o hy).2⟩⟩ g6' fun y cs hy hn => ?_⟩
            · rw [← List.append_assoc, show faC (O2 ++ acc.filterMap (hdN names r) ++ [f]) = faC (O2 ++ acc.filterMap (hdN names r)) ++ [f.cs] by simp [faC]]
              exact hL4.keep fun y o hy ho => by rw [set_ne (by rintro rfl; exact m1.2 ho)]; exact hy
            · rw [set_ne (fun e => by rw [e, hd0] at hy; cases hy)]
              exact (h3' y o hy).1
            · have := hkp2 y cs hy hn
              rw [set_ne hn]
              exact (hs4 y _ this (h2.not_own this)).1
          · have hno : hdN names r env = none := by unfold hdN; rw [hh]; simp only; rw [if_neg hin]
            simp only [go_sem, r_block, round_n]
            exact ⟨⟨_, g6⟩, fin (no hno) g5 g6 hkp2⟩
      · rintro _ σ5 ⟨⟨g1, g2⟩, _⟩
        rw [← hEf] at g1
        have hdel : ∀ y, y ≠ l → (σ5.del l) y = σ5 y := fun y hy => by simp only [St.del]; rw [if_neg hy]
        have g3 := g1.loop g2 htl hdel
        unfold aAfter
        rw [g2]
        refine ⟨(by intro h; cases h), ?_⟩
        unfold aPend
        dsimp only
        simp only [go_sem, r_block, f2, f3, f7, f9, f15, f16, f17, f22, f23, f24, next64 (show j < 9223372036854775807 by omega)]
        refine ⟨homes.length - (j + 1), by omega, j + 1, rfl, by omega, ?_, ?_⟩
        · rw [hst2, ← List.append_assoc, ← hO2]
          exact g3
        · (and_intros <;> first | assumption | rfl | omega)
    · have htk : homes.take j = homes := List.take_of_length_le (by omega)
      rw [htk, ← hRr, ← hstep, e4] at hI
      have hI3 := hI.back het
      simp only [go_sem, r_block, f2, f3, f7, f15, f16, f17, next64 (show i < 9223372036854775807 by omega)]
      refine ⟨rs.length - (i + 1), by omega, i + 1, rfl, by omega, ?_⟩
      exact ⟨hI3, rfl⟩
  · have htk : rs.take i = rs := List.take_of_length_le (by omega)
    rw [htk, ← hL] at hI
    obtain ⟨h0, lv, h1, h2, h3⟩ := hI
    simp only [go_sem, r_block, f7, h1]
    have hw := sortedW_at (σ := σ1) (onceL homes names rs m) (by omega) (onceL_sm hrs)
    refine (AT.pre hw (by kernel_rfl) (sv_of fun x o hx => .inl (h3.sub x o hx)) (vws_cons (ret_vw h2 h3) vws_nil)).mono ?_
    rintro _ σ1 ⟨rfl, rfl⟩
    simp only [go_sem, r_block]
    exact aRet_view (r := .sl 4 (faC (onceF homes names rs m))) rfl _ σ (view_drop hs1) ⟨rfl, rfl⟩
end
end Go.Proofs.YthdfpankebjleaaGreat

/-
  The tables by which runs of this program are reckoned.
  Conditions: none.
-/
namespace Go.Proofs.YthdfpankebjleaaGreat
open Go Go.Av
def te3 : TE := ⟨⟨false, 1, [.int .i64 0], .int .i64⟩, false, false, false, false, false, true, none⟩
theorem teOk3 : TeOk Tryz.prog 3 te3 := ⟨by kernel_rfl, by kernel_rfl, by kernel_rfl, by kernel_rfl, by kernel_rfl, by kernel_rfl, by kernel_rfl, fun ls h => by cases h⟩
def te4 : TE := ⟨⟨false, 1, [.bool false], .bool⟩, false, false, false, false, true, true, none⟩
theorem teOk4 : TeOk Tryz.prog 4 te4 := ⟨by kernel_rfl, by kernel_rfl, by kernel_rfl, by kernel_rfl, by kernel_rfl, by kernel_rfl, by kernel_rfl, fun ls h => by cases h⟩
def te5 : TE := ⟨⟨false, 1, [.int .u8 0], .int .u8⟩, false, false, false, false, false, true, none⟩
theorem teOk5 : TeOk Tryz.prog 5 te5 := ⟨by kernel_rfl, by kernel_rfl, by kernel_rfl, by kernel_rfl, by kernel_rfl, by kernel_rfl, by kernel_rfl, fun ls h => by cases h⟩
def te9 : TE := ⟨⟨false, 1, [.string ⟨#[]⟩], .str⟩, false, false, false, false, false, true, none⟩
theorem teOk9 : TeOk Tryz.prog 9 te9 := ⟨by kernel_rfl, by kernel_rfl, by kernel_rfl, by kernel_rfl, by kernel_rfl, by kernel_rfl, by kernel_rfl, fun ls h => by cases h⟩
def te20 : TE := ⟨⟨false, 1, [.nilIface], .iface⟩, false, false, false, false, false, false, none⟩
theorem teOk20 : TeOk Tryz.prog 20 te20 := ⟨by kernel_rfl, by kernel_rfl, by kernel_rfl, by kernel_rfl, by kernel_rfl, by kernel_rfl, by kernel_rfl, fun ls h => by cases h⟩
def te22 : TE := ⟨⟨false, 1, [.slice none 0 0], .sl 1 16 [.string ⟨#[]⟩] false⟩, true, false, false, false, false, true, none⟩
theorem teOk22 : TeOk Tryz.prog 22 te22 := ⟨by kernel_rfl, by kernel_rfl, by kernel_rfl, by kernel_rfl, by kernel_rfl, by kernel_rfl, by kernel_rfl, fun ls h => by cases h⟩
def te23 : TE := ⟨⟨false, 1, [.slice none 0 0], .sl 11 160 [.string ⟨#[]⟩, .bool false, .int .i64 0, .string ⟨#[]⟩, .string ⟨#[]⟩, .slice none 0 0, .string ⟨#[]⟩, .bool false, .int .i64 0, .string ⟨#[]⟩, .slice none 0 0] false⟩, true, false, false, false, false, true, none⟩
theorem teOk23 : TeOk Tryz.prog 23 te23 := ⟨by kernel_rfl, by kernel_rfl, by kernel_rfl, by kernel_rfl, by kernel_rfl, by kernel_rfl, by kernel_rfl, fun ls h => by cases h⟩
def te24 : TE := ⟨⟨false, 1, [.slice none 0 0], .sl 4 72 [.string ⟨#[]⟩, .string ⟨#[]⟩, .string ⟨#[]⟩, .slice none 0 0] false⟩, true, false, false, false, false, true, none⟩
theorem teOk24 : TeOk Tryz.prog 24 te24 := ⟨by kernel_rfl, by kernel_rfl, by kernel_rfl, by kernel_rfl, by kernel_rfl, by kernel_rfl, by kernel_rfl, fun ls h => by cases h⟩
def te31 : TE := ⟨⟨false, 1, [.int .i64 0], .int .i64⟩, false, false, false, false, false, true, none⟩
theorem teOk31 : TeOk Tryz.prog 31 te31 := ⟨by kernel_rfl, by kernel_rfl, by kernel_rfl, by kernel_rfl, by kernel_rfl, by kernel_rfl, by kernel_rfl, fun ls h => by cases h⟩
def te35 : TE := ⟨⟨true, 2, [.slice none 0 0, .slice none 0 0], .st [(0, 1, false), (1, 1, false)]⟩, false, false, false, false, false, true, none⟩
theorem teOk35 : TeOk Tryz.prog 35 te35 := ⟨by kernel_rfl, by kernel_rfl, by kernel_rfl, by kernel_rfl, by kernel_rfl, by kernel_rfl, by kernel_rfl, fun ls h => by cases h⟩
def te38 : TE := ⟨⟨true, 3, [.bool false, .int .i64 0, .string ⟨#[]⟩], .st [(0, 1, false), (1, 1, false), (2, 1, false)]⟩, false, false, false, false, false, true, (some [.b, .i .i64, .s])⟩
theorem teOk38 : TeOk Tryz.prog 38 te38 := ⟨by kernel_rfl, by kernel_rfl, by kernel_rfl, by kernel_rfl, by kernel_rfl, by kernel_rfl, by kernel_rfl, fun ls h => by cases h; exact ⟨by kernel_rfl, by kernel_rfl, by kernel_rfl⟩⟩
def te40 : TE := ⟨⟨true, 4, [.string ⟨#[]⟩, .bool false, .int .i64 0, .string ⟨#[]⟩], .st [(0, 1, false), (1, 3, true)]⟩, false, false, false, false, false, true, (some [.s, .b, .i .i64, .s])⟩
theorem teOk40 : TeOk Tryz.prog 40 te40 := ⟨by kernel_rfl, by kernel_rfl, by kernel_rfl, by kernel_rfl, by kernel_rfl, by kernel_rfl, by kernel_rfl, fun ls h => by cases h; exact ⟨by kernel_rfl, by kernel_rfl, by kernel_rfl⟩⟩
def te41 : TE := ⟨⟨false, 1, [.slice none 0 0], .sl 4 48 [.string ⟨#[]⟩, .bool false, .int .i64 0, .string ⟨#[]⟩] false⟩, true, false, false, false, false, true, none⟩
theorem teOk41 : TeOk Tryz.prog 41 te41 := ⟨by kernel_rfl, by kernel_rfl, by kernel_rfl, by kernel_rfl, by kernel_rfl, by kernel_rfl, by kernel_rfl, fun ls h => by cases h⟩
def te42 : TE := ⟨⟨false, 1, [.slice none 0 0], .sl 10 136 [.string ⟨#[]⟩, .bool false, .int .i64 0, .string ⟨#[]⟩, .string ⟨#[]⟩, .slice none 0 0, .string ⟨#[]⟩, .bool false, .int .i64 0, .string ⟨#[]⟩] false⟩, true, false, false, false, false, true, none⟩
theorem teOk42 : TeOk Tryz.prog 42 te42 := ⟨by kernel_rfl, by kernel_rfl, by kernel_rfl, by kernel_rfl, by kernel_rfl, by kernel_rfl, by kernel_rfl, fun ls h => by cases h⟩
def te44 : TE := ⟨⟨true, 11, [.string ⟨#[]⟩, .bool false, .int .i64 0, .string ⟨#[]⟩, .string ⟨#[]⟩, .slice none 0 0, .string ⟨#[]⟩, .bool false, .int .i64 0, .string ⟨#[]⟩, .slice none 0 0], .st [(0, 4, true), (4, 1, false), (5, 1, false), (6, 4, true), (10, 1, false)]⟩, false, false, false, false, false, true, none⟩
theorem teOk44 : TeOk Tryz.prog 44 te44 := ⟨by kernel_rfl, by kernel_rfl, by kernel_rfl, by kernel_rfl, by kernel_rfl, by kernel_rfl, by kernel_rfl, fun ls h => by cases h⟩
def te45 : TE := ⟨⟨false, 1, [.slice none 0 0], .sl 3 32 [.bool false, .int .i64 0, .string ⟨#[]⟩] false⟩, true, false, false, false, false, true, none⟩
theorem teOk45 : TeOk Tryz.prog 45 te45 := ⟨by kernel_rfl, by kernel_rfl, by kernel_rfl, by kernel_rfl, by kernel_rfl, by kernel_rfl, by kernel_rfl, fun ls h => by cases h⟩
def te47 : TE := ⟨⟨true, 4, [.string ⟨#[]⟩, .string ⟨#[]⟩, .string ⟨#[]⟩, .slice none 0 0], .st [(0, 1, false), (1, 1, false), (2, 1, false), (3, 1, false)]⟩, false, false, false, false, false, true, none⟩
theorem teOk47 : TeOk Tryz.prog 47 te47 := ⟨by kernel_rfl, by kernel_rfl, by kernel_rfl, by kernel_rfl, by kernel_rfl, by kernel_rfl, by kernel_rfl, fun ls h => by cases h⟩
def te70 : TE := ⟨⟨false, 1, [.slice none 0 0], .sl 4 48 [.string ⟨#[]⟩, .bool false, .int .i64 0, .string ⟨#[]⟩] false⟩, true, false, false, false, false, true, none⟩
theorem teOk70 : TeOk Tryz.prog 70 te70 := ⟨by kernel_rfl, by kernel_rfl, by kernel_rfl, by kernel_rfl, by kernel_rfl, by kernel_rfl, by kernel_rfl, fun ls h => by cases h⟩
def te75 : TE := ⟨⟨true, 10, [.string ⟨#[]⟩, .bool false, .int .i64 0, .string ⟨#[]⟩, .string ⟨#[]⟩, .slice none 0 0, .string ⟨#[]⟩, .bool false, .int .i64 0, .string ⟨#[]⟩], .st [(0, 4, true), (4, 1, false), (5, 1, false), (6, 4, true)]⟩, false, false, false, false, false, true, none⟩
theorem teOk75 : TeOk Tryz.prog 75 te75 := ⟨by kernel_rfl, by kernel_rfl, by kernel_rfl, by kernel_rfl, by kernel_rfl, by kernel_rfl, by kernel_rfl, fun ls h => by cases h⟩
def te87 : TE := ⟨⟨false, 1, [.nilFunc], .other⟩, false, false, true, false, false, true, none⟩
theorem teOk87 : TeOk Tryz.prog 87 te87 := ⟨by kernel_rfl, by kernel_rfl, by kernel_rfl, by kernel_rfl, by kernel_rfl, by kernel_rfl, by kernel_rfl, fun ls h => by cases h⟩
def te102 : TE := ⟨⟨false, 1, [.slice none 0 0], .sl 1 8 [.int .i64 0] false⟩, true, false, false, false, false, true, none⟩
theorem teOk102 : TeOk Tryz.prog 102 te102 := ⟨by kernel_rfl, by kernel_rfl, by kernel_rfl, by kernel_rfl, by kernel_rfl, by kernel_rfl, by kernel_rfl, fun ls h => by cases h⟩
def te115 : TE := ⟨⟨true, 4, [.string ⟨#[]⟩, .bool false, .int .i64 0, .string ⟨#[]⟩], .st [(0, 1, false), (1, 3, true)]⟩, false, false, false, false, false, true, (some [.s, .b, .i .i64, .s])⟩
theorem teOk115 : TeOk Tryz.prog 115 te115 := ⟨by kernel_rfl, by kernel_rfl, by kernel_rfl, by kernel_rfl, by kernel_rfl, by kernel_rfl, by kernel_rfl, fun ls h => by cases h; exact ⟨by kernel_rfl, by kernel_rfl, by kernel_rfl⟩⟩
def te122 : TE := ⟨⟨false, 1, [.nilFunc], .other⟩, false, false, true, false, false, true, none⟩
theorem teOk122 : TeOk Tryz.prog 122 te122 := ⟨by kernel_rfl, by kernel_rfl, by kernel_rfl, by kernel_rfl, by kernel_rfl, by kernel_rfl, by kernel_rfl, fun ls h => by cases h⟩
def te123 : TE := ⟨⟨false, 1, [.slice none 0 0], .sl 4 40 [.int .i64 0, .string ⟨#[]⟩, .int .i64 0, .int .i64 0] false⟩, true, false, false, false, false, true, none⟩
theorem teOk123 : TeOk Tryz.prog 123 te123 := ⟨by kernel_rfl, by kernel_rfl, by kernel_rfl, by kernel_rfl, by kernel_rfl, by kernel_rfl, by kernel_rfl, fun ls h => by cases h⟩
def te126 : TE := ⟨⟨false, 1, [.pointer none], .ptr 128⟩, false, true, false, false, false, true, none⟩
theorem teOk126 : TeOk Tryz.prog 126 te126 := ⟨by kernel_rfl, by kernel_rfl, by kernel_rfl, by kernel_rfl, by kernel_rfl, by kernel_rfl, by kernel_rfl, fun ls h => by cases h⟩
def te128 : TE := ⟨⟨true, 2, [.slice none 0 0, .int .i64 0], .st [(0, 1, false), (1, 1, false)]⟩, false, false, false, false, false, true, none⟩
theorem teOk128 : TeOk Tryz.prog 128 te128 := ⟨by kernel_rfl, by kernel_rfl, by kernel_rfl, by kernel_rfl, by kernel_rfl, by kernel_rfl, by kernel_rfl, fun ls h => by cases h⟩
def te130 : TE := ⟨⟨true, 2, [.int .i64 0, .int .i64 0], .st [(0, 1, false), (1, 1, false)]⟩, false, false, false, false, false, true, (some [.i .i64, .i .i64])⟩
theorem teOk130 : TeOk Tryz.prog 130 te130 := ⟨by kernel_rfl, by kernel_rfl, by kernel_rfl, by kernel_rfl, by kernel_rfl, by kernel_rfl, by kernel_rfl, fun ls h => by cases h; exact ⟨by kernel_rfl, by kernel_rfl, by kernel_rfl⟩⟩
def te138 : TE := ⟨⟨false, 1, [.nilFunc], .other⟩, false, false, true, false, false, true, none⟩
theorem teOk138 : TeOk Tryz.prog 138 te138 := ⟨by kernel_rfl, by kernel_rfl, by kernel_rfl, by kernel_rfl, by kernel_rfl, by kernel_rfl, by kernel_rfl, fun ls h => by cases h⟩
def te143 : TE := ⟨⟨false, 1, [.nilFunc], .other⟩, false, false, true, false, false, true, none⟩
theorem teOk143 : TeOk Tryz.prog 143 te143 := ⟨by kernel_rfl, by kernel_rfl, by kernel_rfl, by kernel_rfl, by kernel_rfl, by kernel_rfl, by kernel_rfl, fun ls h => by cases h⟩
def te163 : TE := ⟨⟨false, 1, [.nilFunc], .other⟩, false, false, true, false, false, true, none⟩
theorem teOk163 : TeOk Tryz.prog 163 te163 := ⟨by kernel_rfl, by kernel_rfl, by kernel_rfl, by kernel_rfl, by kernel_rfl, by kernel_rfl, by kernel_rfl, fun ls h => by cases h⟩
def te166 : TE := ⟨⟨true, 4, [.int .i64 0, .string ⟨#[]⟩, .int .i64 0, .int .i64 0], .st [(0, 1, false), (1, 1, false), (2, 1, false), (3, 1, false)]⟩, false, false, false, false, false, true, (some [.i .i64, .s, .i .i64, .i .i64])⟩
theorem teOk166 : TeOk Tryz.prog 166 te166 := ⟨by kernel_rfl, by kernel_rfl, by kernel_rfl, by kernel_rfl, by kernel_rfl, by kernel_rfl, by kernel_rfl, fun ls h => by cases h; exact ⟨by kernel_rfl, by kernel_rfl, by kernel_rfl⟩⟩
def te178 : TE := ⟨⟨false, 1, [.int .u64 0], .int .u64⟩, false, false, false, false, false, true, none⟩
theorem teOk178 : TeOk Tryz.prog 178 te178 := ⟨by kernel_rfl, by kernel_rfl, by kernel_rfl, by kernel_rfl, by kernel_rfl, by kernel_rfl, by kernel_rfl, fun ls h => by cases h⟩
def te185 : TE := ⟨⟨false, 1, [.nilFunc], .other⟩, false, false, true, false, false, true, none⟩
theorem teOk185 : TeOk Tryz.prog 185 te185 := ⟨by kernel_rfl, by kernel_rfl, by kernel_rfl, by kernel_rfl, by kernel_rfl, by kernel_rfl, by kernel_rfl, fun ls h => by cases h⟩
def te195 : TE := ⟨⟨false, 1, [.int .i64 0], .int .i64⟩, false, false, false, false, false, true, none⟩
theorem teOk195 : TeOk Tryz.prog 195 te195 := ⟨by kernel_rfl, by kernel_rfl, by kernel_rfl, by kernel_rfl, by kernel_rfl, by kernel_rfl, by kernel_rfl, fun ls h => by cases h⟩
def te202 : TE := ⟨⟨false, 1, [.int .u32 0], .int .u32⟩, false, false, false, false, false, true, none⟩
theorem teOk202 : TeOk Tryz.prog 202 te202 := ⟨by kernel_rfl, by kernel_rfl, by kernel_rfl, by kernel_rfl, by kernel_rfl, by kernel_rfl, by kernel_rfl, fun ls h => by cases h⟩
def te204 : TE := ⟨⟨false, 1, [.int .u64 0], .int .u64⟩, false, false, false, false, false, true, none⟩
theorem teOk204 : TeOk Tryz.prog 204 te204 := ⟨by kernel_rfl, by kernel_rfl, by kernel_rfl, by kernel_rfl, by kernel_rfl, by kernel_rfl, by kernel_rfl, fun ls h => by cases h⟩
def te213 : TE := ⟨⟨false, 1, [.int .u64 0], .int .u64⟩, false, false, false, false, false, true, none⟩
theorem teOk213 : TeOk Tryz.prog 213 te213 := ⟨by kernel_rfl, by kernel_rfl, by kernel_rfl, by kernel_rfl, by kernel_rfl, by kernel_rfl, by kernel_rfl, fun ls h => by cases h⟩
def te217 : TE := ⟨⟨false, 1, [.pointer none], .ptr 3⟩, false, true, false, false, false, true, none⟩
theorem teOk217 : TeOk Tryz.prog 217 te217 := ⟨by kernel_rfl, by kernel_rfl, by kernel_rfl, by kernel_rfl, by kernel_rfl, by kernel_rfl, by kernel_rfl, fun ls h => by cases h⟩
def tyT : Tr TE := (.n (.n (.n (.n (.n (.n (.n (.n .e (.n (.n (.l te128) .e) .e)) .e) .e) .e) (.n (.n .e (.n (.n (.n (.n (.l te40) .e) .e) .e) .e)) (.n (.n (.n (.n (.n (.l te24) .e) .e) .e) .e) .e))) (.n (.n (.n (.n (.n (.n (.n (.l te4) .e) .e) .e) .e) .e) (.n (.n (.n (.n (.n (.l te20) .e) .e) .e) .e) .e)) (.n (.n (.n .e (.n .e (.n (.n (.l te204) .e) .e))) (.n (.n (.n (.n (.l te44) .e) .e) .e) .e)) .e))) (.n (.n (.n (.n (.n (.n .e (.n (.n (.l te130) .e) .e)) .e) .e) (.n .e (.n (.n .e (.n (.n (.l te178) .e) .e)) .e))) (.n (.n (.n (.n .e (.n (.n (.l te138) .e) .e)) (.n .e (.n (.n (.l te202) .e) .e))) (.n (.n (.n (.n (.l te42) .e) .e) .e) .e)) (.n .e (.n .e (.n (.n (.n (.l te122) .e) .e) .e))))) (.n (.n (.n (.n .e (.n (.n (.n (.l te70) .e) .e) .e)) (.n (.n (.n (.n (.l te38) .e) .e) (.n (.n (.l te166) .e) .e)) (.n (.n (.n (.l te102) .e) .e) .e))) (.n (.n (.n (.n (.n (.l te22) .e) .e) .e) .e) .e)) (.n .e (.n .e (.n .e (.n (.n (.n (.l te126) .e) .e) .e))))))) (.n (.n (.n .e (.n (.n (.n (.n (.n (.n (.l te9) .e) .e) .e) .e) (.n (.n (.n (.n (.l te41) .e) .e) .e) .e)) (.n (.n .e (.n .e (.n (.n (.l te217) .e) .e))) (.n (.n .e (.n (.n (.l te185) .e) .e)) .e)))) (.n (.n (.n (.n (.n (.n (.n (.l te5) .e) .e) .e) .e) .e) (.n (.n .e (.n .e (.n (.n (.l te213) .e) .e))) .e)) (.n (.n .e (.n (.n (.n (.n (.l te45) .e) .e) .e) .e)) .e))) (.n (.n (.n (.n (.n (.n (.n (.n (.l te3) .e) .e) .e) (.n .e (.n (.n (.l te195) .e) .e))) (.n (.n (.n (.n (.l te35) .e) .e) (.n (.n (.l te163) .e) .e)) .e)) (.n .e (.n .e (.n (.n (.n (.l te115) .e) .e) .e)))) (.n (.n (.n .e (.n (.n (.n (.l te75) .e) .e) .e)) .e) (.n .e (.n .e (.n (.n (.n (.l te123) .e) .e) .e))))) (.n (.n .e (.n (.n (.n (.n (.n (.l te23) .e) .e) .e) (.n (.n (.n (.l te87) .e) .e) .e)) .e)) (.n (.n (.n (.n .e (.n (.n (.l te143) .e) .e)) .e) (.n (.n (.n (.n (.l te47) .e) .e) .e) .e)) (.n (.n (.n (.n (.n (.l te31) .e) .e) .e) .e) .e))))))
theorem tyOk : tyT.All 10 (TeOk Tryz.prog) := ⟨⟨⟨⟨⟨⟨⟨⟨trivial, ⟨⟨teOk128, trivial⟩, trivial⟩⟩, trivial⟩, trivial⟩, trivial⟩, ⟨⟨trivial, ⟨⟨⟨⟨teOk40, trivial⟩, trivial⟩, trivial⟩, trivial⟩⟩, ⟨⟨⟨⟨⟨teOk24, trivial⟩, trivial⟩, trivial⟩, trivial⟩, trivial⟩⟩⟩, ⟨⟨⟨⟨⟨⟨⟨teOk4, trivial⟩, trivial⟩, trivial⟩, trivial⟩, trivial⟩, ⟨⟨⟨⟨⟨teOk20, trivial⟩, trivial⟩, trivial⟩, trivial⟩, trivial⟩⟩, ⟨⟨⟨trivial, ⟨trivial, ⟨⟨teOk204, trivial⟩, trivial⟩⟩⟩, ⟨⟨⟨⟨teOk44, trivial⟩, trivial⟩, trivial⟩, trivial⟩⟩, trivial⟩⟩⟩, ⟨⟨⟨⟨⟨⟨trivial, ⟨⟨teOk130, trivial⟩, trivial⟩⟩, trivial⟩, trivial⟩, ⟨trivial, ⟨⟨trivial, ⟨⟨teOk178, trivial⟩, trivial⟩⟩, trivial⟩⟩⟩, ⟨⟨⟨⟨trivial, ⟨⟨teOk138, trivial⟩, trivial⟩⟩, ⟨trivial, ⟨⟨teOk202, trivial⟩, trivial⟩⟩⟩, ⟨⟨⟨⟨teOk42, trivial⟩, trivial⟩, trivial⟩, trivial⟩⟩, ⟨trivial, ⟨trivial, ⟨⟨⟨teOk122, trivial⟩, trivial⟩, trivial⟩⟩⟩⟩⟩, ⟨⟨⟨⟨trivial, ⟨⟨⟨teOk70, trivial⟩, trivial⟩, trivial⟩⟩, ⟨⟨⟨⟨teOk38, trivial⟩, trivial⟩, ⟨⟨teOk166, trivial⟩, trivial⟩⟩, ⟨⟨⟨teOk102, trivial⟩, trivial⟩, trivial⟩⟩⟩, ⟨⟨⟨⟨⟨teOk22, trivial⟩, trivial⟩, trivial⟩, trivial⟩, trivial⟩⟩, ⟨trivial, ⟨trivial, ⟨trivial, ⟨⟨⟨teOk126, trivial⟩, trivial⟩, trivial⟩⟩⟩⟩⟩⟩⟩, ⟨⟨⟨trivial, ⟨⟨⟨⟨⟨⟨teOk9, trivial⟩, trivial⟩, trivial⟩, trivial⟩, ⟨⟨⟨⟨teOk41, trivial⟩, trivial⟩, trivial⟩, trivial⟩⟩, ⟨⟨trivial, ⟨trivial, ⟨⟨teOk217, trivial⟩, trivial⟩⟩⟩, ⟨⟨trivial, ⟨⟨teOk185, trivial⟩, trivial⟩⟩, trivial⟩⟩⟩⟩, ⟨⟨⟨⟨⟨⟨⟨teOk5, trivial⟩, trivial⟩, trivial⟩, trivial⟩, trivial⟩, ⟨⟨trivial, ⟨trivial, ⟨⟨teOk213, trivial⟩, trivial⟩⟩⟩, trivial⟩⟩, ⟨⟨trivial, ⟨⟨⟨⟨teOk45, trivial⟩, trivial⟩, trivial⟩, trivial⟩⟩, trivial⟩⟩⟩, ⟨⟨⟨⟨⟨⟨⟨⟨teOk3, trivial⟩, trivial⟩, trivial⟩, ⟨trivial, ⟨⟨teOk195, trivial⟩, trivial⟩⟩⟩, ⟨⟨⟨⟨teOk35, trivial⟩, trivial⟩, ⟨⟨teOk163, trivial⟩, trivial⟩⟩, trivial⟩⟩, ⟨trivial, ⟨trivial, ⟨⟨⟨teOk115, trivial⟩, trivial⟩, trivial⟩⟩⟩⟩, ⟨⟨⟨trivial, ⟨⟨⟨teOk75, trivial⟩, trivial⟩, trivial⟩⟩, trivial⟩, ⟨trivial, ⟨trivial, ⟨⟨⟨teOk123, trivial⟩, trivial⟩, trivial⟩⟩⟩⟩⟩, ⟨⟨trivial, ⟨⟨⟨⟨⟨teOk23, trivial⟩, trivial⟩, trivial⟩, ⟨⟨⟨teOk87, trivial⟩, trivial⟩, trivial⟩⟩, trivial⟩⟩, ⟨⟨⟨⟨trivial, ⟨⟨teOk143, trivial⟩, trivial⟩⟩, trivial⟩, ⟨⟨⟨⟨teOk47, trivial⟩, trivial⟩, trivial⟩, trivial⟩⟩, ⟨⟨⟨⟨⟨teOk31, trivial⟩, trivial⟩, trivial⟩, trivial⟩, trivial⟩⟩⟩⟩⟩⟩
noncomputable def fe10 : FE := ⟨Tryz.f10, []⟩
noncomputable def fe12 : FE := ⟨Tryz.f12, [(4, [.rd 0 false, .rd 2 true, .rd 3 false, .rd 4 false, .ef 1 [2], .ef 5 [], .ef 6 [], .ef 7 [], .rd 8 false])]⟩
noncomputable def fe22 : FE := ⟨Tryz.f22, []⟩
noncomputable def fe25 : FE := ⟨Tryz.f25, []⟩
noncomputable def fe29 : FE := ⟨Tryz.f29, [(8, [.rd 0 false, .rd 2 false, .rd 3 true, .rd 4 true, .rd 5 false, .rd 6 false, .ef 1 [3, 4], .ef 7 [], .rd 8 false, .rd 9 false])]⟩
noncomputable def fe30 : FE := ⟨Tryz.f30, [(3, [.rd 0 false, .rd 1 true, .rd 2 true, .rd 4 false, .rd 5 true, .rd 7 false, .ef 3 [5], .ef 6 [], .ef 8 [], .rd 9 false, .rd 10 false, .rd 11 false, .rd 12 false, .rd 13 false]), (8, [.rd 0 false, .rd 1 true, .rd 2 false, .rd 3 true, .rd 5 false, .ef 4 [1], .ef 6 [], .rd 7 false, .rd 8 false, .rd 9 false, .rd 10 false, .rd 11 false]), (13, [.rd 0 true, .rd 1 false, .rd 2 true, .rd 3 false, .rd 4 false, .rd 5 true, .rd 6 false, .ef 7 [], .rd 8 false, .rd 9 false, .rd 10 false, .rd 11 false, .rd 12 false])]⟩
noncomputable def fe31 : FE := ⟨Tryz.f31, []⟩
noncomputable def fe34 : FE := ⟨Tryz.f34, [(3, [.rd 0 true, .rd 1 true, .ef 2 [0, 1], .ef 3 [1], .ef 4 []]), (9, [.rd 0 true, .rd 1 false, .ef 2 [0], .rd 3 false, .ef 4 [], .ef 5 []])]⟩
noncomputable def fe36 : FE := ⟨Tryz.f36, []⟩
noncomputable def fe37 : FE := ⟨Tryz.f37, []⟩
noncomputable def fe41 : FE := ⟨Tryz.f41, [(1, [.rd 0 false, .rd 1 true, .rd 2 false, .rd 3 true, .rd 5 false, .rd 6 true, .rd 7 false, .rd 8 true, .rd 10 false, .rd 11 true, .rd 12 false, .rd 13 true, .rd 15 false, .rd 16 true, .rd 17 false, .rd 18 true, .ef 4 [6, 8, 11, 13, 16, 18], .ef 9 [11, 13, 16, 18], .ef 14 [16, 18], .ef 19 [], .rd 20 false, .ef 21 [], .rd 22 false])]⟩
noncomputable def fe47 : FE := ⟨Tryz.f47, []⟩
noncomputable def fe48 : FE := ⟨Tryz.f48, []⟩
noncomputable def fe50 : FE := ⟨Tryz.f50, [(6, [.rd 0 false, .rd 1 false, .rd 2 false, .rd 3 true, .rd 4 false, .rd 5 false, .rd 6 false, .rd 7 true, .rd 8 false])]⟩
noncomputable def fe51 : FE := ⟨Tryz.f51, []⟩
noncomputable def fe58 : FE := ⟨Tryz.f58, []⟩
noncomputable def fe59 : FE := ⟨Tryz.f59, []⟩
noncomputable def fe60 : FE := ⟨Tryz.f60, []⟩
noncomputable def fe61 : FE := ⟨Tryz.f61, []⟩
noncomputable def fe62 : FE := ⟨Tryz.f62, [(2, [.rd 0 false, .rd 1 true, .rd 2 false, .rd 3 false, .rd 4 true, .rd 5 false, .rd 6 true, .ef 7 [1, 4], .rd 8 false, .rd 9 false, .rd 10 false, .rd 11 false])]⟩
noncomputable def fe63 : FE := ⟨Tryz.f63, []⟩
noncomputable def fe66 : FE := ⟨Tryz.f66, []⟩
noncomputable def fe67 : FE := ⟨Tryz.f67, [(3, [.rd 0 false, .rd 1 true, .rd 2 false, .rd 3 true, .ef 4 [1, 3], .ef 5 [3], .ef 6 []])]⟩
noncomputable def fe68 : FE := ⟨Tryz.f68, []⟩
noncomputable def fe69 : FE := ⟨Tryz.f69, []⟩
noncomputable def fe70 : FE := ⟨Tryz.f70, [(10, [.rd 0 false, .rd 1 true, .rd 2 false, .ef 3 [1], .rd 4 false, .ef 5 [], .rd 6 false, .ef 7 []])]⟩
noncomputable def fe73 : FE := ⟨Tryz.f73, []⟩
noncomputable def fe74 : FE := ⟨Tryz.f74, []⟩
noncomputable def fe75 : FE := ⟨Tryz.f75, [(6, [.rd 0 false, .rd 1 false, .rd 2 false, .rd 3 false, .rd 4 true, .rd 5 false, .rd 6 false, .rd 7 false, .rd 8 false, .rd 9 true, .ef 10 []]), (11, [.rd 0 false, .rd 1 false, .rd 2 false, .rd 3 false, .rd 4 true, .rd 5 false, .rd 6 false, .rd 7 false, .rd 8 false, .rd 9 true, .ef 10 [], .rd 11 false])]⟩
noncomputable def fe76 : FE := ⟨Tryz.f76, []⟩
noncomputable def fe80 : FE := ⟨Tryz.f80, []⟩
noncomputable def fe81 : FE := ⟨Tryz.f81, []⟩
noncomputable def fe82 : FE := ⟨Tryz.f82, []⟩
noncomputable def fe83 : FE := ⟨Tryz.f83, [(5, [.rd 0 false, .rd 1 true, .rd 2 false, .rd 3 true, .rd 5 false, .rd 6 true, .rd 7 false, .rd 8 true, .ef 4 [6, 8], .ef 9 [], .rd 10 false, .ef 11 [], .rd 12 false])]⟩
noncomputable def fe89 : FE := ⟨Tryz.f89, []⟩
noncomputable def fe90 : FE := ⟨Tryz.f90, [(6, [.rd 0 false, .rd 1 true, .rd 2 false, .rd 3 true, .rd 4 false, .rd 5 false, .rd 6 true, .rd 7 true, .rd 8 false, .ef 9 [], .rd 10 false, .rd 11 false, .rd 12 false, .rd 13 false, .rd 14 false])]⟩
noncomputable def fe91 : FE := ⟨Tryz.f91, []⟩
noncomputable def fe93 : FE := ⟨Tryz.f93, []⟩
noncomputable def fe94 : FE := ⟨Tryz.f94, []⟩
noncomputable def fe108 : FE := ⟨Tryz.f108, []⟩
noncomputable def fe109 : FE := ⟨Tryz.f109, []⟩
noncomputable def fe110 : FE := ⟨Tryz.f110, []⟩
noncomputable def fe111 : FE := ⟨Tryz.f111, [(7, [.rd 0 false, .rd 1 false, .rd 2 false, .rd 3 true, .rd 4 false, .ef 5 [3], .rd 6 false, .ef 7 []]), (10, [.rd 0 false, .rd 1 false, .rd 2 false, .rd 3 true, .rd 4 false, .ef 5 [3], .rd 6 false, .ef 7 []]), (24, [.rd 0 false, .rd 1 false, .rd 2 false, .rd 3 true, .rd 4 false, .ef 5 [3], .rd 6 false, .ef 7 []]), (26, [.rd 0 false, .rd 1 false, .rd 2 false, .rd 3 true, .rd 4 false, .ef 5 [3], .rd 6 false, .ef 7 []])]⟩
noncomputable def fe112 : FE := ⟨Tryz.f112, []⟩
noncomputable def fe113 : FE := ⟨Tryz.f113, []⟩
noncomputable def fe114 : FE := ⟨Tryz.f114, []⟩
noncomputable def fe115 : FE := ⟨Tryz.f115, []⟩
noncomputable def fe116 : FE := ⟨Tryz.f116, []⟩
noncomputable def fe117 : FE := ⟨Tryz.f117, []⟩
noncomputable def fe118 : FE := ⟨Tryz.f118, []⟩
noncomputable def fe119 : FE := ⟨Tryz.f119, []⟩
noncomputable def fe120 : FE := ⟨Tryz.f120, [(17, [.rd 0 false, .rd 1 false, .rd 2 false, .rd 3 false, .rd 4 false, .rd 5 false, .rd 6 false, .rd 7 false, .rd 8 true, .rd 9 false, .rd 10 false, .rd 11 false, .rd 12 true, .ef 13 [], .rd 14 false, .rd 15 false, .rd 16 false])]⟩
noncomputable def fe121 : FE := ⟨Tryz.f121, []⟩
noncomputable def fe122 : FE := ⟨Tryz.f122, []⟩
noncomputable def fe123 : FE := ⟨Tryz.f123, []⟩
noncomputable def fe135 : FE := ⟨Tryz.f135, []⟩
noncomputable def fe136 : FE := ⟨Tryz.f136, []⟩
noncomputable def fe137 : FE := ⟨Tryz.f137, []⟩
noncomputable def fe138 : FE := ⟨Tryz.f138, []⟩
noncomputable def fe139 : FE := ⟨Tryz.f139, []⟩
noncomputable def fe140 : FE := ⟨Tryz.f140, []⟩
noncomputable def fe141 : FE := ⟨Tryz.f141, []⟩
noncomputable def fe142 : FE := ⟨Tryz.f142, []⟩
noncomputable def fe143 : FE := ⟨Tryz.f143, []⟩
noncomputable def fe144 : FE := ⟨Tryz.f144, []⟩
noncomputable def fe145 : FE := ⟨Tryz.f145, [(4, [.rd 0 false, .rd 1 false, .rd 2 false, .rd 3 false, .rd 4 false, .rd 5 false, .rd 6 false, .rd 7 false, .rd 8 true, .rd 9 false, .rd 10 false, .rd 11 false, .rd 12 false, .rd 13 true, .ef 14 [], .rd 15 false, .rd 16 false]), (6, [.rd 0 false, .rd 1 false, .rd 2 false, .rd 3 false, .rd 4 false, .rd 5 false, .rd 6 false, .rd 7 false, .rd 8 false, .rd 9 true, .rd 10 false, .rd 11 false, .rd 12 false, .rd 13 true, .rd 14 false, .ef 15 [], .rd 16 false, .ef 17 []])]⟩
noncomputable def fe146 : FE := ⟨Tryz.f146, [(10, [.rd 0 false, .rd 1 false, .rd 2 false, .rd 3 false, .rd 4 false, .rd 5 false, .rd 6 false, .rd 7 false, .rd 8 false, .rd 9 false, .rd 10 false, .rd 11 true, .rd 12 false, .rd 13 false, .rd 14 false, .rd 15 true, .rd 16 false, .ef 17 [], .rd 18 false, .ef 19 []])]⟩
noncomputable def fe147 : FE := ⟨Tryz.f147, [(10, [.rd 0 false, .rd 1 false, .rd 2 false, .rd 3 false, .rd 4 false, .rd 5 false, .rd 6 false, .rd 7 false, .rd 8 false, .rd 9 false, .rd 10 false, .rd 11 true, .rd 12 false, .rd 13 false, .rd 14 false, .rd 15 true, .rd 16 false, .ef 17 [], .rd 18 false, .ef 19 []])]⟩
noncomputable def fe148 : FE := ⟨Tryz.f148, []⟩
noncomputable def fe149 : FE := ⟨Tryz.f149, [(3, [.rd 0 false, .rd 1 false, .rd 2 false, .rd 3 false, .rd 4 false, .rd 5 false, .rd 6 false, .rd 7 true, .rd 8 false, .rd 9 false, .rd 10 false, .rd 11 true, .rd 12 false, .ef 13 [], .rd 14 false, .ef 15 []])]⟩
noncomputable def fe150 : FE := ⟨Tryz.f150, [(5, [.rd 0 false, .rd 1 false, .rd 2 false, .rd 3 false, .rd 4 false, .rd 5 false, .rd 6 false, .rd 7 false, .rd 8 true, .rd 9 false, .rd 10 false, .rd 11 false, .rd 12 false, .rd 13 true, .ef 14 [], .rd 15 false, .rd 16 false, .rd 17 false]), (11, [.rd 0 false, .rd 1 false, .rd 2 false, .rd 3 false, .rd 4 false, .rd 5 false, .rd 6 false, .rd 7 false, .rd 8 false, .rd 9 true, .rd 10 false, .rd 11 false, .rd 12 false, .rd 13 true, .rd 14 false, .ef 15 [], .rd 16 false, .ef 17 []]), (16, [.rd 0 false, .rd 1 false, .rd 2 false, .rd 3 false, .rd 4 true, .rd 5 false, .rd 6 false, .rd 7 false, .rd 8 false, .rd 9 true, .ef 10 [], .rd 11 false, .rd 12 false]), (17, [.rd 0 false, .rd 1 false, .rd 2 false, .rd 3 false, .rd 4 false, .rd 5 false, .rd 6 false, .rd 7 false, .rd 8 false, .rd 9 true, .rd 10 false, .rd 11 false, .rd 12 false, .rd 13 true, .rd 14 false, .ef 15 [], .rd 16 false, .ef 17 []]), (22, [.rd 0 false, .rd 1 false, .rd 2 false, .rd 3 false, .rd 4 true, .rd 5 false, .rd 6 false, .rd 7 false, .rd 8 false, .rd 9 true, .ef 10 [], .rd 11 false, .rd 12 false]), (23, [.rd 0 false, .rd 1 false, .rd 2 false, .rd 3 false, .rd 4 false, .rd 5 false, .rd 6 false, .rd 7 false, .rd 8 false, .rd 9 true, .rd 10 false, .rd 11 false, .rd 12 false, .rd 13 true, .rd 14 false, .ef 15 [], .rd 16 false, .ef 17 []])]⟩
noncomputable def fe151 : FE := ⟨Tryz.f151, [(1, [.rd 0 false, .rd 1 false, .rd 2 false, .rd 3 false, .rd 4 false, .rd 5 false, .rd 6 false, .rd 7 true, .rd 8 false, .rd 9 false, .rd 10 false, .rd 11 true, .rd 12 false, .ef 13 [], .rd 14 false, .ef 15 []]), (3, [.rd 0 false, .rd 1 false, .rd 2 false, .rd 3 false, .rd 4 false, .rd 5 false, .rd 6 false, .rd 7 false, .rd 8 true, .rd 9 false, .rd 10 false, .rd 11 false, .rd 12 true, .ef 13 [], .rd 14 false, .rd 15 false, .rd 16 false]), (5, [.rd 0 false, .rd 1 false, .rd 2 false, .rd 3 false, .rd 4 false, .rd 5 false, .rd 6 false, .rd 7 false, .rd 8 true, .rd 9 false, .rd 10 false, .rd 11 false, .rd 12 true, .ef 13 [], .rd 14 false, .rd 15 false]), (8, [.rd 0 false, .rd 1 false, .rd 2 false, .rd 3 false, .rd 4 false, .rd 5 false, .rd 6 false, .rd 7 true, .rd 8 false, .rd 9 false, .rd 10 false, .rd 11 true, .rd 12 false, .ef 13 [], .rd 14 false, .ef 15 []])]⟩
noncomputable def fe152 : FE := ⟨Tryz.f152, [(1, [.rd 0 false, .rd 1 false, .rd 2 false, .rd 3 false, .rd 4 false, .rd 5 false, .rd 6 false, .rd 7 true, .rd 8 false, .rd 9 false, .rd 10 false, .rd 11 true, .rd 12 false, .ef 13 [], .rd 14 false, .ef 15 []]), (3, [.rd 0 false, .rd 1 false, .rd 2 false, .rd 3 false, .rd 4 false, .rd 5 false, .rd 6 false, .rd 7 false, .rd 8 true, .rd 9 false, .rd 10 false, .rd 11 false, .rd 12 true, .ef 13 [], .rd 14 false, .rd 15 false]), (5, [.rd 0 false, .rd 1 false, .rd 2 false, .rd 3 false, .rd 4 false, .rd 5 false, .rd 6 false, .rd 7 false, .rd 8 true, .rd 9 false, .rd 10 false, .rd 11 false, .rd 12 true, .ef 13 [], .rd 14 false, .rd 15 false, .rd 16 false]), (8, [.rd 0 false, .rd 1 false, .rd 2 false, .rd 3 false, .rd 4 false, .rd 5 false, .rd 6 false, .rd 7 true, .rd 8 false, .rd 9 false, .rd 10 false, .rd 11 true, .rd 12 false, .ef 13 [], .rd 14 false, .ef 15 []]), (10, [.rd 0 false, .rd 1 false, .rd 2 false, .rd 3 false, .rd 4 false, .rd 5 false, .rd 6 false, .rd 7 true, .rd 8 false, .rd 9 false, .rd 10 false, .rd 11 true, .rd 12 false, .ef 13 [], .rd 14 false, .ef 15 []]), (13, [.rd 0 false, .rd 1 false, .rd 2 false, .rd 3 false, .rd 4 false, .rd 5 false, .rd 6 false, .rd 7 false, .rd 8 true, .rd 9 false, .rd 10 false, .rd 11 false, .rd 12 true, .ef 13 [], .rd 14 false, .rd 15 false]), (15, [.rd 0 false, .rd 1 false, .rd 2 false, .rd 3 false, .rd 4 false, .rd 5 false, .rd 6 false, .rd 7 false, .rd 8 true, .rd 9 false, .rd 10 false, .rd 11 false, .rd 12 true, .ef 13 [], .rd 14 false, .rd 15 false, .rd 16 false]), (18, [.rd 0 false, .rd 1 false, .rd 2 false, .rd 3 false, .rd 4 false, .rd 5 false, .rd 6 false, .rd 7 true, .rd 8 false, .rd 9 false, .rd 10 false, .rd 11 true, .rd 12 false, .ef 13 [], .rd 14 false, .ef 15 []]), (21, [.rd 0 false, .rd 1 false, .rd 2 false, .rd 3 false, .rd 4 false, .rd 5 false, .rd 6 false, .rd 7 true, .rd 8 false, .rd 9 false, .rd 10 false, .rd 11 true, .rd 12 false, .ef 13 [], .rd 14 false, .ef 15 []])]⟩
noncomputable def fe153 : FE := ⟨Tryz.f153, []⟩
noncomputable def fe154 : FE := ⟨Tryz.f154, []⟩
noncomputable def fe155 : FE := ⟨Tryz.f155, []⟩
noncomputable def fe167 : FE := ⟨Tryz.f167, []⟩
noncomputable def fe168 : FE := ⟨Tryz.f168, [(3, [.rd 0 false, .rd 1 false, .rd 2 false, .rd 3 false, .rd 4 false, .rd 5 false, .rd 6 false, .rd 7 false, .rd 8 false, .rd 9 false, .rd 10 false, .rd 11 true, .rd 12 false, .rd 13 false, .rd 14 false, .rd 15 false, .rd 16 false, .rd 17 false, .rd 18 true, .ef 19 [], .rd 20 false, .rd 21 false]), (5, [.rd 0 false, .rd 1 false, .rd 2 false, .rd 3 false, .rd 4 false, .rd 5 false, .rd 6 true, .rd 7 false, .rd 8 false, .rd 9 false, .rd 10 false, .rd 11 false, .rd 12 true, .ef 13 [], .rd 14 false, .rd 15 false]), (6, [.rd 0 false, .rd 1 false, .rd 2 false, .rd 3 false, .rd 4 false, .rd 5 false, .rd 6 false, .rd 7 false, .rd 8 false, .rd 9 false, .rd 10 false, .rd 11 false, .rd 12 false, .rd 13 true, .rd 14 false, .rd 15 false, .rd 16 false, .rd 17 false, .rd 18 false, .rd 19 true, .rd 20 false, .ef 21 [], .rd 22 false, .ef 23 []])]⟩
noncomputable def fe169 : FE := ⟨Tryz.f169, []⟩
noncomputable def fe170 : FE := ⟨Tryz.f170, [(1, [.rd 0 false, .rd 1 false, .rd 2 true, .rd 3 false, .rd 4 false, .rd 5 true, .rd 6 false, .rd 7 false, .rd 8 false, .ef 9 []]), (2, [.rd 0 false, .rd 1 false, .rd 2 true, .rd 3 false, .rd 4 false, .rd 5 true, .rd 6 false, .rd 7 false, .rd 8 false, .ef 9 []]), (3, [.rd 0 false, .rd 1 false, .rd 2 true, .rd 3 false, .rd 4 false, .rd 5 true, .rd 6 false, .rd 7 false, .rd 8 false, .ef 9 []])]⟩
noncomputable def fe171 : FE := ⟨Tryz.f171, []⟩
noncomputable def fe172 : FE := ⟨Tryz.f172, []⟩
noncomputable def fe179 : FE := ⟨Tryz.f179, [(1, [.rd 0 false, .rd 1 false, .rd 2 false, .rd 3 false, .rd 4 true, .rd 5 false, .rd 6 false, .rd 7 false, .rd 8 true, .ef 9 [], .rd 10 false])]⟩

theorem feOk10 : FeOk Tryz.prog 10 fe10 := ⟨Tryz.func10, by decide, by kernel_rfl⟩
theorem feOk12 : FeOk Tryz.prog 12 fe12 := ⟨Tryz.func12, by decide, by kernel_rfl⟩
theorem feOk22 : FeOk Tryz.prog 22 fe22 := ⟨Tryz.func22, by decide, by kernel_rfl⟩
theorem feOk25 : FeOk Tryz.prog 25 fe25 := ⟨Tryz.func25, by decide, by kernel_rfl⟩
theorem feOk29 : FeOk Tryz.prog 29 fe29 := ⟨Tryz.func29, by decide, by kernel_rfl⟩
theorem feOk30 : FeOk Tryz.prog 30 fe30 := ⟨Tryz.func30, by decide, by kernel_rfl⟩
theorem feOk31 : FeOk Tryz.prog 31 fe31 := ⟨Tryz.func31, by decide, by kernel_rfl⟩
theorem feOk34 : FeOk Tryz.prog 34 fe34 := ⟨Tryz.func34, by decide, by kernel_rfl⟩
theorem feOk36 : FeOk Tryz.prog 36 fe36 := ⟨Tryz.func36, by decide, by kernel_rfl⟩
theorem feOk37 : FeOk Tryz.prog 37 fe37 := ⟨Tryz.func37, by decide, by kernel_rfl⟩
theorem feOk41 : FeOk Tryz.prog 41 fe41 := ⟨Tryz.func41, by decide, by kernel_rfl⟩
theorem feOk47 : FeOk Tryz.prog 47 fe47 := ⟨Tryz.func47, by decide, by kernel_rfl⟩
theorem feOk48 : FeOk Tryz.prog 48 fe48 := ⟨Tryz.func48, by decide, by kernel_rfl⟩
theorem feOk50 : FeOk Tryz.prog 50 fe50 := ⟨Tryz.func50, by decide, by kernel_rfl⟩
theorem feOk51 : FeOk Tryz.prog 51 fe51 := ⟨Tryz.func51, by decide, by kernel_rfl⟩
theorem feOk58 : FeOk Tryz.prog 58 fe58 := ⟨Tryz.func58, by decide, by kernel_rfl⟩
theorem feOk59 : FeOk Tryz.prog 59 fe59 := ⟨Tryz.func59, by decide, by kernel_rfl⟩
theorem feOk60 : FeOk Tryz.prog 60 fe60 := ⟨Tryz.func60, by decide, by kernel_rfl⟩
theorem feOk61 : FeOk Tryz.prog 61 fe61 := ⟨Tryz.func61, by decide, by kernel_rfl⟩
theorem feOk62 : FeOk Tryz.prog 62 fe62 := ⟨Tryz.func62, by decide, by kernel_rfl⟩
theorem feOk63 : FeOk Tryz.prog 63 fe63 := ⟨Tryz.func63, by decide, by kernel_rfl⟩
theorem feOk66 : FeOk Tryz.prog 66 fe66 := ⟨Tryz.func66, by decide, by kernel_rfl⟩
theorem feOk67 : FeOk Tryz.prog 67 fe67 := ⟨Tryz.func67, by decide, by kernel_rfl⟩
theorem feOk68 : FeOk Tryz.prog 68 fe68 := ⟨Tryz.func68, by decide, by kernel_rfl⟩
theorem feOk69 : FeOk Tryz.prog 69 fe69 := ⟨Tryz.func69, by decide, by kernel_rfl⟩
theorem feOk70 : FeOk Tryz.prog 70 fe70 := ⟨Tryz.func70, by decide, by kernel_rfl⟩
theorem feOk73 : FeOk Tryz.prog 73 fe73 := ⟨Tryz.func73, by decide, by kernel_rfl⟩
theorem feOk74 : FeOk Tryz.prog 74 fe74 := ⟨Tryz.func74, by decide, by kernel_rfl⟩
theorem feOk75 : FeOk Tryz.prog 75 fe75 := ⟨Tryz.func75, by decide, by kernel_rfl⟩
theorem feOk76 : FeOk Tryz.prog 76 fe76 := ⟨Tryz.func76, by decide, by kernel_rfl⟩
theorem feOk80 : FeOk Tryz.prog 80 fe80 := ⟨Tryz.func80, by decide, by kernel_rfl⟩
theorem feOk81 : FeOk Tryz.prog 81 fe81 := ⟨Tryz.func81, by decide, by kernel_rfl⟩
theorem feOk82 : FeOk Tryz.prog 82 fe82 := ⟨Tryz.func82, by decide, by kernel_rfl⟩
theorem feOk83 : FeOk Tryz.prog 83 fe83 := ⟨Tryz.func83, by decide, by kernel_rfl⟩
theorem feOk89 : FeOk Tryz.prog 89 fe89 := ⟨Tryz.func89, by decide, by kernel_rfl⟩
theorem feOk90 : FeOk Tryz.prog 90 fe90 := ⟨Tryz.func90, by decide, by kernel_rfl⟩
theorem feOk91 : FeOk Tryz.prog 91 fe91 := ⟨Tryz.func91, by decide, by kernel_rfl⟩
theorem feOk93 : FeOk Tryz.prog 93 fe93 := ⟨Tryz.func93, by decide, by kernel_rfl⟩
theorem feOk94 : FeOk Tryz.prog 94 fe94 := ⟨Tryz.func94, by decide, by kernel_rfl⟩
theorem feOk108 : FeOk Tryz.prog 108 fe108 := ⟨Tryz.func108, by decide, by kernel_rfl⟩
theorem feOk109 : FeOk Tryz.prog 109 fe109 := ⟨Tryz.func109, by decide, by kernel_rfl⟩
theorem feOk110 : FeOk Tryz.prog 110 fe110 := ⟨Tryz.func110, by decide, by kernel_rfl⟩
theorem feOk111 : FeOk Tryz.prog 111 fe111 := ⟨Tryz.func111, by decide, by kernel_rfl⟩
theorem feOk112 : FeOk Tryz.prog 112 fe112 := ⟨Tryz.func112, by decide, by kernel_rfl⟩
theorem feOk113 : FeOk Tryz.prog 113 fe113 := ⟨Tryz.func113, by decide, by kernel_rfl⟩
theorem feOk114 : FeOk Tryz.prog 114 fe114 := ⟨Tryz.func114, by decide, by kernel_rfl⟩
theorem feOk115 : FeOk Tryz.prog 115 fe115 := ⟨Tryz.func115, by decide, by kernel_rfl⟩
theorem feOk116 : FeOk Tryz.prog 116 fe116 := ⟨Tryz.func116, by decide, by kernel_rfl⟩
theorem feOk117 : FeOk Tryz.prog 117 fe117 := ⟨Tryz.func117, by decide, by kernel_rfl⟩
theorem feOk118 : FeOk Tryz.prog 118 fe118 := ⟨Tryz.func118, by decide, by kernel_rfl⟩
theorem feOk119 : FeOk Tryz.prog 119 fe119 := ⟨Tryz.func119, by decide, by kernel_rfl⟩
theorem feOk120 : FeOk Tryz.prog 120 fe120 := ⟨Tryz.func120, by decide, by kernel_rfl⟩
theorem feOk121 : FeOk Tryz.prog 121 fe121 := ⟨Tryz.func121, by decide, by kernel_rfl⟩
theorem feOk122 : FeOk Tryz.prog 122 fe122 := ⟨Tryz.func122, by decide, by kernel_rfl⟩
theorem feOk123 : FeOk Tryz.prog 123 fe123 := ⟨Tryz.func123, by decide, by kernel_rfl⟩
theorem feOk135 : FeOk Tryz.prog 135 fe135 := ⟨Tryz.func135, by decide, by kernel_rfl⟩
theorem feOk136 : FeOk Tryz.prog 136 fe136 := ⟨Tryz.func136, by decide, by kernel_rfl⟩
theorem feOk137 : FeOk Tryz.prog 137 fe137 := ⟨Tryz.func137, by decide, by kernel_rfl⟩
theorem feOk138 : FeOk Tryz.prog 138 fe138 := ⟨Tryz.func138, by decide, by kernel_rfl⟩
theorem feOk139 : FeOk Tryz.prog 139 fe139 := ⟨Tryz.func139, by decide, by kernel_rfl⟩
theorem feOk140 : FeOk Tryz.prog 140 fe140 := ⟨Tryz.func140, by decide, by kernel_rfl⟩
theorem feOk141 : FeOk Tryz.prog 141 fe141 := ⟨Tryz.func141, by decide, by kernel_rfl⟩
theorem feOk142 : FeOk Tryz.prog 142 fe142 := ⟨Tryz.func142, by decide, by kernel_rfl⟩
theorem feOk143 : FeOk Tryz.prog 143 fe143 := ⟨Tryz.func143, by decide, by kernel_rfl⟩
theorem feOk144 : FeOk Tryz.prog 144 fe144 := ⟨Tryz.func144, by decide, by kernel_rfl⟩
theorem feOk145 : FeOk Tryz.prog 145 fe145 := ⟨Tryz.func145, by decide, by kernel_rfl⟩
theorem feOk146 : FeOk Tryz.prog 146 fe146 := ⟨Tryz.func146, by decide, by kernel_rfl⟩
theorem feOk147 : FeOk Tryz.prog 147 fe147 := ⟨Tryz.func147, by decide, by kernel_rfl⟩
theorem feOk148 : FeOk Tryz.prog 148 fe148 := ⟨Tryz.func148, by decide, by kernel_rfl⟩
theorem feOk149 : FeOk Tryz.prog 149 fe149 := ⟨Tryz.func149, by decide, by kernel_rfl⟩
theorem feOk150 : FeOk Tryz.prog 150 fe150 := ⟨Tryz.func150, by decide, by kernel_rfl⟩
theorem feOk151 : FeOk Tryz.prog 151 fe151 := ⟨Tryz.func151, by decide, by kernel_rfl⟩
theorem feOk152 : FeOk Tryz.prog 152 fe152 := ⟨Tryz.func152, by decide, by kernel_rfl⟩
theorem feOk153 : FeOk Tryz.prog 153 fe153 := ⟨Tryz.func153, by decide, by kernel_rfl⟩
theorem feOk154 : FeOk Tryz.prog 154 fe154 := ⟨Tryz.func154, by decide, by kernel_rfl⟩
theorem feOk155 : FeOk Tryz.prog 155 fe155 := ⟨Tryz.func155, by decide, by kernel_rfl⟩
theorem feOk167 : FeOk Tryz.prog 167 fe167 := ⟨Tryz.func167, by decide, by kernel_rfl⟩
theorem feOk168 : FeOk Tryz.prog 168 fe168 := ⟨Tryz.func168, by decide, by kernel_rfl⟩
theorem feOk169 : FeOk Tryz.prog 169 fe169 := ⟨Tryz.func169, by decide, by kernel_rfl⟩
theorem feOk170 : FeOk Tryz.prog 170 fe170 := ⟨Tryz.func170, by decide, by kernel_rfl⟩
theorem feOk171 : FeOk Tryz.prog 171 fe171 := ⟨Tryz.func171, by decide, by kernel_rfl⟩
theorem feOk172 : FeOk Tryz.prog 172 fe172 := ⟨Tryz.func172, by decide, by kernel_rfl⟩
theorem feOk179 : FeOk Tryz.prog 179 fe179 := ⟨Tryz.func179, by decide, by kernel_rfl⟩
noncomputable def ftT : Tr FE := (.n (.n (.n (.n (.n .e (.n (.n (.n .e (.n (.n (.l fe144) .e) .e)) (.n (.n (.n (.l fe80) .e) .e) .e)) (.n (.n (.n (.n (.l fe48) .e) .e) .e) (.n (.n (.n (.l fe112) .e) .e) .e)))) (.n (.n (.n (.n .e (.n (.n (.l fe136) .e) .e)) .e) (.n (.n .e (.n (.n (.l fe168) .e) .e)) .e)) (.n (.n (.n .e (.n (.n (.l fe152) .e) .e)) .e) (.n .e (.n (.n (.n (.l fe120) .e) .e) .e))))) (.n (.n (.n (.n .e (.n (.n (.n (.l fe68) .e) .e) .e)) (.n (.n (.n (.n (.l fe36) .e) .e) .e) .e)) (.n (.n (.n .e (.n (.n (.l fe148) .e) .e)) .e) (.n .e (.n (.n (.n (.l fe116) .e) .e) .e)))) (.n (.n (.n (.n (.n (.n (.l fe12) .e) .e) (.n (.n (.l fe140) .e) .e)) (.n (.n (.n (.l fe76) .e) .e) .e)) (.n (.n .e (.n (.n (.l fe172) .e) .e)) (.n (.n (.n (.l fe108) .e) .e) .e))) (.n .e (.n (.n (.n (.n (.l fe60) .e) .e) .e) .e))))) (.n (.n (.n (.n (.n .e (.n (.n (.n (.l fe66) .e) .e) .e)) (.n (.n (.n (.n (.l fe34) .e) .e) .e) .e)) (.n (.n (.n .e (.n (.n (.l fe146) .e) .e)) (.n (.n (.n (.l fe82) .e) .e) .e)) (.n (.n (.n (.n (.l fe50) .e) .e) .e) (.n (.n (.n (.l fe114) .e) .e) .e)))) (.n (.n (.n (.n (.n (.n (.l fe10) .e) .e) (.n (.n (.l fe138) .e) .e)) (.n (.n (.n (.l fe74) .e) .e) .e)) (.n (.n .e (.n (.n (.l fe170) .e) .e)) .e)) (.n (.n (.n .e (.n (.n (.l fe154) .e) .e)) (.n (.n (.n (.l fe90) .e) .e) .e)) (.n (.n (.n (.n (.l fe58) .e) .e) .e) (.n (.n (.n (.l fe122) .e) .e) .e))))) (.n (.n (.n (.n .e (.n (.n (.n (.l fe70) .e) .e) .e)) .e) (.n (.n (.n (.n (.n (.l fe22) .e) .e) (.n (.n (.l fe150) .e) .e)) .e) (.n .e (.n (.n (.n (.l fe118) .e) .e) .e)))) (.n (.n (.n (.n .e (.n (.n (.l fe142) .e) .e)) .e) (.n .e (.n (.n (.n (.l fe110) .e) .e) .e))) (.n (.n (.n (.n (.n (.l fe30) .e) .e) .e) (.n (.n (.n (.l fe94) .e) .e) .e)) (.n (.n (.n (.n (.l fe62) .e) .e) .e) .e)))))) (.n (.n (.n (.n .e (.n (.n (.n .e (.n (.n (.l fe145) .e) .e)) (.n (.n (.n (.l fe81) .e) .e) .e)) (.n .e (.n (.n (.n (.l fe113) .e) .e) .e)))) (.n (.n (.n (.n .e (.n (.n (.l fe137) .e) .e)) (.n (.n (.n (.l fe73) .e) .e) .e)) (.n (.n (.n (.n (.l fe41) .e) .e) (.n (.n (.l fe169) .e) .e)) .e)) (.n (.n (.n (.n (.n (.l fe25) .e) .e) (.n (.n (.l fe153) .e) .e)) (.n (.n (.n (.l fe89) .e) .e) .e)) (.n .e (.n (.n (.n (.l fe121) .e) .e) .e))))) (.n (.n (.n (.n .e (.n (.n (.n (.l fe69) .e) .e) .e)) (.n (.n (.n (.n (.l fe37) .e) .e) .e) .e)) (.n (.n (.n .e (.n (.n (.l fe149) .e) .e)) .e) (.n .e (.n (.n (.n (.l fe117) .e) .e) .e)))) (.n (.n (.n (.n .e (.n (.n (.l fe141) .e) .e)) .e) (.n .e (.n (.n (.n (.l fe109) .e) .e) .e))) (.n (.n (.n (.n (.n (.l fe29) .e) .e) .e) (.n (.n (.n (.l fe93) .e) .e) .e)) (.n (.n (.n (.n (.l fe61) .e) .e) .e) .e))))) (.n (.n (.n (.n (.n .e (.n (.n (.n (.l fe67) .e) .e) .e)) .e) (.n (.n (.n .e (.n (.n (.l fe147) .e) .e)) (.n (.n (.n (.l fe83) .e) .e) .e)) (.n (.n (.n (.n (.l fe51) .e) .e) (.n (.n (.l fe179) .e) .e)) (.n (.n (.n (.l fe115) .e) .e) .e)))) (.n (.n (.n (.n .e (.n (.n (.l fe139) .e) .e)) (.n (.n (.n (.l fe75) .e) .e) .e)) (.n (.n .e (.n (.n (.l fe171) .e) .e)) .e)) (.n (.n (.n .e (.n (.n (.l fe155) .e) .e)) (.n (.n (.n (.l fe91) .e) .e) .e)) (.n (.n (.n (.n (.l fe59) .e) .e) .e) (.n (.n (.n (.l fe123) .e) .e) .e))))) (.n (.n (.n (.n (.n .e (.n (.n (.l fe135) .e) .e)) .e) (.n (.n .e (.n (.n (.l fe167) .e) .e)) .e)) (.n (.n (.n .e (.n (.n (.l fe151) .e) .e)) .e) (.n .e (.n (.n (.n (.l fe119) .e) .e) .e)))) (.n (.n (.n (.n .e (.n (.n (.l fe143) .e) .e)) .e) (.n (.n (.n (.n (.l fe47) .e) .e) .e) (.n (.n (.n (.l fe111) .e) .e) .e))) (.n (.n (.n (.n (.n (.l fe31) .e) .e) .e) .e) (.n (.n (.n (.n (.l fe63) .e) .e) .e) .e)))))))
theorem ftOk : ftT.All 10 (FeOk Tryz.prog) := ⟨⟨⟨⟨⟨trivial, ⟨⟨⟨trivial, ⟨⟨feOk144, trivial⟩, trivial⟩⟩, ⟨⟨⟨feOk80, trivial⟩, trivial⟩, trivial⟩⟩, ⟨⟨⟨⟨feOk48, trivial⟩, trivial⟩, trivial⟩, ⟨⟨⟨feOk112, trivial⟩, trivial⟩, trivial⟩⟩⟩⟩, ⟨⟨⟨⟨trivial, ⟨⟨feOk136, trivial⟩, trivial⟩⟩, trivial⟩, ⟨⟨trivial, ⟨⟨feOk168, trivial⟩, trivial⟩⟩, trivial⟩⟩, ⟨⟨⟨trivial, ⟨⟨feOk152, trivial⟩, trivial⟩⟩, trivial⟩, ⟨trivial, ⟨⟨⟨feOk120, trivial⟩, trivial⟩, trivial⟩⟩⟩⟩⟩, ⟨⟨⟨⟨trivial, ⟨⟨⟨feOk68, trivial⟩, trivial⟩, trivial⟩⟩, ⟨⟨⟨⟨feOk36, trivial⟩, trivial⟩, trivial⟩, trivial⟩⟩, ⟨⟨⟨trivial, ⟨⟨feOk148, trivial⟩, trivial⟩⟩, trivial⟩, ⟨trivial, ⟨⟨⟨feOk116, trivial⟩, trivial⟩, trivial⟩⟩⟩⟩, ⟨⟨⟨⟨⟨⟨feOk12, trivial⟩, trivial⟩, ⟨⟨feOk140, trivial⟩, trivial⟩⟩, ⟨⟨⟨feOk76, trivial⟩, trivial⟩, trivial⟩⟩, ⟨⟨trivial, ⟨⟨feOk172, trivial⟩, trivial⟩⟩, ⟨⟨⟨feOk108, trivial⟩, trivial⟩, trivial⟩⟩⟩, ⟨trivial, ⟨⟨⟨⟨feOk60, trivial⟩, trivial⟩, trivial⟩, trivial⟩⟩⟩⟩⟩, ⟨⟨⟨⟨⟨trivial, ⟨⟨⟨feOk66, trivial⟩, trivial⟩, trivial⟩⟩, ⟨⟨⟨⟨feOk34, trivial⟩, trivial⟩, trivial⟩, trivial⟩⟩, ⟨⟨⟨trivial, ⟨⟨feOk146, trivial⟩, trivial⟩⟩, ⟨⟨⟨feOk82, trivial⟩, trivial⟩, trivial⟩⟩, ⟨⟨⟨⟨feOk50, trivial⟩, trivial⟩, trivial⟩, ⟨⟨⟨feOk114, trivial⟩, trivial⟩, trivial⟩⟩⟩⟩, ⟨⟨⟨⟨⟨⟨feOk10, trivial⟩, trivial⟩, ⟨⟨feOk138, trivial⟩, trivial⟩⟩, ⟨⟨⟨feOk74, trivial⟩, trivial⟩, trivial⟩⟩, ⟨⟨trivial, ⟨⟨feOk170, trivial⟩, trivial⟩⟩, trivial⟩⟩, ⟨⟨⟨trivial, ⟨⟨feOk154, trivial⟩, trivial⟩⟩, ⟨⟨⟨feOk90, trivial⟩, trivial⟩, trivial⟩⟩, ⟨⟨⟨⟨feOk58, trivial⟩, trivial⟩, trivial⟩, ⟨⟨⟨feOk122, trivial⟩, trivial⟩, trivial⟩⟩⟩⟩⟩, ⟨⟨⟨⟨trivial, ⟨⟨⟨feOk70, trivial⟩, trivial⟩, trivial⟩⟩, trivial⟩, ⟨⟨⟨⟨⟨feOk22, trivial⟩, trivial⟩, ⟨⟨feOk150, trivial⟩, trivial⟩⟩, trivial⟩, ⟨trivial, ⟨⟨⟨feOk118, trivial⟩, trivial⟩, trivial⟩⟩⟩⟩, ⟨⟨⟨⟨trivial, ⟨⟨feOk142, trivial⟩, trivial⟩⟩, trivial⟩, ⟨trivial, ⟨⟨⟨feOk110, trivial⟩, trivial⟩, trivial⟩⟩⟩, ⟨⟨⟨⟨⟨feOk30, trivial⟩, trivial⟩, trivial⟩, ⟨⟨⟨feOk94, trivial⟩, trivial⟩, trivial⟩⟩, ⟨⟨⟨⟨feOk62, trivial⟩, trivial⟩, trivial⟩, trivial⟩⟩⟩⟩⟩⟩, ⟨⟨⟨⟨trivial, ⟨⟨⟨trivial, ⟨⟨feOk145, trivial⟩, trivial⟩⟩, ⟨⟨⟨feOk81, trivial⟩, trivial⟩, trivial⟩⟩, ⟨trivial, ⟨⟨⟨feOk113, trivial⟩, trivial⟩, trivial⟩⟩⟩⟩, ⟨⟨⟨⟨trivial, ⟨⟨feOk137, trivial⟩, trivial⟩⟩, ⟨⟨⟨feOk73, trivial⟩, trivial⟩, trivial⟩⟩, ⟨⟨⟨⟨feOk41, trivial⟩, trivial⟩, ⟨⟨feOk169, trivial⟩, trivial⟩⟩, trivial⟩⟩, ⟨⟨⟨⟨⟨feOk25, trivial⟩, trivial⟩, ⟨⟨feOk153, trivial⟩, trivial⟩⟩, ⟨⟨⟨feOk89, trivial⟩, trivial⟩, trivial⟩⟩, ⟨trivial, ⟨⟨⟨feOk121, trivial⟩, trivial⟩, trivial⟩⟩⟩⟩⟩, ⟨⟨⟨⟨trivial, ⟨⟨⟨feOk69, trivial⟩, trivial⟩, trivial⟩⟩, ⟨⟨⟨⟨feOk37, trivial⟩, trivial⟩, trivial⟩, trivial⟩⟩, ⟨⟨⟨trivial, ⟨⟨feOk149, trivial⟩, trivial⟩⟩, trivial⟩, ⟨trivial, ⟨⟨⟨feOk117, trivial⟩, trivial⟩, trivial⟩⟩⟩⟩, ⟨⟨⟨⟨trivial, ⟨⟨feOk141, trivial⟩, trivial⟩⟩, trivial⟩, ⟨trivial, ⟨⟨⟨feOk109, trivial⟩, trivial⟩, trivial⟩⟩⟩, ⟨⟨⟨⟨⟨feOk29, trivial⟩, trivial⟩, trivial⟩, ⟨⟨⟨feOk93, trivial⟩, trivial⟩, trivial⟩⟩, ⟨⟨⟨⟨feOk61, trivial⟩, trivial⟩, trivial⟩, trivial⟩⟩⟩⟩⟩, ⟨⟨⟨⟨⟨trivial, ⟨⟨⟨feOk67, trivial⟩, trivial⟩, trivial⟩⟩, trivial⟩, ⟨⟨⟨trivial, ⟨⟨feOk147, trivial⟩, trivial⟩⟩, ⟨⟨⟨feOk83, trivial⟩, trivial⟩, trivial⟩⟩, ⟨⟨⟨⟨feOk51, trivial⟩, trivial⟩, ⟨⟨feOk179, trivial⟩, trivial⟩⟩, ⟨⟨⟨feOk115, trivial⟩, trivial⟩, trivial⟩⟩⟩⟩, ⟨⟨⟨⟨trivial, ⟨⟨feOk139, trivial⟩, trivial⟩⟩, ⟨⟨⟨feOk75, trivial⟩, trivial⟩, trivial⟩⟩, ⟨⟨trivial, ⟨⟨feOk171, trivial⟩, trivial⟩⟩, trivial⟩⟩, ⟨⟨⟨trivial, ⟨⟨feOk155, trivial⟩, trivial⟩⟩, ⟨⟨⟨feOk91, trivial⟩, trivial⟩, trivial⟩⟩, ⟨⟨⟨⟨feOk59, trivial⟩, trivial⟩, trivial⟩, ⟨⟨⟨feOk123, trivial⟩, trivial⟩, trivial⟩⟩⟩⟩⟩, ⟨⟨⟨⟨⟨trivial, ⟨⟨feOk135, trivial⟩, trivial⟩⟩, trivial⟩, ⟨⟨trivial, ⟨⟨feOk167, trivial⟩, trivial⟩⟩, trivial⟩⟩, ⟨⟨⟨trivial, ⟨⟨feOk151, trivial⟩, trivial⟩⟩, trivial⟩, ⟨trivial, ⟨⟨⟨feOk119, trivial⟩, trivial⟩, trivial⟩⟩⟩⟩, ⟨⟨⟨⟨trivial, ⟨⟨feOk143, trivial⟩, trivial⟩⟩, trivial⟩, ⟨⟨⟨⟨feOk47, trivial⟩, trivial⟩, trivial⟩, ⟨⟨⟨feOk111, trivial⟩, trivial⟩, trivial⟩⟩⟩, ⟨⟨⟨⟨⟨feOk31, trivial⟩, trivial⟩, trivial⟩, trivial⟩, ⟨⟨⟨⟨feOk63, trivial⟩, trivial⟩, trivial⟩, trivial⟩⟩⟩⟩⟩⟩⟩
end Go.Proofs.YthdfpankebjleaaGreat

/-
  A deferred function that does nothing; the tables are good.
  Conditions: none.
-/
namespace Go.Proofs.YthdfpankebjleaaGreat
open Go Go.Av

theorem idle67 (vs : Array Value) : IdleF Tryz.prog 67 vs := fun w => by
  refine callsDIn_of_wpSIn Tryz.func67 rfl trivial fun c₀ cs hu => ?_
  have hsz : 14 ≤ (vs ++ Array.replicate (14 - vs.size) undef).size := by simp; omega
  rw [show Tryz.f67.ntmps = 14 from rfl]
  revert hsz
  generalize vs ++ Array.replicate (14 - vs.size) undef = tm
  intro hsz
  apply wpSIn_seq
  apply wpSIn_region
  simp [wpOpsSIn, go_sem, recoverD, hu, Exit.thenS]
  apply wpSIn_seq
  apply wpSIn_region
  have h3 : 3 < tm.size := by omega
  have h5 : 5 < tm.size := by omega
  have h6 : 6 < tm.size := by omega
  have h7 : 7 < tm.size := by omega
  simp [wpOpsSIn, go_sem, Exit.thenS, h3, h5, h6, h7, Act.eval, Act.put]
  refine wpSIn_cond (t := false) (by simp [Act.eval, h3, h5, h6, h7]) ?_
  simp only [Bool.false_eq_true, if_false]
  refine wpSIn_of_wpIn rfl (wpIn_skip ?_)
  cases c₀
  simp_all [bodyPostS, results, show Tryz.f67.results = #[] from rfl]
theorem prOk : PrOk Tryz.prog tyT ftT (fun f => Nat.beq f 67) where
  mx := by kernel_rfl
  ty := fun t e ht he => Tr.all_get tyOk (by simpa using ht) he
  ft := fun t e ht he => Tr.all_get ftOk (by simpa using ht) he
  idle := fun f hf => by
    rw [beq_iff] at hf
    subst hf
    exact ⟨⟨_, Tryz.func67, rfl, by decide⟩, idle67⟩
end Go.Proofs.YthdfpankebjleaaGreat

/-
  The examples of the statements on plans are as they should be.
  Conditions: none.
-/
namespace Go.Proofs.YthdfpankebjleaaGreat
open Go Go.Av
theorem runL : run Tryz.prog tyT ftT (fun f => Nat.beq f 67) 100000 40 25 [] = some (.v (.bool true)) := by kernel_rfl
theorem live_at {σ : St} : AT Tryz.prog 25 [] σ fun r σ' => r = .v (.bool true) ∧ σ' = σ :=
  run_ok prOk runL (by kernel_rfl) (fun _ => .v (.bool false)) (fun _ => ⟨rfl, rfl⟩) (by simp only [RS.wfs])
end Go.Proofs.YthdfpankebjleaaGreat

/-
  The example of the statements on models is as it should be.
  Conditions: none.
-/
namespace Go.Proofs.YthdfpankebjleaaGreat
open Go Go.Av
theorem runM : run Tryz.prog tyT ftT (fun f => Nat.beq f 67) 100000 40 10 [] = some (.v (.bool true)) := by kernel_rfl
theorem mlive_at {σ : St} : AT Tryz.prog 10 [] σ fun r σ' => r = .v (.bool true) ∧ σ' = σ :=
  run_ok prOk runM (by kernel_rfl) (fun _ => .v (.bool false)) (fun _ => ⟨rfl, rfl⟩) (by simp only [RS.wfs])
end Go.Proofs.YthdfpankebjleaaGreat

/-
  The least model as the program reckons it; the law ModelLeast.
  Conditions: none.
-/
namespace Go.Proofs.YthdfpankebjleaaGreat
open Go Go.Av

theorem onceF_len {homes names : List ByteArray} {rs : List Rl} {m : List Fa} (h : cntL homes rs m ≤ 900000) : (onceF homes names rs m).length ≤ 900000 := by
  have := insS_len (c := cmpF) (s := []) (l := onceL homes names rs m)
  have := onceL_len homes names rs m
  unfold onceF
  simp only [List.length_nil] at *
  omega
theorem onceF_sm {homes names : List ByteArray} {rs : List Rl} {m : List Fa} (hrs : ∀ r ∈ rs, r.S4) : ∀ f ∈ onceF homes names rs m, f.Sm := fun f hf => by
  rcases (insS_mem cmpF_ord).1 hf with h | h
  · exact onceL_sm hrs f h
  · cases h
theorem leaR_bd {homes names : List ByteArray} {rs : List Rl} (hrs : ∀ r ∈ rs, r.S4) : ∀ (n : Nat) {m : List Fa} {d : Nat}, (∀ f ∈ m, f.Sm) → (leaR homes names rs n m d).1.length ≤ 400 ∧ ∀ f ∈ (leaR homes names rs n m d).1, f.Sm
  | 0, m, d, h => ⟨by simp [leaR], fun f hf => by cases hf⟩
  | n + 1, m, d, h => by
    unfold leaR
    split
    · exact ⟨by simp, fun f hf => by cases hf⟩
    · split
      · exact ⟨by simp, fun f hf => by cases hf⟩
      · split
        · exact ⟨by simp only; omega, h⟩
        · refine leaR_bd hrs n fun f hf => ?_
          rcases (insS_mem cmpF_ord).1 hf with h1 | h1
          · exact (onceR_bd (homes := homes) (names := names) (m := m) (s := ([], d)) (c := 0) hrs ⟨by simp, by simp only; omega, fun f hf => by cases hf⟩).2.2 f h1
          · exact h f h1
section
variable {σ : St}
theorem least_at (homes names : List ByteArray) (rs : List Rl) (base : List Fa) (hrs : ∀ r ∈ rs, r.S4) (hh : homes.length ≤ 1000000) (hn : names.length ≤ 1000000) (hrl : rs.length ≤ 1000000) (hbl : base.length ≤ 1000000) (hbs : ∀ f ∈ base, f.Sm) (hok : OkP homes names rs 402 (insS cmpF [] base)) :
    AT Tryz.prog 12 [.agg [.sl 1 (stC homes), .sl 1 (stC names)], .sl 11 (rlC rs), .sl 4 (faC base)] σ fun v σ' => v = .tup [.sl 4 (faC (leaP homes names rs 402 (insS cmpF [] base)).1), int (leaP homes names rs 402 (insS cmpF [] base)).2] ∧ σ' = σ := by
  refine AT.of_body Tryz.func12 rfl (by decide) (by kernel_rfl) (by kernel_rfl) (Nat.le_of_ble_eq_true rfl) ?_
  simp only [go_sem]
  refine Ctx.nil.alloc fun c σ1 c1 => ?_
  simp only [go_sem, r_block]
  refine (sortedW_at base hbl hbs).mono ?_
  rintro _ σ1 ⟨rfl, rfl⟩
  obtain ⟨R, hR⟩ : ∃ R, R = leaP homes names rs 402 (insS cmpF [] base) := ⟨_, rfl⟩
  rw [← hR]
  have hs0 : ∀ f ∈ insS cmpF [] base, f.Sm := fun f hf => by
    rcases (insS_mem cmpF_ord).1 hf with h | h
    · exact hbs f h
    · cases h
  have hr0 : Rises cmpF (insS cmpF [] base) := insS_rises cmpF_ord .nil
  have hl0 := insS_len (c := cmpF) (s := []) (l := base)
  simp only [List.length_nil] at hl0
  simp only [go_sem, r_block]
  refine ⟨fun mm fr σ' => ∃ (n : Nat) (m : List Fa), mm = n ∧ 402 ≤ m.length + n ∧ 1 ≤ n ∧ Rises cmpF m ∧ (∀ f ∈ m, f.Sm) ∧ m.length ≤ 1100000 ∧ leaP homes names rs n m = R ∧ OkP homes names rs n m ∧ σ' = σ1 ∧ fr 1 = .sl 11 (rlC rs) ∧ fr 3 = ptr c ∧ fr 8 = .sl 4 (faC m), ⟨_, 402, insS cmpF [] base, rfl, by omega, by omega, hr0, hs0, by omega, hR.symm, hok, rfl, rfl, rfl, rfl⟩, ?_⟩
  rintro mm fr σ1 ⟨n, m, rfl, hm1, hm2, hmr, hms, hm3, hI, hO, rfl, f1, f3, f8⟩
  obtain ⟨n, rfl⟩ : ∃ k, mm = k + 1 := ⟨mm - 1, by omega⟩
  unfold leaP at hI
  unfold OkP at hO
  by_cases h2 : 400 < m.length
  · rw [if_pos h2] at hI
    have d2 := decide_eq_true (show (400 : Int) < m.length by omega)
    simp only [go_sem, r_block, f8, d2]
    exact aRet_view (r := .tup [nilS, int 150]) rfl _ σ (ret_nil2 c1.sub _) ⟨by rw [← hI]; rfl, rfl⟩
  · rw [if_neg h2] at hI
    obtain ⟨hc, hO⟩ := hO (by omega)
    have d2 := decide_eq_false (show ¬ (400 : Int) < m.length by omega)
    have hol := onceF_len (names := names) hc
    have hnx : nxP homes names rs m = insS cmpF [] (m ++ onceF homes names rs m) := rfl
    have hnx2 : nxP homes names rs m = insS cmpF m (onceF homes names rs m) := insS_two cmpF_ord hmr
    have hge : m.length ≤ (nxP homes names rs m).length := by rw [hnx2]; exact insS_ge
    have hle : (nxP homes names rs m).length ≤ m.length + (onceF homes names rs m).length := by
      rw [hnx2]
      have := insS_len (c := cmpF) (s := m) (l := onceF homes names rs m)
      omega
    have hns : ∀ f ∈ nxP homes names rs m, f.Sm := fun f hf => by
      rw [hnx2] at hf
      rcases (insS_mem cmpF_ord).1 hf with h | h
      · exact onceF_sm hrs f h
      · exact hms f h
    have hnr : Rises cmpF (nxP homes names rs m) := by rw [hnx2]; exact insS_rises cmpF_ord hmr
    simp only [go_sem, r_block, f8, d2]
    refine aDraw_plan [.rd 0 false, .rd 2 true, .rd 3 false, .rd 4 false, .ef 1 [2], .ef 5 [], .ef 6 [], .ef 7 [], .rd 8 false] (by kernel_rfl) (by kernel_rfl) (by kernel_rfl) ?_
    simp only [go_sem, r_block, f1, f3, f8, c1.g0]
    refine (cloneFW_at m (by omega)).mono ?_
    rintro lv σ3 ⟨g1, g2⟩
    simp only [go_sem, r_block, f1, f3, f8, g2.sub _ _ c1.g0]
    refine (once_at homes names rs m hrs (by omega) hh hn hrl hc).mono ?_
    rintro _ σ3 ⟨rfl, rfl⟩
    simp only [go_sem, r_block]
    refine aApp_by (ys := faC (onceF homes names rs m)) (by simp [src]) (by decide) (by decide) (by decide) (g1.app (by rw [faC_len, faC_len]; omega) fun l2 σ4 h3 e3 => ?_)
    have G := g2.step e3
    rw [show faC m ++ faC (onceF homes names rs m) = faC (m ++ onceF homes names rs m) by simp [faC]] at h3
    simp only [go_sem, r_block]
    have hw := sortedW_at (σ := σ1) (m ++ onceF homes names rs m) (by rw [List.length_append]; omega) fun f hf => by
      rcases List.mem_append.1 hf with h | h
      · exact hms f h
      · exact onceF_sm hrs f h
    refine (AT.pre hw (by kernel_rfl) (sv_of fun x o hx => .inl (G.sub x o hx)) (vws_cons (ret_vw h3 G) vws_nil)).mono ?_
    rintro _ σ1 ⟨rfl, rfl⟩
    rw [← hnx]
    by_cases hl2 : (nxP homes names rs m).length = m.length
    · rw [if_pos hl2] at hI
      have dd := decide_eq_true (show ((nxP homes names rs m).length : Int) = m.length by omega)
      simp only [go_sem, r_block, f8, dd]
      exact aRet_view (r := .tup [.sl 4 (faC m), int 0]) rfl _ σ (c1.view _) ⟨by rw [← hI], rfl⟩
    · rw [if_neg hl2] at hI
      have hO' := hO hl2
      have dd := decide_eq_false (show ¬ ((nxP homes names rs m).length : Int) = m.length by omega)
      simp only [go_sem, r_block, f1, f3, f8, dd]
      refine ⟨n, by omega, n, nxP homes names rs m, rfl, by omega, by omega, hnr, hns, by omega, hI, hO', ?_⟩
      (and_intros <;> first | assumption | rfl | omega)
/-- A case of the models' laws. -/
def c4C (homes names : List ByteArray) (rs : List Rl) (l : List Fa) : List AV := [.sl 1 (stC homes), .sl 1 (stC names), .sl 11 (rlC rs), .sl 4 (faC l)]
@[go_sem] theorem c4C_len (h n : List ByteArray) (rs : List Rl) (l : List Fa) : (c4C h n rs l).length = 4 := rfl
@[go_sem] theorem c4C_take (h n : List ByteArray) (rs : List Rl) (l : List Fa) : (c4C h n rs l).take 4 = c4C h n rs l := rfl
@[go_sem] theorem c4C_0 (h n : List ByteArray) (rs : List Rl) (l : List Fa) : (c4C h n rs l).getD 0 (.v undef) = .sl 1 (stC h) := rfl
@[go_sem] theorem c4C_1 (h n : List ByteArray) (rs : List Rl) (l : List Fa) : (c4C h n rs l).getD 1 (.v undef) = .sl 1 (stC n) := rfl
@[go_sem] theorem c4C_2 (h n : List ByteArray) (rs : List Rl) (l : List Fa) : (c4C h n rs l).getD 2 (.v undef) = .sl 11 (rlC rs) := rfl
@[go_sem] theorem c4C_3 (h n : List ByteArray) (rs : List Rl) (l : List Fa) : (c4C h n rs l).getD 3 (.v undef) = .sl 4 (faC l) := rfl
def C4Wf (rs : List Rl) (l : List Fa) : Prop := rs.length ≤ 140737488351232 ∧ (∀ r ∈ rs, r.Wf) ∧ l.length ≤ 140737488351232 ∧ ∀ f ∈ l, f.Wf
def C4Sm (homes names : List ByteArray) (rs : List Rl) (l : List Fa) : Prop := homes.length ≤ 8 ∧ names.length ≤ 8 ∧ rs.length ≤ 120 ∧ (∀ r ∈ rs, r.S4) ∧ l.length ≤ 120 ∧ ∀ f ∈ l, f.Sm
theorem light_at (homes names : List ByteArray) (rs : List Rl) (l : List Fa) (hw : C4Wf rs l) : AT Tryz.prog 9 [.agg (c4C homes names rs l)] σ fun v σ' => (∃ b : Bool, v = boo b ∧ (b = true → C4Sm homes names rs l)) ∧ σ' = σ := by
  refine AT.of_body Tryz.func9 rfl (by decide) (by kernel_rfl) (by kernel_rfl) (Nat.le_of_ble_eq_true rfl) ?_
  obtain ⟨w1, w2, w3, w4⟩ := hw
  unfold c4C
  simp only [go_sem]
  refine Ctx.nil.alloc fun p σ1 c1 => ?_
  have no : ∀ {fr : Fr}, aResult Tryz.prog fr σ1 (Tryz.f9).results.toList = some (boo false) → aRet Tryz.prog (fun v σ' => (∃ b : Bool, v = boo b ∧ (b = true → C4Sm homes names rs l)) ∧ σ' = σ) (Tryz.f9).results.toList fr σ1 := fun hr =>
    aRet_view hr _ σ (c1.view _) ⟨⟨false, rfl, fun h => by cases h⟩, rfl⟩
  by_cases g1 : (homes.length : Int) ≤ 8
  · have d1 := decide_eq_true g1
    by_cases g2 : (names.length : Int) ≤ 8
    · have d2 := decide_eq_true g2
      simp only [go_sem, c1.g0, d1, d2]
      refine (weightN_at rs 120 w1 w2 (by omega) (by omega)).mono ?_
      rintro _ σ1 ⟨⟨x1, rfl, hx1⟩, rfl⟩
      by_cases g3 : x1 ≤ 120
      · have d3 := decide_eq_true g3
        obtain ⟨k1, k2⟩ := hx1 g3
        simp only [go_sem, c1.g0, d3]
        refine (fweight_at l 120 w3 w4 (by omega) (by omega)).mono ?_
        rintro _ σ1 ⟨⟨x2, rfl, hx2⟩, rfl⟩
        simp only [go_sem]
        refine aRet_view (r := boo (decide (x2 ≤ 120))) rfl _ σ (c1.view _) ⟨⟨_, rfl, fun h => ?_⟩, rfl⟩
        obtain ⟨k3, k4⟩ := hx2 (by simpa using h)
        refine ⟨by omega, by omega, by omega, fun r hr => ?_, by omega, fun f hf => ?_⟩
        · obtain ⟨j1, j2, j3⟩ := k2 r hr
          exact ⟨⟨by omega, fun y hy => by have := j3 y hy; omega⟩, by omega⟩
        · have := k4 f hf
          unfold Fa.Sm
          omega
      · have d3 := decide_eq_false g3
        simp only [go_sem, c1.g0, d3]
        exact no rfl
    · have d2 := decide_eq_false g2
      simp only [go_sem, c1.g0, d1, d2]
      exact no rfl
  · have d1 := decide_eq_false g1
    simp only [go_sem, c1.g0, d1]
    exact no rfl
theorem world_at (homes names : List ByteArray) (rs : List Rl) (l : List Fa) : AT Tryz.prog 13 [.agg (c4C homes names rs l)] σ fun v σ' => v = .agg [.sl 1 (stC homes), .sl 1 (stC names)] ∧ σ' = σ := by
  refine AT.of_body Tryz.func13 rfl (by decide) (by kernel_rfl) (by kernel_rfl) (Nat.le_of_ble_eq_true rfl) ?_
  unfold c4C
  simp only [go_sem]
  refine Ctx.nil.alloc fun p σ1 c1 => ?_
  simp only [go_sem]
  refine c1.alloc fun q σ2 c2 => ?_
  obtain ⟨σ3, e3, c3⟩ := c2.abs 0 rfl (.cells [.sl 1 (stC homes), .sl 1 (stC names)])
  have h3 : σ3 q = some (.cells [.sl 1 (stC homes), .sl 1 (stC names)]) := c3.g0
  simp only [go_sem, c2.g1, e3, h3]
  exact aRet_view (r := .agg [.sl 1 (stC homes), .sl 1 (stC names)]) (by simp [aResult, aResL, aRes1, aResC, oneR, go_sem, Fr.up, h3]) _ σ (c3.view _) ⟨rfl, rfl⟩
end
end Go.Proofs.YthdfpankebjleaaGreat

/-
  A statement's arguments, as cases of the models' laws.
  Conditions: none.
-/
namespace Go.Proofs.YthdfpankebjleaaGreat
open Go Go.Av

theorem rls_of {n : Nat} : ∀ (es : List (List AV)), (∀ x ∈ es, Ty Tryz.prog (n + 7) 44 x) → ∃ l : List Rl, es = rlC l ∧ ∀ x ∈ l, x.Wf
  | [], _ => ⟨[], rfl, fun x hx => by cases hx⟩
  | x :: es, h => by
    obtain ⟨l, rfl, hl⟩ := rls_of es fun y hy => h y (by simp [hy])
    obtain ⟨t, rfl, ht⟩ := rl_of (h x (by simp))
    exact ⟨t :: l, rfl, fun y hy => by rcases List.mem_cons.1 hy with rfl | hy; exact ht; exact hl y hy⟩
theorem rll_of {n : Nat} {cs : List AV} (h : Ty Tryz.prog (n + 8) 23 cs) : ∃ l : List Rl, cs = [.sl 11 (rlC l)] ∧ l.length ≤ 140737488351232 ∧ ∀ x ∈ l, x.Wf := by
  obtain ⟨es, rfl, hl, he⟩ := ty_sl Tryz.underlying23 h
  obtain ⟨ts, rfl, hts⟩ := rls_of es he
  have e1 : Tryz.prog.cellsOf 44 = 11 := by kernel_rfl
  have e2 : 1 ≤ Tryz.prog.bytesOf 44 := Nat.le_of_ble_eq_true (by kernel_rfl)
  rw [e1]
  rw [rlC_len] at hl
  exact ⟨ts, rfl, Nat.le_trans (Nat.le_mul_of_pos_right _ e2) hl, hts⟩
theorem sts_of {n : Nat} : ∀ (es : List (List AV)), (∀ x ∈ es, Ty Tryz.prog (n + 1) 9 x) → ∃ l : List ByteArray, es = stC l
  | [], _ => ⟨[], rfl⟩
  | x :: es, h => by
    obtain ⟨l, rfl⟩ := sts_of es fun y hy => h y (by simp [hy])
    obtain ⟨t, rfl, _⟩ := ty_str Tryz.underlying9 (h x (by simp))
    exact ⟨t :: l, rfl⟩
theorem stl_of {n : Nat} {cs : List AV} (h : Ty Tryz.prog (n + 2) 22 cs) : ∃ l : List ByteArray, cs = [.sl 1 (stC l)] := by
  obtain ⟨es, rfl, _, he⟩ := ty_sl Tryz.underlying22 h
  obtain ⟨ts, rfl⟩ := sts_of es he
  have e1 : Tryz.prog.cellsOf 9 = 1 := by kernel_rfl
  rw [e1]
  exact ⟨ts, rfl⟩
theorem c4_of {n : Nat} {cs : List AV} (h : Ty Tryz.prog (n + 9) 26 cs) : ∃ (homes names : List ByteArray) (rs : List Rl) (l : List Fa), cs = c4C homes names rs l ∧ C4Wf rs l := by
  have hx := ty_st Tryz.underlying26 h
  obtain ⟨x1, y1, rfl, h1, x2, y2, rfl, h2, x3, y3, rfl, h3, x4, y4, rfl, h4, rfl⟩ := hx
  obtain ⟨homes, rfl⟩ := stl_of h1
  obtain ⟨names, rfl⟩ := stl_of h2
  obtain ⟨rs, rfl, h5, h6⟩ := rll_of h3
  obtain ⟨l, rfl, h7, h8⟩ := fal_of h4
  exact ⟨homes, names, rs, l, rfl, h5, h6, by omega, h8⟩
end Go.Proofs.YthdfpankebjleaaGreat
