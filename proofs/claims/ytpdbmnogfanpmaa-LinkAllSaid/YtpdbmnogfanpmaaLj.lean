/-
  The law LinkOrders: its walk.
  Conditions: none.
-/
import Derived.Test.YtpdbmnogfanpmaaLi
set_option linter.unusedVariables false
set_option linter.unusedSimpArgs false
namespace Go.Proofs.Ytpdbmnogfanpmaa
open Go Go.Av

section
variable {σ : St} {p : Nat} {D : Nat → Sd} {g u c : Nat → Nat} {M : Nat}
set_option maxRecDepth 100000

/-- Two ends, and what holds of them. -/
def Good (σ : St) (p M U : Nat) : Prop := ∃ D g u c, PairAt σ p D ∧ PI D g u c M ∧ ∀ i, i < 2 → u i ≤ U
theorem Good.mono {U U' : Nat} (h : Good σ p M U) (hu : U ≤ U') : Good σ p M U' := by
  obtain ⟨D, g, u, c, h1, h2, h3⟩ := h
  exact ⟨D, g, u, c, h1, h2, fun i hi => Nat.le_trans (h3 i hi) hu⟩

theorem zl2_drop0 : (zl2.map AV.v).drop 40 = [] := rfl
theorem upd_again {D : Nat → Sd} {i : Nat} {A : Sd} (h : A = D i) : upd D i A = D := by
  funext j
  unfold upd
  split
  · rename_i e; rw [e, h]
  · rfl

theorem right_at (h : PairAt σ p D) (hI : PI D g u c M) : AT Try.prog 18 [ptr p] σ fun r σ' => r = boo true ∧ σ' = σ := by
  refine AT.of_body Try.func18 rfl (by decide) (by kernel_rfl) (by kernel_rfl) (Nat.le_of_ble_eq_true rfl) ?_
  simp only [go_sem, reduceIte, Nat.reduceEqDiff, Nat.reduceAdd, Nat.reduceMul, Nat.reduceSub, Nat.reduceLT, Nat.reduceLeDiff, Nat.le_refl, Nat.zero_le, Nat.zero_add, Nat.add_zero, Nat.mul_one, splice_zero, Int.toNat_natCast, Int.natCast_nonneg, Int.reduceLE, Int.reduceLT, Int.reduceToNat, Int.reduceEq, Int.cast_ofNat_Int, ne_eq, not_true_eq_false, not_false_eq_true, imp_self, implies_true, true_implies, false_implies, and_self, List.length_map, List.length_drop]
  rw [r_block]
  simp only [go_sem, reduceIte, Nat.reduceEqDiff, Nat.reduceAdd, Nat.reduceMul, Nat.reduceSub, Nat.reduceLT, Nat.reduceLeDiff, Nat.le_refl, Nat.zero_le, Nat.zero_add, Nat.add_zero, Nat.mul_one, splice_zero, Int.toNat_natCast, Int.natCast_nonneg, Int.reduceLE, Int.reduceLT, Int.reduceToNat, Int.reduceEq, Int.cast_ofNat_Int, ne_eq, not_true_eq_false, not_false_eq_true, imp_self, implies_true, true_implies, false_implies, and_self, List.length_map, List.length_drop]
  refine ⟨fun k fr σ' => ∃ i : Nat, k = 2 - i ∧ i ≤ 2 ∧ fr 0 = ptr p ∧ fr 3 = int i ∧ σ' = σ, ⟨2, 0, rfl, by omega, rfl, rfl, rfl⟩, ?_⟩
  rintro k fr σ ⟨i, rfl, hi, f0, f3, rfl⟩
  simp only [go_sem, f0, f3, reduceIte, Nat.reduceEqDiff, Nat.reduceAdd, Nat.reduceMul, Nat.reduceSub, Nat.reduceLT, Nat.reduceLeDiff, Nat.le_refl, Nat.zero_le, Nat.zero_add, Nat.add_zero, Nat.mul_one, splice_zero, Int.toNat_natCast, Int.natCast_nonneg, Int.reduceLE, Int.reduceLT, Int.reduceToNat, Int.reduceEq, Int.cast_ofNat_Int, ne_eq, not_true_eq_false, not_false_eq_true, imp_self, implies_true, true_implies, false_implies, and_self, List.length_map, List.length_drop]
  refine aIf_by (fun hlt => ?_) (fun hlt => ?_)
  · have hi2 : i < 2 := by omega
    have b0 : (i : Int) < 2 := hlt
    have b1 : i < 8 := by omega
    have b7 : 6 + i < 8 := by omega
    have b4 : 4 + i < 8 := by omega
    have ew : IntKind.i64.wrap (1 - (i : Int)) = ((1 - i : Nat) : Int) := by rw [wrap64 (by omega)]; omega
    have b2 : ((1 - i : Nat) : Int) < 2 := by omega
    have b3 : 4 + (1 - i) < 8 := by omega
    have hto : (D i).told.length = c i := by rw [hI.told i hi2, many_len]
    simp only [go_sem, r_block, f0, f3, reduceIte, Nat.reduceEqDiff, Nat.reduceAdd, Nat.reduceMul, Nat.reduceSub, Nat.reduceLT, Nat.reduceLeDiff, Nat.le_refl, Nat.zero_le, Nat.zero_add, Nat.add_zero, Nat.mul_one, splice_zero, Int.toNat_natCast, Int.natCast_nonneg, Int.reduceLE, Int.reduceLT, Int.reduceToNat, Int.reduceEq, Int.cast_ofNat_Int, ne_eq, not_true_eq_false, not_false_eq_true, imp_self, implies_true, true_implies, false_implies, and_self, List.length_map, List.length_drop]
    refine aDraw_plan [.rd 0 false, .rd 1 false, .rd 2 false, .rd 3 false, .rd 4 false, .rd 5 true, .rd 6 false, .rd 7 false, .rd 8 false, .rd 9 false, .rd 10 false, .rd 11 false, .rd 12 false, .rd 13 true, .rd 14 false, .rd 15 false, .rd 16 false, .rd 17 false, .rd 18 false, .rd 19 false, .rd 20 false, .rd 21 true, .rd 23 false, .rd 24 false, .rd 25 false, .rd 26 false, .rd 27 false, .rd 28 true, .rd 29 false, .ef 22 [28], .rd 30 false, .rd 31 false, .rd 32 false, .rd 33 false, .rd 34 false, .rd 35 false, .rd 36 false, .rd 37 false, .rd 38 true, .rd 40 false, .rd 41 false, .rd 42 false, .rd 43 false, .rd 44 false, .rd 45 true, .ef 39 [45], .rd 46 false, .rd 47 false] (by kernel_rfl) (by kernel_rfl) (by kernel_rfl) ?_
    simp only [go_sem, r_block, f0, f3, h.ob, pc_len, pc6 hi2, pc4 (show 1 - i < 2 by omega), b0, b1, b2, b3, b7, ew, (h.sd i hi2).tl.len, reduceIte, Nat.reduceEqDiff, Nat.reduceAdd, Nat.reduceMul, Nat.reduceSub, Nat.reduceLT, Nat.reduceLeDiff, Nat.le_refl, Nat.zero_le, Nat.zero_add, Nat.add_zero, Nat.mul_one, splice_zero, Int.toNat_natCast, Int.natCast_nonneg, Int.reduceLE, Int.reduceLT, Int.reduceToNat, Int.reduceEq, Int.cast_ofNat_Int, ne_eq, not_true_eq_false, not_false_eq_true, imp_self, implies_true, true_implies, false_implies, and_self, List.length_map, List.length_drop]
    have e1 : (D (1 - i)).pu = u (1 - i) := hI.pu (1 - i) (by omega)
    have e2 := hI.cu i hi2
    have g6 := hI.ul (1 - i) (by omega)
    have k1 : decide ((D (1 - i)).pu < ((D i).told.length : Int)) = false := by simp only [decide_eq_false_iff_not]; omega
    rw [k1]
    simp only [go_sem, r_block, f0, f3, h.ob, pc_len, pc0 hi2, pc6 hi2, b0, b1, b7, (h.sd i hi2).tl.len, k1, reduceIte, Nat.reduceEqDiff, Nat.reduceAdd, Nat.reduceMul, Nat.reduceSub, Nat.reduceLT, Nat.reduceLeDiff, Nat.le_refl, Nat.zero_le, Nat.zero_add, Nat.add_zero, Nat.mul_one, splice_zero, Int.toNat_natCast, Int.natCast_nonneg, Int.reduceLE, Int.reduceLT, Int.reduceToNat, Int.reduceEq, Int.cast_ofNat_Int, ne_eq, not_true_eq_false, not_false_eq_true, imp_self, implies_true, true_implies, false_implies, and_self, List.length_map, List.length_drop]
    refine (came_at (h.sd i hi2).lk.ob).mono ?_
    rintro _ σ ⟨rfl, rfl⟩
    have k2 : decide ((D i).s.came = ((D i).told.length : Int)) = true := by simp only [decide_eq_true_eq]; rw [hI.came i hi2]; omega
    simp only [go_sem, r_block, f0, f3, h.ob, pc_len, pc0 hi2, pc4 hi2, pc6 hi2, b0, b1, b4, b7, (h.sd i hi2).tl.len, k1, k2, reduceIte, Nat.reduceEqDiff, Nat.reduceAdd, Nat.reduceMul, Nat.reduceSub, Nat.reduceLT, Nat.reduceLeDiff, Nat.le_refl, Nat.zero_le, Nat.zero_add, Nat.add_zero, Nat.mul_one, splice_zero, Int.toNat_natCast, Int.natCast_nonneg, Int.reduceLE, Int.reduceLT, Int.reduceToNat, Int.reduceEq, Int.cast_ofNat_Int, ne_eq, not_true_eq_false, not_false_eq_true, imp_self, implies_true, true_implies, false_implies, and_self, List.length_map, List.length_drop]
    refine (pushed_at (h.sd i hi2).lk.ob).mono ?_
    rintro _ σ ⟨rfl, rfl⟩
    have g1 := hI.gone i hi2
    have g2 := hI.gu i hi2
    have g3 := hI.ul i hi2
    have g4 : (D i).s.wait.length = u i - g i := by rw [hI.wait i hi2, many_len]
    have g5 : (D i).pu = u i := hI.pu i hi2
    have k3 : decide (IntKind.i64.wrap ((D i).s.gone + ((D i).s.wait.length : Int)) = (D i).pu) = true := by rw [wrap64 (by omega)]; simp only [decide_eq_true_eq]; omega
    simp only [go_sem, f0, f3, h.ob, pc_len, pc0 hi2, pc4 hi2, b0, b1, b4, k1, k2, k3, reduceIte, Nat.reduceEqDiff, Nat.reduceAdd, Nat.reduceMul, Nat.reduceSub, Nat.reduceLT, Nat.reduceLeDiff, Nat.le_refl, Nat.zero_le, Nat.zero_add, Nat.add_zero, Nat.mul_one, splice_zero, Int.toNat_natCast, Int.natCast_nonneg, Int.reduceLE, Int.reduceLT, Int.reduceToNat, Int.reduceEq, Int.cast_ofNat_Int, ne_eq, not_true_eq_false, not_false_eq_true, imp_self, implies_true, true_implies, false_implies, and_self, List.length_map, List.length_drop]
    refine ⟨fun k fr σ' => ∃ j : Nat, k = c i - j ∧ j ≤ c i ∧ fr 0 = ptr p ∧ fr 3 = int i ∧ fr 4 = int j ∧ σ' = σ, ⟨c i, 0, rfl, by omega, f0, f3, rfl, rfl⟩, ?_⟩
    clear f0 f3 k1 k2 k3
    rintro k fr σ ⟨j, rfl, hj, f0, f3, f4, rfl⟩
    simp only [go_sem, f0, f3, f4, h.ob, pc_len, pc6 hi2, b0, b1, b7, (h.sd i hi2).tl.len, reduceIte, Nat.reduceEqDiff, Nat.reduceAdd, Nat.reduceMul, Nat.reduceSub, Nat.reduceLT, Nat.reduceLeDiff, Nat.le_refl, Nat.zero_le, Nat.zero_add, Nat.add_zero, Nat.mul_one, splice_zero, Int.toNat_natCast, Int.natCast_nonneg, Int.reduceLE, Int.reduceLT, Int.reduceToNat, Int.reduceEq, Int.cast_ofNat_Int, ne_eq, not_true_eq_false, not_false_eq_true, imp_self, implies_true, true_implies, false_implies, and_self, List.length_map, List.length_drop]
    refine aIf_by (fun hjl => ?_) (fun hjl => ?_)
    · have hjc : j < c i := by omega
      have hel : ((D i).told.map Itm.cs).getD j [] = (itm (j : Int)).cs := by
        rw [hI.told i hi2, List.getD_eq_getElem?_getD, List.getElem?_map, List.getElem?_eq_getElem (by rw [many_len]; exact hjc)]
        simp only [Option.map_some, Option.getD_some, many_get, Nat.zero_add]
      have hjl' : j < ((D i).told.map Itm.cs).length := by rw [List.length_map]; omega
      rcases (h.sd i hi2).tl with ⟨e1, e2⟩ | e1 | ⟨bb, cap, e1, e2, e3⟩
      · rw [e2] at hjl'; simp at hjl'
      · simp only [go_sem, r_block, f0, f3, f4, h.ob, pc_len, pc6 hi2, b0, b1, b7, e1, hel, Itm.len, Itm.at0, Itm.dr1, itm_kind, itm_ep, hjl, reduceIte, Nat.reduceEqDiff, Nat.reduceAdd, Nat.reduceMul, Nat.reduceSub, Nat.reduceLT, Nat.reduceLeDiff, Nat.le_refl, Nat.zero_le, Nat.zero_add, Nat.add_zero, Nat.mul_one, splice_zero, Int.toNat_natCast, Int.natCast_nonneg, Int.reduceLE, Int.reduceLT, Int.reduceToNat, Int.reduceEq, Int.cast_ofNat_Int, ne_eq, not_true_eq_false, not_false_eq_true, imp_self, implies_true, true_implies, false_implies, and_self, List.length_map, List.length_drop]
        rw [next64 (by omega)]
        exact ⟨c i - (j + 1), by omega, j + 1, rfl, by omega, rfl⟩
      · simp only [go_sem, r_block, f0, f3, f4, h.ob, pc_len, pc6 hi2, b0, b1, b7, e1, e3, hel, Itm.len, Itm.at0, Itm.at1, itm_kind, itm_ep, hjl, reduceIte, Nat.reduceEqDiff, Nat.reduceAdd, Nat.reduceMul, Nat.reduceSub, Nat.reduceLT, Nat.reduceLeDiff, Nat.le_refl, Nat.zero_le, Nat.zero_add, Nat.add_zero, Nat.mul_one, splice_zero, Int.toNat_natCast, Int.natCast_nonneg, Int.reduceLE, Int.reduceLT, Int.reduceToNat, Int.reduceEq, Int.cast_ofNat_Int, ne_eq, not_true_eq_false, not_false_eq_true, imp_self, implies_true, true_implies, false_implies, and_self, List.length_map, List.length_drop]
        rw [next64 (by omega)]
        exact ⟨by omega, by omega, c i - (j + 1), by omega, j + 1, rfl, by omega, rfl⟩
    · simp only [go_sem, f0, f3, f4, reduceIte, Nat.reduceEqDiff, Nat.reduceAdd, Nat.reduceMul, Nat.reduceSub, Nat.reduceLT, Nat.reduceLeDiff, Nat.le_refl, Nat.zero_le, Nat.zero_add, Nat.add_zero, Nat.mul_one, splice_zero, Int.toNat_natCast, Int.natCast_nonneg, Int.reduceLE, Int.reduceLT, Int.reduceToNat, Int.reduceEq, Int.cast_ofNat_Int, ne_eq, not_true_eq_false, not_false_eq_true, imp_self, implies_true, true_implies, false_implies, and_self, List.length_map, List.length_drop]
      rw [next64 (by omega)]
      exact ⟨2 - (i + 1), by omega, i + 1, rfl, by omega, rfl⟩
  · simp only [go_sem, f0, f3, reduceIte, Nat.reduceEqDiff, Nat.reduceAdd, Nat.reduceMul, Nat.reduceSub, Nat.reduceLT, Nat.reduceLeDiff, Nat.le_refl, Nat.zero_le, Nat.zero_add, Nat.add_zero, Nat.mul_one, splice_zero, Int.toNat_natCast, Int.natCast_nonneg, Int.reduceLE, Int.reduceLT, Int.reduceToNat, Int.reduceEq, Int.cast_ofNat_Int, ne_eq, not_true_eq_false, not_false_eq_true, imp_self, implies_true, true_implies, false_implies, and_self, List.length_map, List.length_drop]
    exact aRet_as (r := boo true) rfl ⟨rfl, rfl⟩

theorem move_at {U : Nat} (h : Good σ p M U) (hM : M + 2 < 1000000) (hU : U < 1000) (kd sd nn : Int) : AT Try.prog 17 [ptr p, .agg [int kd, int sd, int nn]] σ fun r σ' => r = boo true ∧ Good σ' p (M + 2) (U + 1) := by
  refine AT.of_body Try.func17 rfl (by decide) (by kernel_rfl) (by kernel_rfl) (Nat.le_of_ble_eq_true rfl) ?_
  simp only [go_sem, reduceIte, Nat.reduceEqDiff, Nat.reduceAdd, Nat.reduceMul, Nat.reduceSub, Nat.reduceLT, Nat.reduceLeDiff, Nat.le_refl, Nat.zero_le, Nat.zero_add, Nat.add_zero, Nat.mul_one, splice_zero, Int.toNat_natCast, Int.natCast_nonneg, Int.reduceLE, Int.reduceLT, Int.reduceToNat, Int.reduceEq, Int.cast_ofNat_Int, ne_eq, not_true_eq_false, not_false_eq_true, imp_self, implies_true, true_implies, false_implies, and_self, List.length_map, List.length_drop]
  refine aNew_intro fun b hb hcm => ?_
  obtain ⟨D, g, u, c, h, hI, hu⟩ := h
  have h1 := h.keep (σ' := σ.set b (.cells [int kd, int sd, int nn])) fun x o hx => set_sub hb (fun _ _ h => h) x o hx
  have h2 : (σ.set b (.cells [int kd, int sd, int nn])) b = some (.cells [int kd, int sd, int nn]) := set_same
  have hpb : p ≠ b := fun e => by subst e; rw [h.ob] at hb; cases hb
  clear h hcm
  revert h1 h2
  generalize σ.set b (.cells [int kd, int sd, int nn]) = σ1
  intro h h2
  clear hb
  obtain ⟨p1, p2, p3, p4⟩ := pos_lt (k := sd) (L := 2) (by decide)
  replace p2 : (sd.tmod 2 + 2).tmod 2 = (pos sd 2 : Int) := p2
  replace p3 : -2 < sd.tmod 2 := p3
  replace p4 : sd.tmod 2 < 2 := p4
  simp only [go_sem, h2, reduceIte, Nat.reduceEqDiff, Nat.reduceAdd, Nat.reduceMul, Nat.reduceSub, Nat.reduceLT, Nat.reduceLeDiff, Nat.le_refl, Nat.zero_le, Nat.zero_add, Nat.add_zero, Nat.mul_one, splice_zero, Int.toNat_natCast, Int.natCast_nonneg, Int.reduceLE, Int.reduceLT, Int.reduceToNat, Int.reduceEq, Int.cast_ofNat_Int, ne_eq, not_true_eq_false, not_false_eq_true, imp_self, implies_true, true_implies, false_implies, and_self, List.length_map, List.length_drop]
  rw [wrap64 (by omega), p2]
  generalize pos sd 2 = i at p1
  clear p2 p3 p4
  have hi2 := p1
  have b0 : (i : Int) < 2 := by omega
  have b1 : i < 8 := by omega
  have b7 : 6 + i < 8 := by omega
  have b4 : 4 + i < 8 := by omega
  have b5 : 2 + i < 8 := by omega
  have b41 : 4 + i + 1 ≤ 8 := by omega
  have b51 : 2 + i + 1 ≤ 8 := by omega
  have b61 : 2 + (1 - i) < 8 := by omega
  have b62 : 2 + (1 - i) + 1 ≤ 8 := by omega
  have b63 : ((1 - i : Nat) : Int) < 2 := by omega
  have ew : IntKind.i64.wrap (1 - (i : Int)) = ((1 - i : Nat) : Int) := by rw [wrap64 (by omega)]; omega
  simp only [go_sem, r_block, h2, reduceIte, Nat.reduceEqDiff, Nat.reduceAdd, Nat.reduceMul, Nat.reduceSub, Nat.reduceLT, Nat.reduceLeDiff, Nat.le_refl, Nat.zero_le, Nat.zero_add, Nat.add_zero, Nat.mul_one, splice_zero, Int.toNat_natCast, Int.natCast_nonneg, Int.reduceLE, Int.reduceLT, Int.reduceToNat, Int.reduceEq, Int.cast_ofNat_Int, ne_eq, not_true_eq_false, not_false_eq_true, imp_self, implies_true, true_implies, false_implies, and_self, List.length_map, List.length_drop]
  refine aIf_by (fun hk0 => ?_) (fun hk0 => ?_)
  · simp only [go_sem, r_block, h2, h.ob, reduceIte, Nat.reduceEqDiff, Nat.reduceAdd, Nat.reduceMul, Nat.reduceSub, Nat.reduceLT, Nat.reduceLeDiff, Nat.le_refl, Nat.zero_le, Nat.zero_add, Nat.add_zero, Nat.mul_one, splice_zero, Int.toNat_natCast, Int.natCast_nonneg, Int.reduceLE, Int.reduceLT, Int.reduceToNat, Int.reduceEq, Int.cast_ofNat_Int, ne_eq, not_true_eq_false, not_false_eq_true, imp_self, implies_true, true_implies, false_implies, and_self, List.length_map, List.length_drop]
    refine aDraw_plan [.rd 0 false, .rd 1 false, .rd 2 false, .rd 3 false, .rd 4 false, .rd 5 true, .rd 6 false, .rd 7 false, .rd 8 false, .rd 9 false, .rd 10 false, .rd 11 true, .ef 12 [5], .ef 13 [], .rd 14 false] (by kernel_rfl) (by kernel_rfl) (by kernel_rfl) ?_
    simp only [go_sem, r_block, h.ob, pc_len, pc0 hi2, pc4 hi2, b0, b1, b4, reduceIte, Nat.reduceEqDiff, Nat.reduceAdd, Nat.reduceMul, Nat.reduceSub, Nat.reduceLT, Nat.reduceLeDiff, Nat.le_refl, Nat.zero_le, Nat.zero_add, Nat.add_zero, Nat.mul_one, splice_zero, Int.toNat_natCast, Int.natCast_nonneg, Int.reduceLE, Int.reduceLT, Int.reduceToNat, Int.reduceEq, Int.cast_ofNat_Int, ne_eq, not_true_eq_false, not_false_eq_true, imp_self, implies_true, true_implies, false_implies, and_self, List.length_map, List.length_drop]
    refine (item_at _).mono ?_
    rintro _ σ2 ⟨rfl, rfl⟩
    simp only [go_sem, r_block, h.ob, pc_len, pc0 hi2, pc4 hi2, b0, b1, b4, reduceIte, Nat.reduceEqDiff, Nat.reduceAdd, Nat.reduceMul, Nat.reduceSub, Nat.reduceLT, Nat.reduceLeDiff, Nat.le_refl, Nat.zero_le, Nat.zero_add, Nat.add_zero, Nat.mul_one, splice_zero, Int.toNat_natCast, Int.natCast_nonneg, Int.reduceLE, Int.reduceLT, Int.reduceToNat, Int.reduceEq, Int.cast_ofNat_Int, ne_eq, not_true_eq_false, not_false_eq_true, imp_self, implies_true, true_implies, false_implies, and_self, List.length_map, List.length_drop]
    have hui := hu i hi2
    obtain ⟨q1, q2⟩ := hI.push hi2 (by omega)
    have epu : (D i).pu = u i := hI.pu i hi2
    rw [epu]
    refine (push_at (h.sd i hi2).lk.ob (itm (u i)) (Nat.zero_le _) (hI.fit hi2).wt).mono ?_
    rintro _ σ3 ⟨rfl, hs⟩
    rw [q1] at hs ⊢
    have h3 := h.link1 hi2 (s' := { (D i).s with wait := many (g i) (u i + 1 - g i) }) rfl
    rw [← hs] at h3
    clear hs h
    simp only [go_sem, r_block, reduceIte, Nat.reduceEqDiff, Nat.reduceAdd, Nat.reduceMul, Nat.reduceSub, Nat.reduceLT, Nat.reduceLeDiff, Nat.le_refl, Nat.zero_le, Nat.zero_add, Nat.add_zero, Nat.mul_one, splice_zero, Int.toNat_natCast, Int.natCast_nonneg, Int.reduceLE, Int.reduceLT, Int.reduceToNat, Int.reduceEq, Int.cast_ofNat_Int, ne_eq, not_true_eq_false, not_false_eq_true, imp_self, implies_true, true_implies, false_implies, and_self, List.length_map, List.length_drop]
    refine aDraw_plan [.rd 0 false, .rd 1 false, .rd 2 false, .rd 3 false, .rd 4 false, .rd 5 true, .rd 6 false, .rd 7 false, .rd 8 false, .rd 9 false, .ef 10 []] (by kernel_rfl) (by kernel_rfl) (by kernel_rfl) ?_
    obtain ⟨D2, hD2⟩ : ∃ D2, D2 = upd D i { D i with s := { (D i).s with wait := many (g i) (u i + 1 - g i) } } := ⟨_, rfl⟩
    rw [← hD2] at h3
    have hdi : D2 i = { D i with s := { (D i).s with wait := many (g i) (u i + 1 - g i) } } := by rw [hD2, upd_same]
    have epu2 : (D2 i).pu = u i := by rw [hdi]; exact epu
    simp only [go_sem, r_block, h3.ob, pc_len, pc0 hi2, pc4 hi2, b0, b1, b4, b41, reduceIte, Nat.reduceEqDiff, Nat.reduceAdd, Nat.reduceMul, Nat.reduceSub, Nat.reduceLT, Nat.reduceLeDiff, Nat.le_refl, Nat.zero_le, Nat.zero_add, Nat.add_zero, Nat.mul_one, splice_zero, Int.toNat_natCast, Int.natCast_nonneg, Int.reduceLE, Int.reduceLT, Int.reduceToNat, Int.reduceEq, Int.cast_ofNat_Int, ne_eq, not_true_eq_false, not_false_eq_true, imp_self, implies_true, true_implies, false_implies, and_self, List.length_map, List.length_drop]
    rw [epu2, next64 (by omega), pw4 hi2]
    refine aRet_as (r := boo true) rfl ⟨rfl, upd D2 i { D2 i with pu := ((u i + 1 : Nat) : Int) }, updn g i (g i), updn u i (u i + 1), updn c i (c i), h3.pushed hi2, ?_, fun j hj => ?_⟩
    · rw [hdi, hD2, upd_upd]
      exact q2.more (by omega) (by omega)
    · unfold updn; split
      · omega
      · have := hu j hj; omega
  simp only [go_sem, r_block, reduceIte, Nat.reduceEqDiff, Nat.reduceAdd, Nat.reduceMul, Nat.reduceSub, Nat.reduceLT, Nat.reduceLeDiff, Nat.le_refl, Nat.zero_le, Nat.zero_add, Nat.add_zero, Nat.mul_one, splice_zero, Int.toNat_natCast, Int.natCast_nonneg, Int.reduceLE, Int.reduceLT, Int.reduceToNat, Int.reduceEq, Int.cast_ofNat_Int, ne_eq, not_true_eq_false, not_false_eq_true, imp_self, implies_true, true_implies, false_implies, and_self, List.length_map, List.length_drop]
  refine aIf_by (fun hk1 => ?_) (fun hk1 => ?_)
  · simp only [go_sem, r_block, reduceIte, Nat.reduceEqDiff, Nat.reduceAdd, Nat.reduceMul, Nat.reduceSub, Nat.reduceLT, Nat.reduceLeDiff, Nat.le_refl, Nat.zero_le, Nat.zero_add, Nat.add_zero, Nat.mul_one, splice_zero, Int.toNat_natCast, Int.natCast_nonneg, Int.reduceLE, Int.reduceLT, Int.reduceToNat, Int.reduceEq, Int.cast_ofNat_Int, ne_eq, not_true_eq_false, not_false_eq_true, imp_self, implies_true, true_implies, false_implies, and_self, List.length_map, List.length_drop]
    refine aDraw_plan [.rd 0 false, .rd 1 false, .rd 2 false, .rd 3 false, .rd 4 false, .rd 5 false, .rd 6 false, .rd 7 false, .rd 8 false, .rd 9 true, .rd 10 false, .rd 11 false, .rd 12 false, .rd 13 false, .rd 14 false, .rd 15 true, .rd 18 false, .rd 19 false, .ef 16 [9], .ef 17 [], .rd 20 false, .ef 21 []] (by kernel_rfl) (by kernel_rfl) (by kernel_rfl) ?_
    have ho2 : 1 - i < 2 := by omega
    simp only [go_sem, r_block, h.ob, pc_len, pc0 hi2, pc2 ho2, b0, b1, b61, b63, ew, reduceIte, Nat.reduceEqDiff, Nat.reduceAdd, Nat.reduceMul, Nat.reduceSub, Nat.reduceLT, Nat.reduceLeDiff, Nat.le_refl, Nat.zero_le, Nat.zero_add, Nat.add_zero, Nat.mul_one, splice_zero, Int.toNat_natCast, Int.natCast_nonneg, Int.reduceLE, Int.reduceLT, Int.reduceToNat, Int.reduceEq, Int.cast_ofNat_Int, ne_eq, not_true_eq_false, not_false_eq_true, imp_self, implies_true, true_implies, false_implies, and_self, List.length_map, List.length_drop]
    have fit := hI.fit hi2
    refine (tick_at (h.sd i hi2).lk.ob fit.ar ⟨fit.g0, fit.g1⟩ fit.wt).mono ?_
    rintro _ σ3 ⟨rfl, hs⟩
    obtain ⟨t1, t2⟩ := hI.frames hi2
    have h3 := h.link1 hi2 (s' := (D i).s.tick.2) rfl
    rw [← hs] at h3
    have hI3 := hI.ticked hi2
    rw [updn_self, updn_self, updn_self] at hI3
    clear hs h
    obtain ⟨D2, hD2⟩ : ∃ D2, D2 = upd D i { D i with s := (D i).s.tick.2 } := ⟨_, rfl⟩
    rw [← hD2] at h3 hI3
    have hwl : (D (1 - i)).wl = (D2 (1 - i)).wl := by rw [hD2, upd_ne (by omega)]
    have hL := (h3.sd (1 - i) ho2).wl
    have hwy := hI3.wl (1 - i) ho2
    simp only [go_sem, r_block, h3.ob, pc_len, pc2 ho2, b61, b63, hwl, reduceIte, Nat.reduceEqDiff, Nat.reduceAdd, Nat.reduceMul, Nat.reduceSub, Nat.reduceLT, Nat.reduceLeDiff, Nat.le_refl, Nat.zero_le, Nat.zero_add, Nat.add_zero, Nat.mul_one, splice_zero, Int.toNat_natCast, Int.natCast_nonneg, Int.reduceLE, Int.reduceLT, Int.reduceToNat, Int.reduceEq, Int.cast_ofNat_Int, ne_eq, not_true_eq_false, not_false_eq_true, imp_self, implies_true, true_implies, false_implies, and_self, List.length_map, List.length_drop]
    refine aApp_by (ys := (D i).s.tick.1.map Frm.cs) (by simp [src]) (by decide) (by decide) zl2_one (hL.app (by simp; omega) fun wl σ4 hL4 hs4 => ?_)
    have hp := hs4 p _ h3.ob (fun ho => h3.np (1 - i) ho2 (.inr (.inr (.inl ho))))
    simp only [go_sem, r_block, hp.1, pc_len, b62, b63, hL4.one, hL4.cells, reduceIte, Nat.reduceEqDiff, Nat.reduceAdd, Nat.reduceMul, Nat.reduceSub, Nat.reduceLT, Nat.reduceLeDiff, Nat.le_refl, Nat.zero_le, Nat.zero_add, Nat.add_zero, Nat.mul_one, splice_zero, Int.toNat_natCast, Int.natCast_nonneg, Int.reduceLE, Int.reduceLT, Int.reduceToNat, Int.reduceEq, Int.cast_ofNat_Int, ne_eq, not_true_eq_false, not_false_eq_true, imp_self, implies_true, true_implies, false_implies, and_self, List.length_map, List.length_drop]
    rw [pw2 ho2 (w := (D2 (1 - i)).way ++ (D i).s.tick.1)]
    have h5 := h3.ways ho2 (way := (D2 (1 - i)).way ++ (D i).s.tick.1) (by rw [List.map_append]; exact hL4) hs4
    have hI5 := hI3.sent (by omega) ho2 (fs := (D i).s.tick.1) (fun f hf => by rw [show 1 - (1 - i) = i by omega]; exact (t1 f hf).1) t2 wl
    rw [updn_self, updn_self, updn_self] at hI5
    exact aRet_as (r := boo true) rfl ⟨rfl, _, g, u, c, h5, hI5.more (by omega) (by omega), fun j hj => by have := hu j hj; omega⟩
  have hL := (h.sd i hi2).wl
  have hI' := hI.more (M' := M + 2) (by omega) (by omega)
  have hu' : ∀ j, j < 2 → u j ≤ U + 1 := fun j hj => by have := hu j hj; omega
  simp only [go_sem, r_block, h.ob, pc_len, pc2 hi2, b0, b5, hL.len, reduceIte, Nat.reduceEqDiff, Nat.reduceAdd, Nat.reduceMul, Nat.reduceSub, Nat.reduceLT, Nat.reduceLeDiff, Nat.le_refl, Nat.zero_le, Nat.zero_add, Nat.add_zero, Nat.mul_one, splice_zero, Int.toNat_natCast, Int.natCast_nonneg, Int.reduceLE, Int.reduceLT, Int.reduceToNat, Int.reduceEq, Int.cast_ofNat_Int, ne_eq, not_true_eq_false, not_false_eq_true, imp_self, implies_true, true_implies, false_implies, and_self, List.length_map, List.length_drop]
  have done : ∀ (fr : Fr), fr 4 = boo true → aRet Try.prog (fun r σ' => r = boo true ∧ Good σ' p (M + 2) (U + 1)) [.tmp 4] fr σ1 := fun fr h4 => aRet_as (r := boo true) (by simp [aResult, aResL, aRes1, oneR, h4]) ⟨rfl, D, g, u, c, h, hI', hu'⟩
  refine aIf_by (fun hz => ?_) (fun hz => ?_)
  · simp only [go_sem, r_block, decide_eq_true hz, reduceIte, Nat.reduceEqDiff, Nat.reduceAdd, Nat.reduceMul, Nat.reduceSub, Nat.reduceLT, Nat.reduceLeDiff, Nat.le_refl, Nat.zero_le, Nat.zero_add, Nat.add_zero, Nat.mul_one, splice_zero, Int.toNat_natCast, Int.natCast_nonneg, Int.reduceLE, Int.reduceLT, Int.reduceToNat, Int.reduceEq, Int.cast_ofNat_Int, ne_eq, not_true_eq_false, not_false_eq_true, imp_self, implies_true, true_implies, false_implies, and_self, List.length_map, List.length_drop]
    exact done _ rfl
  simp only [go_sem, r_block, h2, decide_eq_false hz, reduceIte, Nat.reduceEqDiff, Nat.reduceAdd, Nat.reduceMul, Nat.reduceSub, Nat.reduceLT, Nat.reduceLeDiff, Nat.le_refl, Nat.zero_le, Nat.zero_add, Nat.add_zero, Nat.mul_one, splice_zero, Int.toNat_natCast, Int.natCast_nonneg, Int.reduceLE, Int.reduceLT, Int.reduceToNat, Int.reduceEq, Int.cast_ofNat_Int, ne_eq, not_true_eq_false, not_false_eq_true, imp_self, implies_true, true_implies, false_implies, and_self, List.length_map, List.length_drop]
  refine aIf_by (fun hk2 => ?_) (fun hk2 => ?_)
  · simp only [go_sem, r_block, decide_eq_true hk2, decide_eq_false hz, reduceIte, Nat.reduceEqDiff, Nat.reduceAdd, Nat.reduceMul, Nat.reduceSub, Nat.reduceLT, Nat.reduceLeDiff, Nat.le_refl, Nat.zero_le, Nat.zero_add, Nat.add_zero, Nat.mul_one, splice_zero, Int.toNat_natCast, Int.natCast_nonneg, Int.reduceLE, Int.reduceLT, Int.reduceToNat, Int.reduceEq, Int.cast_ofNat_Int, ne_eq, not_true_eq_false, not_false_eq_true, imp_self, implies_true, true_implies, false_implies, and_self, List.length_map, List.length_drop]
    exact done _ rfl
  simp only [go_sem, r_block, h2, decide_eq_false hz, decide_eq_false hk2, reduceIte, Nat.reduceEqDiff, Nat.reduceAdd, Nat.reduceMul, Nat.reduceSub, Nat.reduceLT, Nat.reduceLeDiff, Nat.le_refl, Nat.zero_le, Nat.zero_add, Nat.add_zero, Nat.mul_one, splice_zero, Int.toNat_natCast, Int.natCast_nonneg, Int.reduceLE, Int.reduceLT, Int.reduceToNat, Int.reduceEq, Int.cast_ofNat_Int, ne_eq, not_true_eq_false, not_false_eq_true, imp_self, implies_true, true_implies, false_implies, and_self, List.length_map, List.length_drop]
  refine aIf_by (fun hk4 => ?_) (fun hk4 => ?_)
  · simp only [go_sem, r_block, decide_eq_true hk4, decide_eq_false hz, decide_eq_false hk2, reduceIte, Nat.reduceEqDiff, Nat.reduceAdd, Nat.reduceMul, Nat.reduceSub, Nat.reduceLT, Nat.reduceLeDiff, Nat.le_refl, Nat.zero_le, Nat.zero_add, Nat.add_zero, Nat.mul_one, splice_zero, Int.toNat_natCast, Int.natCast_nonneg, Int.reduceLE, Int.reduceLT, Int.reduceToNat, Int.reduceEq, Int.cast_ofNat_Int, ne_eq, not_true_eq_false, not_false_eq_true, imp_self, implies_true, true_implies, false_implies, and_self, List.length_map, List.length_drop]
    exact done _ rfl
  clear done
  simp only [go_sem, r_block, h2, decide_eq_false hz, decide_eq_false hk2, decide_eq_false hk4, reduceIte, Nat.reduceEqDiff, Nat.reduceAdd, Nat.reduceMul, Nat.reduceSub, Nat.reduceLT, Nat.reduceLeDiff, Nat.le_refl, Nat.zero_le, Nat.zero_add, Nat.add_zero, Nat.mul_one, splice_zero, Int.toNat_natCast, Int.natCast_nonneg, Int.reduceLE, Int.reduceLT, Int.reduceToNat, Int.reduceEq, Int.cast_ofNat_Int, ne_eq, not_true_eq_false, not_false_eq_true, imp_self, implies_true, true_implies, false_implies, and_self, List.length_map, List.length_drop]
  refine aDraw_plan [.rd 0 false, .rd 1 true, .rd 2 false, .rd 3 false, .rd 4 false, .rd 5 false, .rd 6 false, .rd 7 true, .rd 8 false, .rd 9 false, .rd 10 false, .rd 11 false, .rd 12 false, .rd 13 false, .rd 14 false, .rd 15 true, .rd 16 false, .rd 17 false, .rd 18 false, .rd 19 false, .rd 20 false, .rd 21 false, .rd 22 false, .rd 23 true, .rd 24 false, .rd 25 false, .rd 26 false] (by kernel_rfl) (by kernel_rfl) (by kernel_rfl) ?_
  have hwl := hI.wl i hi2
  have hml := hI.ml
  generalize hL0 : (D i).way.length = L at hwl hz
  have hLp : 0 < L := by omega
  obtain ⟨p1, p2, p3, p4⟩ := pos_lt (k := nn) (L := L) hLp
  simp only [go_sem, r_block, h.ob, h2, pc_len, pc2 hi2, b0, b5, hL.len, hL0, reduceIte, Nat.reduceEqDiff, Nat.reduceAdd, Nat.reduceMul, Nat.reduceSub, Nat.reduceLT, Nat.reduceLeDiff, Nat.le_refl, Nat.zero_le, Nat.zero_add, Nat.add_zero, Nat.mul_one, splice_zero, Int.toNat_natCast, Int.natCast_nonneg, Int.reduceLE, Int.reduceLT, Int.reduceToNat, Int.reduceEq, Int.cast_ofNat_Int, ne_eq, not_true_eq_false, not_false_eq_true, imp_self, implies_true, true_implies, false_implies, and_self, List.length_map, List.length_drop]
  rw [wrap64 (by omega), p2]
  generalize pos nn L = k at p1
  clear p2 p3 p4
  refine ⟨by omega, by omega, ?_⟩
  have hk' : k < (D i).way.length := by omega
  obtain ⟨f, hf⟩ : ∃ f, f = (D i).way[k] := ⟨_, rfl⟩
  have hok : Fok (u (1 - i)) (c (1 - i)) f := hI.way i hi2 f (by rw [hf]; exact List.getElem_mem _)
  have hel : ((D i).way.map Frm.cs).getD k [] = f.cs := by
    rw [hf, List.getD_eq_getElem?_getD, List.getElem?_map, List.getElem?_eq_getElem hk']
    rfl
  refine hL.iadr (by omega) (by rw [List.length_map]; omega) fun q hload => ?_
  simp only [go_sem, r_block, reduceIte, Nat.reduceEqDiff, Nat.reduceAdd, Nat.reduceMul, Nat.reduceSub, Nat.reduceLT, Nat.reduceLeDiff, Nat.le_refl, Nat.zero_le, Nat.zero_add, Nat.add_zero, Nat.mul_one, splice_zero, Int.toNat_natCast, Int.natCast_nonneg, Int.reduceLE, Int.reduceLT, Int.reduceToNat, Int.reduceEq, Int.cast_ofNat_Int, ne_eq, not_true_eq_false, not_false_eq_true, imp_self, implies_true, true_implies, false_implies, and_self, List.length_map, List.length_drop]
  refine hload _ _ _ ⟨by rw [Int.toNat_natCast, hel, f.len]; exact Nat.le_refl _, ?_⟩
  simp only [go_sem, r_block, hel, f.take, f.len, reduceIte, Nat.reduceEqDiff, Nat.reduceAdd, Nat.reduceMul, Nat.reduceSub, Nat.reduceLT, Nat.reduceLeDiff, Nat.le_refl, Nat.zero_le, Nat.zero_add, Nat.add_zero, Nat.mul_one, splice_zero, Int.toNat_natCast, Int.natCast_nonneg, Int.reduceLE, Int.reduceLT, Int.reduceToNat, Int.reduceEq, Int.cast_ofNat_Int, ne_eq, not_true_eq_false, not_false_eq_true, imp_self, implies_true, true_implies, false_implies, and_self, List.length_map, List.length_drop]
  refine aNew_intro fun e he hec => ?_
  have h3 := h.keep (σ' := σ1.set e (.cells f.cs)) fun x o hx => set_sub he (fun _ _ h => h) x o hx
  have h4 : (σ1.set e (.cells f.cs)) e = some (.cells f.cs) := set_same
  have h5 : (σ1.set e (.cells f.cs)) b = some (.cells [int kd, int sd, int nn]) := set_sub he (fun _ _ h => h) _ _ h2
  have hpe : p ≠ e := hec _ _ h.ob
  simp only [go_sem, r_block, set_same, f.one, f.len, zl2_len, zl2_drop0, reduceIte, Nat.reduceEqDiff, Nat.reduceAdd, Nat.reduceMul, Nat.reduceSub, Nat.reduceLT, Nat.reduceLeDiff, Nat.le_refl, Nat.zero_le, Nat.zero_add, Nat.add_zero, Nat.mul_one, splice_zero, Int.toNat_natCast, Int.natCast_nonneg, Int.reduceLE, Int.reduceLT, Int.reduceToNat, Int.reduceEq, Int.cast_ofNat_Int, ne_eq, not_true_eq_false, not_false_eq_true, imp_self, implies_true, true_implies, false_implies, and_self, List.length_map, List.length_drop]
  revert h3 h4 h5
  generalize σ1.set e (.cells f.cs) = σ2
  intro h3 h4 h5
  have hwL : (D i).way.length ≤ 8000000 := by rw [hL0]; omega
  clear hload h h2 hL he hec hL0
  simp only [go_sem, r_block, h5, reduceIte, Nat.reduceEqDiff, Nat.reduceAdd, Nat.reduceMul, Nat.reduceSub, Nat.reduceLT, Nat.reduceLeDiff, Nat.le_refl, Nat.zero_le, Nat.zero_add, Nat.add_zero, Nat.mul_one, splice_zero, Int.toNat_natCast, Int.natCast_nonneg, Int.reduceLE, Int.reduceLT, Int.reduceToNat, Int.reduceEq, Int.cast_ofNat_Int, ne_eq, not_true_eq_false, not_false_eq_true, imp_self, implies_true, true_implies, false_implies, and_self, List.length_map, List.length_drop]
  refine aIf_meet (fun fr σ' => ∃ D', fr 0 = ptr p ∧ fr 3 = ptr b ∧ fr 5 = int i ∧ fr 8 = ptr e ∧ σ' b = some (.cells [int kd, int sd, int nn]) ∧ σ' e = some (.cells f.cs) ∧ PairAt σ' p D' ∧ PI D' g u c M) (fun hk3 => ?_) (fun hk3 => ?_) ?_
  · simp only [go_sem, r_block, reduceIte, Nat.reduceEqDiff, Nat.reduceAdd, Nat.reduceMul, Nat.reduceSub, Nat.reduceLT, Nat.reduceLeDiff, Nat.le_refl, Nat.zero_le, Nat.zero_add, Nat.add_zero, Nat.mul_one, splice_zero, Int.toNat_natCast, Int.natCast_nonneg, Int.reduceLE, Int.reduceLT, Int.reduceToNat, Int.reduceEq, Int.cast_ofNat_Int, ne_eq, not_true_eq_false, not_false_eq_true, imp_self, implies_true, true_implies, false_implies, and_self, List.length_map, List.length_drop]
    exact ⟨D, h5, h4, h3, hI⟩
  · simp only [go_sem, r_block, h3.ob, pc_len, pc2 hi2, b0, b5, reduceIte, Nat.reduceEqDiff, Nat.reduceAdd, Nat.reduceMul, Nat.reduceSub, Nat.reduceLT, Nat.reduceLeDiff, Nat.le_refl, Nat.zero_le, Nat.zero_add, Nat.add_zero, Nat.mul_one, splice_zero, Int.toNat_natCast, Int.natCast_nonneg, Int.reduceLE, Int.reduceLT, Int.reduceToNat, Int.reduceEq, Int.cast_ofNat_Int, ne_eq, not_true_eq_false, not_false_eq_true, imp_self, implies_true, true_implies, false_implies, and_self, List.length_map, List.length_drop]
    have hL := (h3.sd i hi2).wl
    refine hL.upto (j := (k : Int)) (by omega) (by rw [List.length_map]; omega) fun x hx => ?_
    simp only [go_sem, r_block, reduceIte, Nat.reduceEqDiff, Nat.reduceAdd, Nat.reduceMul, Nat.reduceSub, Nat.reduceLT, Nat.reduceLeDiff, Nat.le_refl, Nat.zero_le, Nat.zero_add, Nat.add_zero, Nat.mul_one, splice_zero, Int.toNat_natCast, Int.natCast_nonneg, Int.reduceLE, Int.reduceLT, Int.reduceToNat, Int.reduceEq, Int.cast_ofNat_Int, ne_eq, not_true_eq_false, not_false_eq_true, imp_self, implies_true, true_implies, false_implies, and_self, List.length_map, List.length_drop]
    refine aApp_by (hx _ _ hL) (by decide) (by decide) zl2_one ((LAt.full (q := 40) (es := [])).app (by simp; omega) fun lv σ3 hL3 hs3 => ?_)
    have hs3' : ∀ x o, σ2 x = some o → σ3 x = some o ∧ ¬ Own lv x := fun x o hx => hs3 x o hx (fun ⟨_, _, e⟩ => by cases e)
    have h6 := h3.keep fun x o hx => (hs3' x o hx).1
    rw [List.nil_append, Int.toNat_natCast] at hL3
    simp only [go_sem, r_block, reduceIte, Nat.reduceEqDiff, Nat.reduceAdd, Nat.reduceMul, Nat.reduceSub, Nat.reduceLT, Nat.reduceLeDiff, Nat.le_refl, Nat.zero_le, Nat.zero_add, Nat.add_zero, Nat.mul_one, splice_zero, Int.toNat_natCast, Int.natCast_nonneg, Int.reduceLE, Int.reduceLT, Int.reduceToNat, Int.reduceEq, Int.cast_ofNat_Int, ne_eq, not_true_eq_false, not_false_eq_true, imp_self, implies_true, true_implies, false_implies, and_self, List.length_map, List.length_drop]
    refine aDraw_plan [.rd 0 false, .rd 1 false, .rd 2 false, .rd 3 false, .rd 4 false, .rd 5 false, .rd 6 false, .rd 7 false, .rd 8 true, .rd 9 false, .rd 10 false, .rd 11 true, .rd 13 false, .rd 14 false, .ef 12 [], .rd 15 false, .ef 16 []] (by kernel_rfl) (by kernel_rfl) (by kernel_rfl) ?_
    simp only [go_sem, r_block, h6.ob, pc_len, pc2 hi2, b0, b5, reduceIte, Nat.reduceEqDiff, Nat.reduceAdd, Nat.reduceMul, Nat.reduceSub, Nat.reduceLT, Nat.reduceLeDiff, Nat.le_refl, Nat.zero_le, Nat.zero_add, Nat.add_zero, Nat.mul_one, splice_zero, Int.toNat_natCast, Int.natCast_nonneg, Int.reduceLE, Int.reduceLT, Int.reduceToNat, Int.reduceEq, Int.cast_ofNat_Int, ne_eq, not_true_eq_false, not_false_eq_true, imp_self, implies_true, true_implies, false_implies, and_self, List.length_map, List.length_drop]
    rw [next64 (by omega)]
    have hLw := (h6.sd i hi2).wl
    refine hLw.from (j := ((k + 1 : Nat) : Int)) (by decide) (by omega) (by rw [List.length_map]; omega) fun y hy => ?_
    simp only [go_sem, r_block, reduceIte, Nat.reduceEqDiff, Nat.reduceAdd, Nat.reduceMul, Nat.reduceSub, Nat.reduceLT, Nat.reduceLeDiff, Nat.le_refl, Nat.zero_le, Nat.zero_add, Nat.add_zero, Nat.mul_one, splice_zero, Int.toNat_natCast, Int.natCast_nonneg, Int.reduceLE, Int.reduceLT, Int.reduceToNat, Int.reduceEq, Int.cast_ofNat_Int, ne_eq, not_true_eq_false, not_false_eq_true, imp_self, implies_true, true_implies, false_implies, and_self, List.length_map, List.length_drop]
    have hown : ∀ x, Own lv x → ¬ Own (D i).wl x := fun x h1 h2 => by
      obtain ⟨cc, hcc⟩ := hL.own_rows h2
      exact (hs3' x _ hcc).2 h1
    refine aApp_by (hy _ _ hLw) (by decide) (by decide) zl2_one (hL3.app (by simp; omega) fun lv2 σ4 hL4 hs4 => ?_)
    have hk4' : ∀ x o, σ2 x = some o → σ4 x = some o ∧ ¬ Own lv2 x := fun x o hx => hs4 x o (hs3' x o hx).1 (hs3' x o hx).2
    have hp := hk4' p _ h3.ob
    simp only [go_sem, r_block, hp.1, pc_len, b0, b51, hL4.one, hL4.cells, reduceIte, Nat.reduceEqDiff, Nat.reduceAdd, Nat.reduceMul, Nat.reduceSub, Nat.reduceLT, Nat.reduceLeDiff, Nat.le_refl, Nat.zero_le, Nat.zero_add, Nat.add_zero, Nat.mul_one, splice_zero, Int.toNat_natCast, Int.natCast_nonneg, Int.reduceLE, Int.reduceLT, Int.reduceToNat, Int.reduceEq, Int.cast_ofNat_Int, ne_eq, not_true_eq_false, not_false_eq_true, imp_self, implies_true, true_implies, false_implies, and_self, List.length_map, List.length_drop]
    rw [pw2 hi2 (w := (D i).way.take k ++ (D i).way.drop (k + 1))]
    have h7 := h3.ways hi2 (way := (D i).way.take k ++ (D i).way.drop (k + 1)) (by rw [List.map_append, List.map_take, List.map_drop]; exact hL4) (fun x o hx _ => hk4' x o hx)
    have hI7 := hI.lose hi2 k lv2
    rw [updn_self, updn_self, updn_self] at hI7
    refine ⟨_, ?_, ?_, h7, hI7⟩
    · rw [set_ne hpb.symm]; exact (hk4' _ _ h5).1
    · rw [set_ne hpe.symm]; exact (hk4' _ _ h4).1
  rintro fr σ5 ⟨D', f0, f3, f5, f8, h5, h4, h, hI⟩
  simp only [go_sem, r_block, f0, f3, f5, f8, h5, reduceIte, Nat.reduceEqDiff, Nat.reduceAdd, Nat.reduceMul, Nat.reduceSub, Nat.reduceLT, Nat.reduceLeDiff, Nat.le_refl, Nat.zero_le, Nat.zero_add, Nat.add_zero, Nat.mul_one, splice_zero, Int.toNat_natCast, Int.natCast_nonneg, Int.reduceLE, Int.reduceLT, Int.reduceToNat, Int.reduceEq, Int.cast_ofNat_Int, ne_eq, not_true_eq_false, not_false_eq_true, imp_self, implies_true, true_implies, false_implies, and_self, List.length_map, List.length_drop]
  refine aIf_by (fun hq4 => ?_) (fun hq4 => ?_)
  · simp only [go_sem, r_block, decide_eq_true hq4, reduceIte, Nat.reduceEqDiff, Nat.reduceAdd, Nat.reduceMul, Nat.reduceSub, Nat.reduceLT, Nat.reduceLeDiff, Nat.le_refl, Nat.zero_le, Nat.zero_add, Nat.add_zero, Nat.mul_one, splice_zero, Int.toNat_natCast, Int.natCast_nonneg, Int.reduceLE, Int.reduceLT, Int.reduceToNat, Int.reduceEq, Int.cast_ofNat_Int, ne_eq, not_true_eq_false, not_false_eq_true, imp_self, implies_true, true_implies, false_implies, and_self, List.length_map, List.length_drop]
    exact aRet_as (r := boo true) rfl ⟨rfl, D', g, u, c, h, hI.more (by omega) (by omega), hu'⟩
  · simp only [go_sem, r_block, f0, f3, f5, f8, h4, f.len, f.take, decide_eq_false hq4, reduceIte, Nat.reduceEqDiff, Nat.reduceAdd, Nat.reduceMul, Nat.reduceSub, Nat.reduceLT, Nat.reduceLeDiff, Nat.le_refl, Nat.zero_le, Nat.zero_add, Nat.add_zero, Nat.mul_one, splice_zero, Int.toNat_natCast, Int.natCast_nonneg, Int.reduceLE, Int.reduceLT, Int.reduceToNat, Int.reduceEq, Int.cast_ofNat_Int, ne_eq, not_true_eq_false, not_false_eq_true, imp_self, implies_true, true_implies, false_implies, and_self, List.length_map, List.length_drop]
    have hargs : f.it.args.length ≤ 4398046510976 := by
      obtain ⟨⟨_, hq⟩ | ⟨_, _, hq, _⟩, _⟩ := hok <;> rw [hq] <;> exact Nat.zero_le _
    have hseq : f.seq ≤ 9223372036854775807 := by
      have := hI.ul (1 - i) (by omega)
      obtain ⟨⟨hq, _⟩ | ⟨_, hq, _, _⟩, _⟩ := hok <;> omega
    obtain ⟨g', c', items, s', r1, r2, r3, r4, r5, r6⟩ := hI.hear (by omega) hi2 hok (.v (.slice none 0 0))
    have hto : (D' i).told.length + items.length = c' := by
      have := r2.told i hi2
      rw [upd_same, updn_same] at this
      have := congrArg List.length this
      rw [many_len] at this
      simpa using this
    have hcb := r2.cu i hi2
    rw [updn_same, updn_ne (by omega)] at hcb
    have hub := hI.ul (1 - i) (by omega)
    refine (phear_at h hi2 (hI.fit hi2) f hseq hargs (by rw [r1]; simp only; omega)).mono ?_
    rintro _ σ6 ⟨rfl, tl, h6⟩
    rw [r1] at h6 ⊢
    simp only [go_sem, r_block, reduceIte, Nat.reduceEqDiff, Nat.reduceAdd, Nat.reduceMul, Nat.reduceSub, Nat.reduceLT, Nat.reduceLeDiff, Nat.le_refl, Nat.zero_le, Nat.zero_add, Nat.add_zero, Nat.mul_one, splice_zero, Int.toNat_natCast, Int.natCast_nonneg, Int.reduceLE, Int.reduceLT, Int.reduceToNat, Int.reduceEq, Int.cast_ofNat_Int, ne_eq, not_true_eq_false, not_false_eq_true, imp_self, implies_true, true_implies, false_implies, and_self, List.length_map, List.length_drop]
    obtain ⟨g'', c'', items', s'', t1, t2, _⟩ := hI.hear (by omega) hi2 hok tl
    rw [r1] at t1
    injection t1 with t1 t1'
    injection t1 with t1 _
    subst t1 t1'
    refine aRet_as (r := boo true) rfl ⟨rfl, _, _, _, _, h6, t2.more (by omega) (by omega), fun j hj => ?_⟩
    rw [updn_self]
    exact hu' j hj

theorem good_begin {e0 m0 e1 m1 : Nat} : PI (fun i => if i = 0 then ⟨e0, m0, ls0, [], .v (.slice none 0 0), 0, [], .v (.slice none 0 0)⟩ else ⟨e1, m1, ls0, [], .v (.slice none 0 0), 0, [], .v (.slice none 0 0)⟩) (fun _ => 0) (fun _ => 0) (fun _ => 0) 0 := by
  refine ⟨fun i hi => ?_, fun i hi => ?_, fun i hi => ?_, fun i hi => ?_, fun i hi => ?_, fun i hi => ?_, fun i hi => ?_, fun i hi => ?_, fun i hi => ?_, fun i hi => ?_, fun i hi => ?_, fun i hi => ?_, fun i hi => ?_, by decide⟩ <;> rcases two hi with rfl | rfl <;> first | rfl | decide | (intro q hq; cases hq) | exact Nat.zero_le _

/-- Moves, as they are handed in. -/
def mvC (m : Int × Int × Int) : List AV := [int m.1, int m.2.1, int m.2.2]
theorem mvs_of {n : Nat} : ∀ (es : List (List AV)), (∀ x ∈ es, Ty Try.prog (n + 2) 50 x) → ∃ l : List (Int × Int × Int), es = l.map mvC
  | [], _ => ⟨[], rfl⟩
  | x :: es, h => by
    obtain ⟨l, rfl⟩ := mvs_of es fun y hy => h y (by simp [hy])
    have hx := ty_st Try.underlying50 (h x (by simp))
    obtain ⟨x1, y1, rfl, h1, x2, y2, rfl, h2, x3, y3, rfl, h3, rfl⟩ := hx
    obtain ⟨a, rfl, _⟩ := ty_int Try.underlying3 h1
    obtain ⟨b, rfl, _⟩ := ty_int Try.underlying3 h2
    obtain ⟨c, rfl, _⟩ := ty_int Try.underlying3 h3
    exact ⟨(a, b, c) :: l, rfl⟩

theorem orders_at (l : List (Int × Int × Int)) : AT Try.prog 5 [.sl 3 (l.map mvC)] (fun _ => none) fun r _ => r = boo true := by
  refine AT.of_body Try.func5 rfl (by decide) (by kernel_rfl) (by kernel_rfl) (Nat.le_of_ble_eq_true rfl) ?_
  simp only [go_sem, reduceIte, Nat.reduceEqDiff, Nat.reduceAdd, Nat.reduceMul, Nat.reduceSub, Nat.reduceLT, Nat.reduceLeDiff, Nat.le_refl, Nat.zero_le, Nat.zero_add, Nat.add_zero, Nat.mul_one, splice_zero, Int.toNat_natCast, Int.natCast_nonneg, Int.reduceLE, Int.reduceLT, Int.reduceToNat, Int.reduceEq, Int.cast_ofNat_Int, ne_eq, not_true_eq_false, not_false_eq_true, imp_self, implies_true, true_implies, false_implies, and_self, List.length_map, List.length_drop]
  refine begin_at.mono ?_
  rintro _ σ ⟨p, e0, m0, e1, m1, rfl, h0⟩
  have hG : Good σ p 0 0 := ⟨_, _, _, _, h0, good_begin, fun i _ => Nat.le_refl _⟩
  clear h0
  simp only [go_sem, reduceIte, Nat.reduceEqDiff, Nat.reduceAdd, Nat.reduceMul, Nat.reduceSub, Nat.reduceLT, Nat.reduceLeDiff, Nat.le_refl, Nat.zero_le, Nat.zero_add, Nat.add_zero, Nat.mul_one, splice_zero, Int.toNat_natCast, Int.natCast_nonneg, Int.reduceLE, Int.reduceLT, Int.reduceToNat, Int.reduceEq, Int.cast_ofNat_Int, ne_eq, not_true_eq_false, not_false_eq_true, imp_self, implies_true, true_implies, false_implies, and_self, List.length_map, List.length_drop]
  rw [r_block]
  simp only [go_sem, reduceIte, Nat.reduceEqDiff, Nat.reduceAdd, Nat.reduceMul, Nat.reduceSub, Nat.reduceLT, Nat.reduceLeDiff, Nat.le_refl, Nat.zero_le, Nat.zero_add, Nat.add_zero, Nat.mul_one, splice_zero, Int.toNat_natCast, Int.natCast_nonneg, Int.reduceLE, Int.reduceLT, Int.reduceToNat, Int.reduceEq, Int.cast_ofNat_Int, ne_eq, not_true_eq_false, not_false_eq_true, imp_self, implies_true, true_implies, false_implies, and_self, List.length_map, List.length_drop]
  refine ⟨fun k fr σ' => ∃ i : Nat, k = 300 - i ∧ i ≤ 300 ∧ fr 0 = .sl 3 (l.map mvC) ∧ fr 3 = ptr p ∧ fr 4 = int i ∧ Good σ' p (2 * i) i, ⟨300, 0, rfl, by omega, rfl, rfl, rfl, hG⟩, ?_⟩
  clear hG
  rintro k fr σ ⟨i, rfl, hi, f0, f3, f4, hG⟩
  have fin : ∀ (K : Fr → St → Prop), True := fun _ => trivial
  simp only [go_sem, f0, f3, f4, reduceIte, Nat.reduceEqDiff, Nat.reduceAdd, Nat.reduceMul, Nat.reduceSub, Nat.reduceLT, Nat.reduceLeDiff, Nat.le_refl, Nat.zero_le, Nat.zero_add, Nat.add_zero, Nat.mul_one, splice_zero, Int.toNat_natCast, Int.natCast_nonneg, Int.reduceLE, Int.reduceLT, Int.reduceToNat, Int.reduceEq, Int.cast_ofNat_Int, ne_eq, not_true_eq_false, not_false_eq_true, imp_self, implies_true, true_implies, false_implies, and_self, List.length_map, List.length_drop]
  refine aIf_by (fun hlt => ?_) (fun hlt => ?_)
  · simp only [go_sem, r_block, f0, f3, f4, decide_eq_true hlt, reduceIte, Nat.reduceEqDiff, Nat.reduceAdd, Nat.reduceMul, Nat.reduceSub, Nat.reduceLT, Nat.reduceLeDiff, Nat.le_refl, Nat.zero_le, Nat.zero_add, Nat.add_zero, Nat.mul_one, splice_zero, Int.toNat_natCast, Int.natCast_nonneg, Int.reduceLE, Int.reduceLT, Int.reduceToNat, Int.reduceEq, Int.cast_ofNat_Int, ne_eq, not_true_eq_false, not_false_eq_true, imp_self, implies_true, true_implies, false_implies, and_self, List.length_map, List.length_drop]
    refine aIf_by (fun hlt2 => ?_) (fun hlt2 => ?_)
    · obtain ⟨⟨a, b, c⟩, hm⟩ : ∃ m, m = l[i]'(by omega) := ⟨_, rfl⟩
      have hel : (l.map mvC).getD i [] = [int a, int b, int c] := by
        rw [List.getD_eq_getElem?_getD, List.getElem?_map, List.getElem?_eq_getElem (by omega), ← hm]
        rfl
      simp only [go_sem, r_block, f0, f3, f4, hel, hlt, reduceIte, Nat.reduceEqDiff, Nat.reduceAdd, Nat.reduceMul, Nat.reduceSub, Nat.reduceLT, Nat.reduceLeDiff, Nat.le_refl, Nat.zero_le, Nat.zero_add, Nat.add_zero, Nat.mul_one, splice_zero, Int.toNat_natCast, Int.natCast_nonneg, Int.reduceLE, Int.reduceLT, Int.reduceToNat, Int.reduceEq, Int.cast_ofNat_Int, ne_eq, not_true_eq_false, not_false_eq_true, imp_self, implies_true, true_implies, false_implies, and_self, List.length_map, List.length_drop]
      refine (move_at hG (by omega) (by omega) a b c).mono ?_
      rintro _ σ1 ⟨rfl, hG1⟩
      simp only [go_sem, r_block, f0, f3, f4, reduceIte, Nat.reduceEqDiff, Nat.reduceAdd, Nat.reduceMul, Nat.reduceSub, Nat.reduceLT, Nat.reduceLeDiff, Nat.le_refl, Nat.zero_le, Nat.zero_add, Nat.add_zero, Nat.mul_one, splice_zero, Int.toNat_natCast, Int.natCast_nonneg, Int.reduceLE, Int.reduceLT, Int.reduceToNat, Int.reduceEq, Int.cast_ofNat_Int, ne_eq, not_true_eq_false, not_false_eq_true, imp_self, implies_true, true_implies, false_implies, and_self, List.length_map, List.length_drop]
      obtain ⟨D, g, u, c, h1, h2, h3⟩ := hG1
      refine (right_at h1 h2).mono ?_
      rintro _ σ2 ⟨rfl, rfl⟩
      simp only [go_sem, r_block, f0, f3, f4, reduceIte, Nat.reduceEqDiff, Nat.reduceAdd, Nat.reduceMul, Nat.reduceSub, Nat.reduceLT, Nat.reduceLeDiff, Nat.le_refl, Nat.zero_le, Nat.zero_add, Nat.add_zero, Nat.mul_one, splice_zero, Int.toNat_natCast, Int.natCast_nonneg, Int.reduceLE, Int.reduceLT, Int.reduceToNat, Int.reduceEq, Int.cast_ofNat_Int, ne_eq, not_true_eq_false, not_false_eq_true, imp_self, implies_true, true_implies, false_implies, and_self, List.length_map, List.length_drop]
      rw [next64 (by omega)]
      exact ⟨300 - (i + 1), by omega, i + 1, rfl, by omega, rfl, D, g, u, c, h1, h2, h3⟩
    · simp only [go_sem, reduceIte, Nat.reduceEqDiff, Nat.reduceAdd, Nat.reduceMul, Nat.reduceSub, Nat.reduceLT, Nat.reduceLeDiff, Nat.le_refl, Nat.zero_le, Nat.zero_add, Nat.add_zero, Nat.mul_one, splice_zero, Int.toNat_natCast, Int.natCast_nonneg, Int.reduceLE, Int.reduceLT, Int.reduceToNat, Int.reduceEq, Int.cast_ofNat_Int, ne_eq, not_true_eq_false, not_false_eq_true, imp_self, implies_true, true_implies, false_implies, and_self, List.length_map, List.length_drop]
      refine live_at.mono ?_
      rintro _ σ1 ⟨rfl, rfl⟩
      simp only [go_sem, reduceIte, Nat.reduceEqDiff, Nat.reduceAdd, Nat.reduceMul, Nat.reduceSub, Nat.reduceLT, Nat.reduceLeDiff, Nat.le_refl, Nat.zero_le, Nat.zero_add, Nat.add_zero, Nat.mul_one, splice_zero, Int.toNat_natCast, Int.natCast_nonneg, Int.reduceLE, Int.reduceLT, Int.reduceToNat, Int.reduceEq, Int.cast_ofNat_Int, ne_eq, not_true_eq_false, not_false_eq_true, imp_self, implies_true, true_implies, false_implies, and_self, List.length_map, List.length_drop]
      exact aRet_as (r := boo true) rfl rfl
  · simp only [go_sem, decide_eq_false hlt, reduceIte, Nat.reduceEqDiff, Nat.reduceAdd, Nat.reduceMul, Nat.reduceSub, Nat.reduceLT, Nat.reduceLeDiff, Nat.le_refl, Nat.zero_le, Nat.zero_add, Nat.add_zero, Nat.mul_one, splice_zero, Int.toNat_natCast, Int.natCast_nonneg, Int.reduceLE, Int.reduceLT, Int.reduceToNat, Int.reduceEq, Int.cast_ofNat_Int, ne_eq, not_true_eq_false, not_false_eq_true, imp_self, implies_true, true_implies, false_implies, and_self, List.length_map, List.length_drop]
    refine live_at.mono ?_
    rintro _ σ1 ⟨rfl, rfl⟩
    simp only [go_sem, reduceIte, Nat.reduceEqDiff, Nat.reduceAdd, Nat.reduceMul, Nat.reduceSub, Nat.reduceLT, Nat.reduceLeDiff, Nat.le_refl, Nat.zero_le, Nat.zero_add, Nat.add_zero, Nat.mul_one, splice_zero, Int.toNat_natCast, Int.natCast_nonneg, Int.reduceLE, Int.reduceLT, Int.reduceToNat, Int.reduceEq, Int.cast_ofNat_Int, ne_eq, not_true_eq_false, not_false_eq_true, imp_self, implies_true, true_implies, false_implies, and_self, List.length_map, List.length_drop]
    exact aRet_as (r := boo true) rfl rfl
end
end Go.Proofs.Ytpdbmnogfanpmaa
