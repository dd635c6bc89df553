/-
  The laws of a plan's order: their walks.
  Conditions: none.
-/
import Derived.Test.YthdfpankebjleaaCh
import Derived.Test.YthdfpankebjleaaPc
set_option linter.unusedVariables false
set_option linter.unusedSimpArgs false
set_option maxRecDepth 100000
namespace Go.Proofs.Ythdfpankebjleaa
open Go Go.Av

section
variable {σ : St}
theorem Rl.Sm.ok {r : Rl} (h : r.Sm 300) : r.Ok := ⟨by have := h.2.1; omega, fun l hl => by have := h.2.2 l hl; omega⟩
theorem wt_one (r : Rl) (hw : r.Wf) : AT Try.prog 8 [.fsl 11 [r.cs], int 300] σ fun v σ' => (∃ w : Int, v = int w ∧ (w ≤ 300 → r.Ok)) ∧ σ' = σ := by
  refine AT.weak ?_ fsl_weak
  refine (weight_at [r] 300 (by simp) (fun x hx => by simp at hx; subst hx; exact hw) (by omega) (by omega)).mono ?_
  rintro _ _ ⟨⟨w, rfl, h⟩, rfl⟩
  exact ⟨⟨w, rfl, fun e => (h e r (by simp)).ok⟩, rfl⟩
theorem planOrders_at (r : Rl) (hw : r.Wf) (first : Int) : AT Try.prog 3 [.agg r.cs, int first] σ fun v σ' => v = boo true := by
  refine AT.of_body Try.func3 rfl (by decide) (by kernel_rfl) (by kernel_rfl) (Nat.le_of_ble_eq_true rfl) ?_
  simp only [go_sem, reduceIte, Nat.reduceEqDiff, Nat.reduceAdd, Nat.reduceMul, Nat.reduceSub, Nat.reduceLT, Nat.reduceLeDiff, Nat.le_refl, Nat.zero_le, Nat.zero_add, Nat.add_zero, Nat.mul_one, splice_zero, Int.toNat_natCast, Int.natCast_nonneg, Int.reduceLE, Int.reduceLT, Int.reduceToNat, Int.reduceEq, Int.cast_ofNat_Int, ne_eq, not_true_eq_false, not_false_eq_true, imp_self, implies_true, true_implies, false_implies, and_self, List.length_map, List.length_drop]
  refine aNew_intro fun b hb hbn => ?_
  simp only [go_sem, r_block, set_same, reduceIte, Nat.reduceEqDiff, Nat.reduceAdd, Nat.reduceMul, Nat.reduceSub, Nat.reduceLT, Nat.reduceLeDiff, Nat.le_refl, Nat.zero_le, Nat.zero_add, Nat.add_zero, Nat.mul_one, splice_zero, Int.toNat_natCast, Int.natCast_nonneg, Int.reduceLE, Int.reduceLT, Int.reduceToNat, Int.reduceEq, Int.cast_ofNat_Int, ne_eq, not_true_eq_false, not_false_eq_true, imp_self, implies_true, true_implies, false_implies, and_self, List.length_map, List.length_drop]
  refine (wt_one r hw).mono ?_
  rintro _ σ1 ⟨⟨w, rfl, h⟩, rfl⟩
  simp only [go_sem, r_block, reduceIte, Nat.reduceEqDiff, Nat.reduceAdd, Nat.reduceMul, Nat.reduceSub, Nat.reduceLT, Nat.reduceLeDiff, Nat.le_refl, Nat.zero_le, Nat.zero_add, Nat.add_zero, Nat.mul_one, splice_zero, Int.toNat_natCast, Int.natCast_nonneg, Int.reduceLE, Int.reduceLT, Int.reduceToNat, Int.reduceEq, Int.cast_ofNat_Int, ne_eq, not_true_eq_false, not_false_eq_true, imp_self, implies_true, true_implies, false_implies, and_self, List.length_map, List.length_drop]
  refine aIf_by (fun g => ?_) (fun g => ?_)
  · simp only [go_sem, r_block, reduceIte, Nat.reduceEqDiff, Nat.reduceAdd, Nat.reduceMul, Nat.reduceSub, Nat.reduceLT, Nat.reduceLeDiff, Nat.le_refl, Nat.zero_le, Nat.zero_add, Nat.add_zero, Nat.mul_one, splice_zero, Int.toNat_natCast, Int.natCast_nonneg, Int.reduceLE, Int.reduceLT, Int.reduceToNat, Int.reduceEq, Int.cast_ofNat_Int, ne_eq, not_true_eq_false, not_false_eq_true, imp_self, implies_true, true_implies, false_implies, and_self, List.length_map, List.length_drop]
    refine live_at.mono ?_
    rintro _ σ2 ⟨rfl, rfl⟩
    simp only [go_sem, r_block, reduceIte, Nat.reduceEqDiff, Nat.reduceAdd, Nat.reduceMul, Nat.reduceSub, Nat.reduceLT, Nat.reduceLeDiff, Nat.le_refl, Nat.zero_le, Nat.zero_add, Nat.add_zero, Nat.mul_one, splice_zero, Int.toNat_natCast, Int.natCast_nonneg, Int.reduceLE, Int.reduceLT, Int.reduceToNat, Int.reduceEq, Int.cast_ofNat_Int, ne_eq, not_true_eq_false, not_false_eq_true, imp_self, implies_true, true_implies, false_implies, and_self, List.length_map, List.length_drop]
    exact aRet_as (r := boo true) rfl rfl
  · have hr := h (by omega)
    simp only [go_sem, r_block, reduceIte, Nat.reduceEqDiff, Nat.reduceAdd, Nat.reduceMul, Nat.reduceSub, Nat.reduceLT, Nat.reduceLeDiff, Nat.le_refl, Nat.zero_le, Nat.zero_add, Nat.add_zero, Nat.mul_one, splice_zero, Int.toNat_natCast, Int.natCast_nonneg, Int.reduceLE, Int.reduceLT, Int.reduceToNat, Int.reduceEq, Int.cast_ofNat_Int, ne_eq, not_true_eq_false, not_false_eq_true, imp_self, implies_true, true_implies, false_implies, and_self, List.length_map, List.length_drop]
    refine aDraw_plan [.rd 0 true, .rd 1 false, .rd 3 true, .rd 4 false, .ef 2 [3], .ef 5 [], .ef 6 [], .rd 7 false, .ef 8 [], .rd 9 false, .rd 10 false] (by kernel_rfl) (by kernel_rfl) (by kernel_rfl) ?_
    simp only [go_sem, r_block, set_same, reduceIte, Nat.reduceEqDiff, Nat.reduceAdd, Nat.reduceMul, Nat.reduceSub, Nat.reduceLT, Nat.reduceLeDiff, Nat.le_refl, Nat.zero_le, Nat.zero_add, Nat.add_zero, Nat.mul_one, splice_zero, Int.toNat_natCast, Int.natCast_nonneg, Int.reduceLE, Int.reduceLT, Int.reduceToNat, Int.reduceEq, Int.cast_ofNat_Int, ne_eq, not_true_eq_false, not_false_eq_true, imp_self, implies_true, true_implies, false_implies, and_self, List.length_map, List.length_drop]
    refine (order_at r first hr).mono ?_
    rintro _ σ1 ⟨rfl, rfl⟩
    simp only [go_sem, r_block, set_same, reduceIte, Nat.reduceEqDiff, Nat.reduceAdd, Nat.reduceMul, Nat.reduceSub, Nat.reduceLT, Nat.reduceLeDiff, Nat.le_refl, Nat.zero_le, Nat.zero_add, Nat.add_zero, Nat.mul_one, splice_zero, Int.toNat_natCast, Int.natCast_nonneg, Int.reduceLE, Int.reduceLT, Int.reduceToNat, Int.reduceEq, Int.cast_ofNat_Int, ne_eq, not_true_eq_false, not_false_eq_true, imp_self, implies_true, true_implies, false_implies, and_self, List.length_map, List.length_drop]
    refine (refOrder_at r first hr).mono ?_
    rintro _ σ2 ⟨rfl, rfl⟩
    simp only [go_sem, r_block, reduceIte, Nat.reduceEqDiff, Nat.reduceAdd, Nat.reduceMul, Nat.reduceSub, Nat.reduceLT, Nat.reduceLeDiff, Nat.le_refl, Nat.zero_le, Nat.zero_add, Nat.add_zero, Nat.mul_one, splice_zero, Int.toNat_natCast, Int.natCast_nonneg, Int.reduceLE, Int.reduceLT, Int.reduceToNat, Int.reduceEq, Int.cast_ofNat_Int, ne_eq, not_true_eq_false, not_false_eq_true, imp_self, implies_true, true_implies, false_implies, and_self, List.length_map, List.length_drop]
    have hlen := (ordR_ok r first).2.1
    refine (ints_at _ (by rw [nats_len]; have := hr.1; omega)).mono ?_
    rintro _ σ1 ⟨rfl, rfl⟩
    simp only [go_sem, r_block, reduceIte, Nat.reduceEqDiff, Nat.reduceAdd, Nat.reduceMul, Nat.reduceSub, Nat.reduceLT, Nat.reduceLeDiff, Nat.le_refl, Nat.zero_le, Nat.zero_add, Nat.add_zero, Nat.mul_one, splice_zero, Int.toNat_natCast, Int.natCast_nonneg, Int.reduceLE, Int.reduceLT, Int.reduceToNat, Int.reduceEq, Int.cast_ofNat_Int, ne_eq, not_true_eq_false, not_false_eq_true, imp_self, implies_true, true_implies, false_implies, and_self, List.length_map, List.length_drop]
    refine live_at.mono ?_
    rintro _ σ2 ⟨rfl, rfl⟩
    simp only [go_sem, r_block, reduceIte, Nat.reduceEqDiff, Nat.reduceAdd, Nat.reduceMul, Nat.reduceSub, Nat.reduceLT, Nat.reduceLeDiff, Nat.le_refl, Nat.zero_le, Nat.zero_add, Nat.add_zero, Nat.mul_one, splice_zero, Int.toNat_natCast, Int.natCast_nonneg, Int.reduceLE, Int.reduceLT, Int.reduceToNat, Int.reduceEq, Int.cast_ofNat_Int, ne_eq, not_true_eq_false, not_false_eq_true, imp_self, implies_true, true_implies, false_implies, and_self, List.length_map, List.length_drop]
    exact aRet_as (r := boo true) rfl rfl
theorem nats_get {l : List Nat} {i : Nat} (h : i < l.length) : (inC (nats l)).getD i [] = [int (l[i] : Nat)] := by
  rw [inC_get (by rw [nats_len]; exact h)]
  simp [nats]
/-- Which numbers were seen among the first ones. -/
def seenR (l : List Nat) (i : Nat) : List (List AV) := (List.range l.length).map fun j => [boo (decide (j ∈ l.take i))]
theorem seenR_0 (l : List Nat) : List.replicate l.length [boo false] = seenR l 0 := by
  unfold seenR
  symm
  exact List.eq_replicate_iff.2 ⟨by simp, fun x hx => by simp at hx; exact hx.2.symm⟩
theorem seenR_len (l : List Nat) (i : Nat) : (seenR l i).length = l.length := by simp [seenR]
theorem seenR_get {l : List Nat} {i j : Nat} (h : j < l.length) : (seenR l i).getD j [] = [boo (decide (j ∈ l.take i))] := by
  simp [seenR, List.getD_eq_getElem?_getD, h]
theorem seenR_set {l : List Nat} {i : Nat} (hi : i < l.length) (hl : l[i] < l.length) : (seenR l i).set l[i] [boo true] = seenR l (i + 1) := by
  refine List.ext_getElem (by rw [List.length_set, seenR_len, seenR_len]) fun j h1 h2 => ?_
  have e0 : ∀ k (h : j < (seenR l k).length), (seenR l k)[j]'h = [boo (decide (j ∈ l.take k))] := fun k h => by
    simp [seenR]
  rw [List.getElem_set, e0, e0, List.take_add_one, List.getElem?_eq_getElem hi]
  by_cases e : l[i] = j
  · rw [if_pos e, decide_eq_true]
    simp [e]
  · rw [if_neg e]
    have : (j ∈ l.take i ++ (some l[i]).toList) ↔ j ∈ l.take i := by
      simp only [Option.toList, List.mem_append, List.mem_singleton]
      exact ⟨fun h => h.resolve_right fun h => e h.symm, .inl⟩
    simp only [this]
theorem planPerms_at (r : Rl) (hw : r.Wf) (first : Int) : AT Try.prog 4 [.agg r.cs, int first] σ fun v σ' => v = boo true := by
  refine AT.of_body Try.func4 rfl (by decide) (by kernel_rfl) (by kernel_rfl) (Nat.le_of_ble_eq_true rfl) ?_
  simp only [go_sem, reduceIte, Nat.reduceEqDiff, Nat.reduceAdd, Nat.reduceMul, Nat.reduceSub, Nat.reduceLT, Nat.reduceLeDiff, Nat.le_refl, Nat.zero_le, Nat.zero_add, Nat.add_zero, Nat.mul_one, splice_zero, Int.toNat_natCast, Int.natCast_nonneg, Int.reduceLE, Int.reduceLT, Int.reduceToNat, Int.reduceEq, Int.cast_ofNat_Int, ne_eq, not_true_eq_false, not_false_eq_true, imp_self, implies_true, true_implies, false_implies, and_self, List.length_map, List.length_drop]
  refine aNew_intro fun b hb hbn => ?_
  simp only [go_sem, r_block, set_same, reduceIte, Nat.reduceEqDiff, Nat.reduceAdd, Nat.reduceMul, Nat.reduceSub, Nat.reduceLT, Nat.reduceLeDiff, Nat.le_refl, Nat.zero_le, Nat.zero_add, Nat.add_zero, Nat.mul_one, splice_zero, Int.toNat_natCast, Int.natCast_nonneg, Int.reduceLE, Int.reduceLT, Int.reduceToNat, Int.reduceEq, Int.cast_ofNat_Int, ne_eq, not_true_eq_false, not_false_eq_true, imp_self, implies_true, true_implies, false_implies, and_self, List.length_map, List.length_drop]
  refine (wt_one r hw).mono ?_
  rintro _ σ1 ⟨⟨w, rfl, h⟩, rfl⟩
  simp only [go_sem, r_block, reduceIte, Nat.reduceEqDiff, Nat.reduceAdd, Nat.reduceMul, Nat.reduceSub, Nat.reduceLT, Nat.reduceLeDiff, Nat.le_refl, Nat.zero_le, Nat.zero_add, Nat.add_zero, Nat.mul_one, splice_zero, Int.toNat_natCast, Int.natCast_nonneg, Int.reduceLE, Int.reduceLT, Int.reduceToNat, Int.reduceEq, Int.cast_ofNat_Int, ne_eq, not_true_eq_false, not_false_eq_true, imp_self, implies_true, true_implies, false_implies, and_self, List.length_map, List.length_drop]
  refine aIf_by (fun g => ?_) (fun g => ?_)
  · simp only [go_sem, r_block, reduceIte, Nat.reduceEqDiff, Nat.reduceAdd, Nat.reduceMul, Nat.reduceSub, Nat.reduceLT, Nat.reduceLeDiff, Nat.le_refl, Nat.zero_le, Nat.zero_add, Nat.add_zero, Nat.mul_one, splice_zero, Int.toNat_natCast, Int.natCast_nonneg, Int.reduceLE, Int.reduceLT, Int.reduceToNat, Int.reduceEq, Int.cast_ofNat_Int, ne_eq, not_true_eq_false, not_false_eq_true, imp_self, implies_true, true_implies, false_implies, and_self, List.length_map, List.length_drop]
    refine live_at.mono ?_
    rintro _ σ2 ⟨rfl, rfl⟩
    simp only [go_sem, r_block, reduceIte, Nat.reduceEqDiff, Nat.reduceAdd, Nat.reduceMul, Nat.reduceSub, Nat.reduceLT, Nat.reduceLeDiff, Nat.le_refl, Nat.zero_le, Nat.zero_add, Nat.add_zero, Nat.mul_one, splice_zero, Int.toNat_natCast, Int.natCast_nonneg, Int.reduceLE, Int.reduceLT, Int.reduceToNat, Int.reduceEq, Int.cast_ofNat_Int, ne_eq, not_true_eq_false, not_false_eq_true, imp_self, implies_true, true_implies, false_implies, and_self, List.length_map, List.length_drop]
    exact aRet_as (r := boo true) rfl rfl
  · have hr := h (by omega)
    simp only [go_sem, r_block, set_same, reduceIte, Nat.reduceEqDiff, Nat.reduceAdd, Nat.reduceMul, Nat.reduceSub, Nat.reduceLT, Nat.reduceLeDiff, Nat.le_refl, Nat.zero_le, Nat.zero_add, Nat.add_zero, Nat.mul_one, splice_zero, Int.toNat_natCast, Int.natCast_nonneg, Int.reduceLE, Int.reduceLT, Int.reduceToNat, Int.reduceEq, Int.cast_ofNat_Int, ne_eq, not_true_eq_false, not_false_eq_true, imp_self, implies_true, true_implies, false_implies, and_self, List.length_map, List.length_drop]
    refine (order_at r first hr).mono ?_
    rintro _ σ1 ⟨rfl, rfl⟩
    obtain ⟨hp, hlen, h0⟩ := ordR_ok r first
    have hbl := hr.1
    generalize ordR r first = l at hp hlen h0
    have hnn : ((nats l).length : Int) = (r.bo.length : Int) := by rw [nats_len, hlen]
    have e1 : (!decide ((l.length : Int) = (r.bo.length : Int))) = false := by rw [decide_eq_true (by omega)]; rfl
    simp only [go_sem, set_same, e1, reduceIte, Nat.reduceEqDiff, Nat.reduceAdd, Nat.reduceMul, Nat.reduceSub, Nat.reduceLT, Nat.reduceLeDiff, Nat.le_refl, Nat.zero_le, Nat.zero_add, Nat.add_zero, Nat.mul_one, splice_zero, Int.toNat_natCast, Int.natCast_nonneg, Int.reduceLE, Int.reduceLT, Int.reduceToNat, Int.reduceEq, Int.cast_ofNat_Int, ne_eq, not_true_eq_false, not_false_eq_true, imp_self, implies_true, true_implies, false_implies, and_self, List.length_map, List.length_drop]
    apply meet_by (fun fr σ' => ∃ c, fr 5 = .sl 1 (inC (nats l)) ∧ fr 6 = .v (.slice (some ⟨c, 0, none⟩) l.length l.length) ∧ fr 7 = int 0 ∧ σ' c = some (.rows 1 (List.replicate l.length [boo false]) false l.length))
    case h1 =>
      intro key
      by_cases g0 : 0 ≤ first
      · by_cases g1 : first < l.length
        · have h0 := h0 ⟨g0, by omega⟩
          have hl0 : 0 < l.length := by omega
          have e2 := nats_get hl0
          have e3 : l[0] = first.toNat := by
            rw [List.getElem?_eq_getElem hl0] at h0
            exact Option.some.inj h0
          simp only [go_sem, decide_eq_true g0, decide_eq_true g1, e2, reduceIte, Nat.reduceEqDiff, Nat.reduceAdd, Nat.reduceMul, Nat.reduceSub, Nat.reduceLT, Nat.reduceLeDiff, Nat.le_refl, Nat.zero_le, Nat.zero_add, Nat.add_zero, Nat.mul_one, splice_zero, Int.toNat_natCast, Int.natCast_nonneg, Int.reduceLE, Int.reduceLT, Int.reduceToNat, Int.reduceEq, Int.cast_ofNat_Int, ne_eq, not_true_eq_false, not_false_eq_true, imp_self, implies_true, true_implies, false_implies, and_self, List.length_map, List.length_drop]
          refine ⟨by omega, aIf_by (fun _ => ?_) (fun h => absurd (show ((l[0] : Nat) : Int) = first by omega) h)⟩
          simp only [go_sem, reduceIte, Nat.reduceEqDiff, Nat.reduceAdd, Nat.reduceMul, Nat.reduceSub, Nat.reduceLT, Nat.reduceLeDiff, Nat.le_refl, Nat.zero_le, Nat.zero_add, Nat.add_zero, Nat.mul_one, splice_zero, Int.toNat_natCast, Int.natCast_nonneg, Int.reduceLE, Int.reduceLT, Int.reduceToNat, Int.reduceEq, Int.cast_ofNat_Int, ne_eq, not_true_eq_false, not_false_eq_true, imp_self, implies_true, true_implies, false_implies, and_self, List.length_map, List.length_drop]
          refine ⟨by omega, by omega, aMkRow_intro fun c hc hcn => ?_⟩
          simp only [go_sem, reduceIte, Nat.reduceEqDiff, Nat.reduceAdd, Nat.reduceMul, Nat.reduceSub, Nat.reduceLT, Nat.reduceLeDiff, Nat.le_refl, Nat.zero_le, Nat.zero_add, Nat.add_zero, Nat.mul_one, splice_zero, Int.toNat_natCast, Int.natCast_nonneg, Int.reduceLE, Int.reduceLT, Int.reduceToNat, Int.reduceEq, Int.cast_ofNat_Int, ne_eq, not_true_eq_false, not_false_eq_true, imp_self, implies_true, true_implies, false_implies, and_self, List.length_map, List.length_drop]
          refine key _ _ ?_
          exact ⟨c, rfl, rfl, rfl, set_same⟩
        · simp only [go_sem, decide_eq_true g0, decide_eq_false g1, reduceIte, Nat.reduceEqDiff, Nat.reduceAdd, Nat.reduceMul, Nat.reduceSub, Nat.reduceLT, Nat.reduceLeDiff, Nat.le_refl, Nat.zero_le, Nat.zero_add, Nat.add_zero, Nat.mul_one, splice_zero, Int.toNat_natCast, Int.natCast_nonneg, Int.reduceLE, Int.reduceLT, Int.reduceToNat, Int.reduceEq, Int.cast_ofNat_Int, ne_eq, not_true_eq_false, not_false_eq_true, imp_self, implies_true, true_implies, false_implies, and_self, List.length_map, List.length_drop]
          refine ⟨by omega, by omega, aMkRow_intro fun c hc hcn => ?_⟩
          simp only [go_sem, reduceIte, Nat.reduceEqDiff, Nat.reduceAdd, Nat.reduceMul, Nat.reduceSub, Nat.reduceLT, Nat.reduceLeDiff, Nat.le_refl, Nat.zero_le, Nat.zero_add, Nat.add_zero, Nat.mul_one, splice_zero, Int.toNat_natCast, Int.natCast_nonneg, Int.reduceLE, Int.reduceLT, Int.reduceToNat, Int.reduceEq, Int.cast_ofNat_Int, ne_eq, not_true_eq_false, not_false_eq_true, imp_self, implies_true, true_implies, false_implies, and_self, List.length_map, List.length_drop]
          refine key _ _ ?_
          exact ⟨c, rfl, rfl, rfl, set_same⟩
      · simp only [go_sem, decide_eq_false g0, reduceIte, Nat.reduceEqDiff, Nat.reduceAdd, Nat.reduceMul, Nat.reduceSub, Nat.reduceLT, Nat.reduceLeDiff, Nat.le_refl, Nat.zero_le, Nat.zero_add, Nat.add_zero, Nat.mul_one, splice_zero, Int.toNat_natCast, Int.natCast_nonneg, Int.reduceLE, Int.reduceLT, Int.reduceToNat, Int.reduceEq, Int.cast_ofNat_Int, ne_eq, not_true_eq_false, not_false_eq_true, imp_self, implies_true, true_implies, false_implies, and_self, List.length_map, List.length_drop]
        refine ⟨by omega, by omega, aMkRow_intro fun c hc hcn => ?_⟩
        simp only [go_sem, reduceIte, Nat.reduceEqDiff, Nat.reduceAdd, Nat.reduceMul, Nat.reduceSub, Nat.reduceLT, Nat.reduceLeDiff, Nat.le_refl, Nat.zero_le, Nat.zero_add, Nat.add_zero, Nat.mul_one, splice_zero, Int.toNat_natCast, Int.natCast_nonneg, Int.reduceLE, Int.reduceLT, Int.reduceToNat, Int.reduceEq, Int.cast_ofNat_Int, ne_eq, not_true_eq_false, not_false_eq_true, imp_self, implies_true, true_implies, false_implies, and_self, List.length_map, List.length_drop]
        refine key _ _ ?_
        exact ⟨c, rfl, rfl, rfl, set_same⟩
    case h2 =>
      rintro fr σ1 ⟨c, f5, f6, f7, hc⟩
      simp only [go_sem, r_block, reduceIte, Nat.reduceEqDiff, Nat.reduceAdd, Nat.reduceMul, Nat.reduceSub, Nat.reduceLT, Nat.reduceLeDiff, Nat.le_refl, Nat.zero_le, Nat.zero_add, Nat.add_zero, Nat.mul_one, splice_zero, Int.toNat_natCast, Int.natCast_nonneg, Int.reduceLE, Int.reduceLT, Int.reduceToNat, Int.reduceEq, Int.cast_ofNat_Int, ne_eq, not_true_eq_false, not_false_eq_true, imp_self, implies_true, true_implies, false_implies, and_self, List.length_map, List.length_drop]
      refine ⟨fun m fr σ' => ∃ i : Nat, m = l.length - i ∧ i ≤ l.length ∧ fr 5 = .sl 1 (inC (nats l)) ∧ fr 6 = .v (.slice (some ⟨c, 0, none⟩) l.length l.length) ∧ fr 7 = int i ∧ σ' c = some (.rows 1 (seenR l i) false l.length), ⟨_, 0, rfl, by omega, f5, f6, f7, by rw [hc, seenR_0]⟩, ?_⟩
      clear f5 f6 f7 hc σ1 fr
      rintro m fr σ1 ⟨i, rfl, hi, f5, f6, f7, hc⟩
      simp only [go_sem, f5, f6, f7, reduceIte, Nat.reduceEqDiff, Nat.reduceAdd, Nat.reduceMul, Nat.reduceSub, Nat.reduceLT, Nat.reduceLeDiff, Nat.le_refl, Nat.zero_le, Nat.zero_add, Nat.add_zero, Nat.mul_one, splice_zero, Int.toNat_natCast, Int.natCast_nonneg, Int.reduceLE, Int.reduceLT, Int.reduceToNat, Int.reduceEq, Int.cast_ofNat_Int, ne_eq, not_true_eq_false, not_false_eq_true, imp_self, implies_true, true_implies, false_implies, and_self, List.length_map, List.length_drop]
      refine aIf_by (fun hlt => ?_) (fun hlt => ?_)
      · have hil : i < l.length := by omega
        have e2 := nats_get hil
        have hli : l[i] < l.length := by have := hp.2 _ (List.getElem_mem hil); omega
        have n1 := decide_eq_false (show ¬ ((l[i] : Nat) : Int) < 0 by omega)
        have n2 := decide_eq_false (show ¬ (l.length : Int) ≤ ((l[i] : Nat) : Int) by omega)
        have n3 : decide (l[i] ∈ l.take i) = false := decide_eq_false fun hm => by
          obtain ⟨j, hj, e⟩ := List.getElem_of_mem hm
          rw [List.getElem_take] at e
          rw [List.length_take] at hj
          exact List.pairwise_iff_getElem.1 hp.1 j i (by omega) hil (by omega) e
        have n4 := seenR_len l i
        simp only [go_sem, r_block, f5, f6, f7, e2, hc, n1, n2, seenR_get hli, n3, n4, next64 (show i < 9223372036854775807 by omega), reduceIte, Nat.reduceEqDiff, Nat.reduceAdd, Nat.reduceMul, Nat.reduceSub, Nat.reduceLT, Nat.reduceLeDiff, Nat.le_refl, Nat.zero_le, Nat.zero_add, Nat.add_zero, Nat.mul_one, splice_zero, Int.toNat_natCast, Int.natCast_nonneg, Int.reduceLE, Int.reduceLT, Int.reduceToNat, Int.reduceEq, Int.cast_ofNat_Int, ne_eq, not_true_eq_false, not_false_eq_true, imp_self, implies_true, true_implies, false_implies, and_self, List.length_map, List.length_drop]
        refine ⟨by omega, by omega, by omega, by omega, hli, by omega, by omega, hli, l.length - (i + 1), by omega, i + 1, rfl, by omega, rfl, ?_⟩
        rw [seenR_set hil hli]
      · simp only [go_sem, r_block, f5, reduceIte, Nat.reduceEqDiff, Nat.reduceAdd, Nat.reduceMul, Nat.reduceSub, Nat.reduceLT, Nat.reduceLeDiff, Nat.le_refl, Nat.zero_le, Nat.zero_add, Nat.add_zero, Nat.mul_one, splice_zero, Int.toNat_natCast, Int.natCast_nonneg, Int.reduceLE, Int.reduceLT, Int.reduceToNat, Int.reduceEq, Int.cast_ofNat_Int, ne_eq, not_true_eq_false, not_false_eq_true, imp_self, implies_true, true_implies, false_implies, and_self, List.length_map, List.length_drop]
        refine live_at.mono ?_
        rintro _ σ2 ⟨rfl, rfl⟩
        simp only [go_sem, r_block, reduceIte, Nat.reduceEqDiff, Nat.reduceAdd, Nat.reduceMul, Nat.reduceSub, Nat.reduceLT, Nat.reduceLeDiff, Nat.le_refl, Nat.zero_le, Nat.zero_add, Nat.add_zero, Nat.mul_one, splice_zero, Int.toNat_natCast, Int.natCast_nonneg, Int.reduceLE, Int.reduceLT, Int.reduceToNat, Int.reduceEq, Int.cast_ofNat_Int, ne_eq, not_true_eq_false, not_false_eq_true, imp_self, implies_true, true_implies, false_implies, and_self, List.length_map, List.length_drop]
        exact aRet_as (r := boo true) rfl rfl
end
theorem tm_of {n : Nat} {cs : List AV} (h : Ty Try.prog (n + 3) 25 cs) : ∃ t : Tm, cs = t.cs := by
  have hx := ty_st Try.underlying25 h
  obtain ⟨x1, y1, rfl, h1, x2, y2, rfl, h2, rfl⟩ := hx
  obtain ⟨v, rfl, _⟩ := ty_str Try.underlying9 h1
  have hc := ty_st Try.underlying23 h2
  obtain ⟨x3, y3, rfl, h3, x4, y4, rfl, h4, x5, y5, rfl, h5, rfl⟩ := hc
  obtain ⟨b, rfl⟩ := ty_bool Try.underlying4 h3
  obtain ⟨k, rfl, _⟩ := ty_int Try.underlying3 h4
  obtain ⟨s, rfl, _⟩ := ty_str Try.underlying9 h5
  exact ⟨⟨v, b, k, s⟩, rfl⟩
theorem tms_of {n : Nat} : ∀ (es : List (List AV)), (∀ x ∈ es, Ty Try.prog (n + 3) 25 x) → ∃ l : List Tm, es = tmC l
  | [], _ => ⟨[], rfl⟩
  | x :: es, h => by
    obtain ⟨l, rfl⟩ := tms_of es fun y hy => h y (by simp [hy])
    obtain ⟨t, rfl⟩ := tm_of (h x (by simp))
    exact ⟨t :: l, rfl⟩
theorem li_of {n : Nat} {cs : List AV} (h : Ty Try.prog (n + 5) 71 cs) : ∃ l : Li, cs = l.cs ∧ l.Wf := by
  have hx := ty_st Try.underlying71 h
  obtain ⟨x1, y1, rfl, h1, x2, y2, rfl, h2, x3, y3, rfl, h3, x4, y4, rfl, h4, rfl⟩ := hx
  obtain ⟨a, rfl⟩ := tm_of h1
  obtain ⟨nm, rfl, hn⟩ := ty_str Try.underlying9 h2
  obtain ⟨es, rfl, hl, he⟩ := ty_sl Try.underlying26 h3
  obtain ⟨ts, rfl⟩ := tms_of es he
  obtain ⟨c, rfl⟩ := tm_of h4
  have e1 : Try.prog.cellsOf 25 = 4 := by kernel_rfl
  have e2 : Try.prog.bytesOf 25 = 48 := by kernel_rfl
  rw [e1]
  rw [e2, tmC_len] at hl
  exact ⟨⟨a, nm, ts, c⟩, rfl, by show ts.length ≤ _; omega, hn⟩
theorem lis_of {n : Nat} : ∀ (es : List (List AV)), (∀ x ∈ es, Ty Try.prog (n + 5) 71 x) → ∃ l : List Li, es = liC l ∧ ∀ x ∈ l, x.Wf
  | [], _ => ⟨[], rfl, fun x hx => by cases hx⟩
  | x :: es, h => by
    obtain ⟨l, rfl, hl⟩ := lis_of es fun y hy => h y (by simp [hy])
    obtain ⟨t, rfl, ht⟩ := li_of (h x (by simp))
    exact ⟨t :: l, rfl, fun y hy => by rcases List.mem_cons.1 hy with rfl | hy; exact ht; exact hl y hy⟩
theorem rl_of {n : Nat} {cs : List AV} (h : Ty Try.prog (n + 7) 29 cs) : ∃ r : Rl, cs = r.cs ∧ r.Wf := by
  have hx := ty_st Try.underlying29 h
  obtain ⟨x1, y1, rfl, h1, x2, y2, rfl, h2, x3, y3, rfl, h3, x4, y4, rfl, h4, x5, y5, rfl, h5, rfl⟩ := hx
  obtain ⟨a, rfl⟩ := tm_of h1
  obtain ⟨nm, rfl, hn⟩ := ty_str Try.underlying9 h2
  obtain ⟨es, rfl, hl, he⟩ := ty_sl Try.underlying26 h3
  obtain ⟨ts, rfl⟩ := tms_of es he
  obtain ⟨c, rfl⟩ := tm_of h4
  obtain ⟨es, rfl, hl2, he⟩ := ty_sl Try.underlying27 h5
  obtain ⟨ls, rfl, hls⟩ := lis_of es he
  have e1 : Try.prog.cellsOf 25 = 4 := by kernel_rfl
  have e2 : Try.prog.bytesOf 25 = 48 := by kernel_rfl
  have e3 : Try.prog.cellsOf 71 = 10 := by kernel_rfl
  have e4 : Try.prog.bytesOf 71 = 136 := by kernel_rfl
  rw [e1, e3]
  rw [e2, tmC_len] at hl
  rw [e4, liC_len] at hl2
  exact ⟨⟨a, nm, ts, c, ls⟩, rfl, by show ts.length ≤ _; omega, hn, by show ls.length ≤ _; omega, hls⟩
end Go.Proofs.Ythdfpankebjleaa
