/-
  The document's lists held together: a list is the same as itself; what is looked at is little enough, or not.
  Conditions: none.
-/
import Derived.Test.YtpdbmnogfanpmaaLo
set_option linter.unusedVariables false
set_option linter.unusedSimpArgs false
namespace Go.Proofs.Ytpdbmnogfanpmaa
open Go Go.Av

theorem lv30 : leaves Try.prog 9 30 = some (List.replicate 32 (.i .u8)) := by kernel_rfl
def u8v (l : List Int) : List Value := l.map fun n => .int .u8 n
theorem vals_u8 : ∀ l : List Int, vals (u8s l) = some (u8v l)
  | [] => rfl
  | n :: l => by
    have := vals_u8 l
    simp only [u8s, u8v] at this
    simp only [u8s, u8v, List.map_cons, vals, this, Option.map_some]
theorem fit_u8 : ∀ l : List Int, Fit (List.replicate l.length (.i .u8)) (u8v l) = true
  | [] => rfl
  | n :: l => by
    have := fit_u8 l
    simp only [u8v] at this
    simp only [u8v, List.map_cons, List.length_cons, List.replicate_succ, Fit, this]
    rfl
theorem eq_u8 : ∀ l : List Int, eqL (u8v l) (u8v l) = true
  | [] => rfl
  | n :: l => by
    have := eq_u8 l
    simp only [u8v] at this
    simp only [u8v, List.map_cons, eqL, eqLeaf, this, decide_true, Bool.and_true]
def Itm.fact (x : Itm) : List AV := [str x.f1, str x.f2, str x.f3, .sl 3 (x.args.map trmC)]
theorem Itm.dr2 (x : Itm) : (x.cs.drop 2).take 4 = x.fact := rfl
theorem Itm.dr6 (x : Itm) : (x.cs.drop 6).take 32 = u8s x.dig := List.take_of_length_le (by simp [Itm.cs, u8s_length, x.hd])

section
variable {σ σ' : St} {r : Nat}
set_option maxRecDepth 100000
set_option maxHeartbeats 1000000

theorem texts_at (s : ByteArray) : AT Try.prog 42 [str s, str s] σ fun v σ' => v = int 0 ∧ σ' = σ := by
  have irr : ∀ l, Op.bytesLess l l = false := fun l => by
    induction l with
    | nil => rfl
    | cons a l ih => simp [Op.bytesLess, ih]
  refine AT.of_body Try.func42 rfl (by decide) (by kernel_rfl) (by kernel_rfl) (Nat.le_of_ble_eq_true rfl) ?_
  simp only [go_sem, r_block, reduceIte, Nat.reduceEqDiff, Nat.reduceAdd, Nat.reduceMul, Nat.reduceSub, Nat.reduceLT, Nat.reduceLeDiff, Nat.le_refl, Nat.zero_le, Nat.zero_add, Nat.add_zero, Nat.mul_one, splice_zero, Int.toNat_natCast, Int.natCast_nonneg, Int.reduceLE, Int.reduceLT, Int.reduceToNat, Int.reduceEq, Int.cast_ofNat_Int, ne_eq, not_true_eq_false, not_false_eq_true, imp_self, implies_true, true_implies, false_implies, and_self, List.length_map, List.length_drop]
  rw [irr]
  simp only [go_sem, r_block, reduceIte, Nat.reduceEqDiff, Nat.reduceAdd, Nat.reduceMul, Nat.reduceSub, Nat.reduceLT, Nat.reduceLeDiff, Nat.le_refl, Nat.zero_le, Nat.zero_add, Nat.add_zero, Nat.mul_one, splice_zero, Int.toNat_natCast, Int.natCast_nonneg, Int.reduceLE, Int.reduceLT, Int.reduceToNat, Int.reduceEq, Int.cast_ofNat_Int, ne_eq, not_true_eq_false, not_false_eq_true, imp_self, implies_true, true_implies, false_implies, and_self, List.length_map, List.length_drop]
  simp only [aStr, irr, decide_true, Bool.or_true, Bool.not_true]
  simp only [go_sem, r_block, reduceIte, Nat.reduceEqDiff, Nat.reduceAdd, Nat.reduceMul, Nat.reduceSub, Nat.reduceLT, Nat.reduceLeDiff, Nat.le_refl, Nat.zero_le, Nat.zero_add, Nat.add_zero, Nat.mul_one, splice_zero, Int.toNat_natCast, Int.natCast_nonneg, Int.reduceLE, Int.reduceLT, Int.reduceToNat, Int.reduceEq, Int.cast_ofNat_Int, ne_eq, not_true_eq_false, not_false_eq_true, imp_self, implies_true, true_implies, false_implies, and_self, List.length_map, List.length_drop]
  exact aRet_as (r := int 0) rfl ⟨rfl, rfl⟩

theorem compare_at (t : Trm) : AT Try.prog 43 [.agg (trmC t), .agg (trmC t)] σ fun v σ' => v = int 0 ∧ σ' = σ := by
  refine AT.of_body Try.func43 rfl (by decide) (by kernel_rfl) (by kernel_rfl) (Nat.le_of_ble_eq_true rfl) ?_
  obtain ⟨n, i, s⟩ := t
  unfold trmC
  simp only [go_sem, reduceIte, Nat.reduceEqDiff, Nat.reduceAdd, Nat.reduceMul, Nat.reduceSub, Nat.reduceLT, Nat.reduceLeDiff, Nat.le_refl, Nat.zero_le, Nat.zero_add, Nat.add_zero, Nat.mul_one, splice_zero, Int.toNat_natCast, Int.natCast_nonneg, Int.reduceLE, Int.reduceLT, Int.reduceToNat, Int.reduceEq, Int.cast_ofNat_Int, ne_eq, not_true_eq_false, not_false_eq_true, imp_self, implies_true, true_implies, false_implies, and_self, List.length_map, List.length_drop]
  refine aNew_intro fun b hb _ => ?_
  simp only [go_sem, reduceIte, Nat.reduceEqDiff, Nat.reduceAdd, Nat.reduceMul, Nat.reduceSub, Nat.reduceLT, Nat.reduceLeDiff, Nat.le_refl, Nat.zero_le, Nat.zero_add, Nat.add_zero, Nat.mul_one, splice_zero, Int.toNat_natCast, Int.natCast_nonneg, Int.reduceLE, Int.reduceLT, Int.reduceToNat, Int.reduceEq, Int.cast_ofNat_Int, ne_eq, not_true_eq_false, not_false_eq_true, imp_self, implies_true, true_implies, false_implies, and_self, List.length_map, List.length_drop]
  refine aNew_intro fun c hc _ => ?_
  have hbc : b ≠ c := by rintro rfl; rw [set_same] at hc; cases hc
  have hcb := hbc.symm
  have hc' : σ c = none := by rw [set_ne hcb] at hc; exact hc
  have hd := view_drop (r := int 0) (set_sub (o := .cells [boo n, int i, str s]) hc' (set_sub (o := .cells [boo n, int i, str s]) hb fun _ _ h => h))
  simp only [go_sem, r_block, set_same, set_ne hbc, set_ne hcb, reduceIte, Nat.reduceEqDiff, Nat.reduceAdd, Nat.reduceMul, Nat.reduceSub, Nat.reduceLT, Nat.reduceLeDiff, Nat.le_refl, Nat.zero_le, Nat.zero_add, Nat.add_zero, Nat.mul_one, splice_zero, Int.toNat_natCast, Int.natCast_nonneg, Int.reduceLE, Int.reduceLT, Int.reduceToNat, Int.reduceEq, Int.cast_ofNat_Int, ne_eq, not_true_eq_false, not_false_eq_true, imp_self, implies_true, true_implies, false_implies, and_self, List.length_map, List.length_drop]
  refine aIf_bool (fun hn => ?_) (fun hn => ?_)
  · subst hn
    simp only [go_sem, r_block, set_same, set_ne hbc, set_ne hcb, Int.lt_irrefl, reduceIte, Nat.reduceEqDiff, Nat.reduceAdd, Nat.reduceMul, Nat.reduceSub, Nat.reduceLT, Nat.reduceLeDiff, Nat.le_refl, Nat.zero_le, Nat.zero_add, Nat.add_zero, Nat.mul_one, splice_zero, Int.toNat_natCast, Int.natCast_nonneg, Int.reduceLE, Int.reduceLT, Int.reduceToNat, Int.reduceEq, Int.cast_ofNat_Int, ne_eq, not_true_eq_false, not_false_eq_true, imp_self, implies_true, true_implies, false_implies, and_self, List.length_map, List.length_drop]
    refine (texts_at s).mono ?_
    rintro _ _ ⟨rfl, rfl⟩
    simp only [go_sem, r_block, reduceIte, Nat.reduceEqDiff, Nat.reduceAdd, Nat.reduceMul, Nat.reduceSub, Nat.reduceLT, Nat.reduceLeDiff, Nat.le_refl, Nat.zero_le, Nat.zero_add, Nat.add_zero, Nat.mul_one, splice_zero, Int.toNat_natCast, Int.natCast_nonneg, Int.reduceLE, Int.reduceLT, Int.reduceToNat, Int.reduceEq, Int.cast_ofNat_Int, ne_eq, not_true_eq_false, not_false_eq_true, imp_self, implies_true, true_implies, false_implies, and_self, List.length_map, List.length_drop]
    exact aRet_view (r := int 0) rfl _ σ hd ⟨rfl, rfl⟩
  · subst hn
    simp only [go_sem, r_block, set_same, set_ne hbc, set_ne hcb, Int.lt_irrefl, reduceIte, Nat.reduceEqDiff, Nat.reduceAdd, Nat.reduceMul, Nat.reduceSub, Nat.reduceLT, Nat.reduceLeDiff, Nat.le_refl, Nat.zero_le, Nat.zero_add, Nat.add_zero, Nat.mul_one, splice_zero, Int.toNat_natCast, Int.natCast_nonneg, Int.reduceLE, Int.reduceLT, Int.reduceToNat, Int.reduceEq, Int.cast_ofNat_Int, ne_eq, not_true_eq_false, not_false_eq_true, imp_self, implies_true, true_implies, false_implies, and_self, List.length_map, List.length_drop]
    refine (texts_at s).mono ?_
    rintro _ _ ⟨rfl, rfl⟩
    simp only [go_sem, r_block, reduceIte, Nat.reduceEqDiff, Nat.reduceAdd, Nat.reduceMul, Nat.reduceSub, Nat.reduceLT, Nat.reduceLeDiff, Nat.le_refl, Nat.zero_le, Nat.zero_add, Nat.add_zero, Nat.mul_one, splice_zero, Int.toNat_natCast, Int.natCast_nonneg, Int.reduceLE, Int.reduceLT, Int.reduceToNat, Int.reduceEq, Int.cast_ofNat_Int, ne_eq, not_true_eq_false, not_false_eq_true, imp_self, implies_true, true_implies, false_implies, and_self, List.length_map, List.length_drop]
    exact aRet_view (r := int 0) rfl _ σ hd ⟨rfl, rfl⟩

theorem order_at (x : Itm) (hx : x.args.length ≤ 4398046510976) : AT Try.prog 40 [.agg x.fact, .agg x.fact] σ fun v σ' => v = int 0 ∧ σ' = σ := by
  refine AT.of_body Try.func40 rfl (by decide) (by kernel_rfl) (by kernel_rfl) (Nat.le_of_ble_eq_true rfl) ?_
  unfold Itm.fact
  simp only [go_sem, reduceIte, Nat.reduceEqDiff, Nat.reduceAdd, Nat.reduceMul, Nat.reduceSub, Nat.reduceLT, Nat.reduceLeDiff, Nat.le_refl, Nat.zero_le, Nat.zero_add, Nat.add_zero, Nat.mul_one, splice_zero, Int.toNat_natCast, Int.natCast_nonneg, Int.reduceLE, Int.reduceLT, Int.reduceToNat, Int.reduceEq, Int.cast_ofNat_Int, ne_eq, not_true_eq_false, not_false_eq_true, imp_self, implies_true, true_implies, false_implies, and_self, List.length_map, List.length_drop]
  refine aNew_intro fun b hb _ => ?_
  simp only [go_sem, reduceIte, Nat.reduceEqDiff, Nat.reduceAdd, Nat.reduceMul, Nat.reduceSub, Nat.reduceLT, Nat.reduceLeDiff, Nat.le_refl, Nat.zero_le, Nat.zero_add, Nat.add_zero, Nat.mul_one, splice_zero, Int.toNat_natCast, Int.natCast_nonneg, Int.reduceLE, Int.reduceLT, Int.reduceToNat, Int.reduceEq, Int.cast_ofNat_Int, ne_eq, not_true_eq_false, not_false_eq_true, imp_self, implies_true, true_implies, false_implies, and_self, List.length_map, List.length_drop]
  refine aNew_intro fun c hc _ => ?_
  have hbc : b ≠ c := by rintro rfl; rw [set_same] at hc; cases hc
  have hcb := hbc.symm
  have hc' : σ c = none := by rw [set_ne hcb] at hc; exact hc
  have hd := view_drop (r := int 0) (set_sub (o := .cells [str x.f1, str x.f2, str x.f3, .sl 3 (x.args.map trmC)]) hc' (set_sub (o := .cells [str x.f1, str x.f2, str x.f3, .sl 3 (x.args.map trmC)]) hb fun _ _ h => h))
  have g1 : ((σ.set b (.cells [str x.f1, str x.f2, str x.f3, .sl 3 (x.args.map trmC)])).set c (.cells [str x.f1, str x.f2, str x.f3, .sl 3 (x.args.map trmC)])) b = some (.cells [str x.f1, str x.f2, str x.f3, .sl 3 (x.args.map trmC)]) := by rw [set_ne hbc, set_same]
  have g2 : ((σ.set b (.cells [str x.f1, str x.f2, str x.f3, .sl 3 (x.args.map trmC)])).set c (.cells [str x.f1, str x.f2, str x.f3, .sl 3 (x.args.map trmC)])) c = some (.cells [str x.f1, str x.f2, str x.f3, .sl 3 (x.args.map trmC)]) := by rw [set_same]
  revert g1 g2 hd
  generalize (σ.set b (.cells [str x.f1, str x.f2, str x.f3, .sl 3 (x.args.map trmC)])).set c (.cells [str x.f1, str x.f2, str x.f3, .sl 3 (x.args.map trmC)]) = σ1
  intro hd g1 g2
  simp only [go_sem, r_block, g1, g2, reduceIte, Nat.reduceEqDiff, Nat.reduceAdd, Nat.reduceMul, Nat.reduceSub, Nat.reduceLT, Nat.reduceLeDiff, Nat.le_refl, Nat.zero_le, Nat.zero_add, Nat.add_zero, Nat.mul_one, splice_zero, Int.toNat_natCast, Int.natCast_nonneg, Int.reduceLE, Int.reduceLT, Int.reduceToNat, Int.reduceEq, Int.cast_ofNat_Int, ne_eq, not_true_eq_false, not_false_eq_true, imp_self, implies_true, true_implies, false_implies, and_self, List.length_map, List.length_drop]
  refine ⟨fun m fr σ' => ∃ j : Nat, m = x.args.length - j ∧ j ≤ x.args.length ∧ σ' = σ1 ∧ fr 2 = ptr b ∧ fr 3 = ptr c ∧ fr 5 = int j, ⟨_, 0, rfl, by omega, rfl, rfl, rfl, rfl⟩, ?_⟩
  rintro m fr σ1 ⟨j, rfl, hj, rfl, f2, f3, f5⟩
  simp only [go_sem, f2, f3, f5, g1, g2, reduceIte, Nat.reduceEqDiff, Nat.reduceAdd, Nat.reduceMul, Nat.reduceSub, Nat.reduceLT, Nat.reduceLeDiff, Nat.le_refl, Nat.zero_le, Nat.zero_add, Nat.add_zero, Nat.mul_one, splice_zero, Int.toNat_natCast, Int.natCast_nonneg, Int.reduceLE, Int.reduceLT, Int.reduceToNat, Int.reduceEq, Int.cast_ofNat_Int, ne_eq, not_true_eq_false, not_false_eq_true, imp_self, implies_true, true_implies, false_implies, and_self, List.length_map, List.length_drop]
  refine aIf_by (fun k1 => ?_) (fun k1 => ?_)
  · have hja : j < x.args.length := by omega
    have eg : (x.args.map trmC).getD j [] = trmC x.args[j] := by simp [List.getD_eq_getElem?_getD, hja]
    have e3 : (trmC x.args[j]).take 3 = trmC x.args[j] := rfl
    have e3' : (trmC x.args[j]).length = 3 := rfl
    simp only [go_sem, r_block, f2, f3, f5, g1, g2, decide_eq_true k1, reduceIte, Nat.reduceEqDiff, Nat.reduceAdd, Nat.reduceMul, Nat.reduceSub, Nat.reduceLT, Nat.reduceLeDiff, Nat.le_refl, Nat.zero_le, Nat.zero_add, Nat.add_zero, Nat.mul_one, splice_zero, Int.toNat_natCast, Int.natCast_nonneg, Int.reduceLE, Int.reduceLT, Int.reduceToNat, Int.reduceEq, Int.cast_ofNat_Int, ne_eq, not_true_eq_false, not_false_eq_true, imp_self, implies_true, true_implies, false_implies, and_self, List.length_map, List.length_drop]
    refine aDraw_plan [.rd 0 false, .rd 1 true, .rd 2 false, .rd 3 false, .rd 4 true, .rd 5 false, .rd 6 true, .rd 7 false, .rd 8 false, .rd 9 true, .ef 10 [], .rd 11 false] (by kernel_rfl) (by kernel_rfl) (by kernel_rfl) ?_
    simp only [go_sem, r_block, f2, f3, f5, g1, g2, decide_eq_true k1, eg, e3, e3', reduceIte, Nat.reduceEqDiff, Nat.reduceAdd, Nat.reduceMul, Nat.reduceSub, Nat.reduceLT, Nat.reduceLeDiff, Nat.le_refl, Nat.zero_le, Nat.zero_add, Nat.add_zero, Nat.mul_one, splice_zero, Int.toNat_natCast, Int.natCast_nonneg, Int.reduceLE, Int.reduceLT, Int.reduceToNat, Int.reduceEq, Int.cast_ofNat_Int, ne_eq, not_true_eq_false, not_false_eq_true, imp_self, implies_true, true_implies, false_implies, and_self, List.length_map, List.length_drop]
    refine ⟨by omega, by omega, (compare_at _).mono ?_⟩
    rintro _ σ1 ⟨rfl, rfl⟩
    simp only [go_sem, r_block, f2, f3, f5, reduceIte, Nat.reduceEqDiff, Nat.reduceAdd, Nat.reduceMul, Nat.reduceSub, Nat.reduceLT, Nat.reduceLeDiff, Nat.le_refl, Nat.zero_le, Nat.zero_add, Nat.add_zero, Nat.mul_one, splice_zero, Int.toNat_natCast, Int.natCast_nonneg, Int.reduceLE, Int.reduceLT, Int.reduceToNat, Int.reduceEq, Int.cast_ofNat_Int, ne_eq, not_true_eq_false, not_false_eq_true, imp_self, implies_true, true_implies, false_implies, and_self, List.length_map, List.length_drop]
    rw [next64 (by omega)]
    exact ⟨x.args.length - (j + 1), by omega, j + 1, rfl, by omega, rfl⟩
  · simp only [go_sem, r_block, f2, f3, f5, g1, g2, decide_eq_false k1, reduceIte, Nat.reduceEqDiff, Nat.reduceAdd, Nat.reduceMul, Nat.reduceSub, Nat.reduceLT, Nat.reduceLeDiff, Nat.le_refl, Nat.zero_le, Nat.zero_add, Nat.add_zero, Nat.mul_one, splice_zero, Int.toNat_natCast, Int.natCast_nonneg, Int.reduceLE, Int.reduceLT, Int.reduceToNat, Int.reduceEq, Int.cast_ofNat_Int, ne_eq, not_true_eq_false, not_false_eq_true, imp_self, implies_true, true_implies, false_implies, and_self, List.length_map, List.length_drop]
    have n1 : ¬ ((x.args.length : Int) < x.args.length) := by omega
    simp only [go_sem, r_block, f2, f3, f5, g1, g2, decide_eq_false n1, reduceIte, Nat.reduceEqDiff, Nat.reduceAdd, Nat.reduceMul, Nat.reduceSub, Nat.reduceLT, Nat.reduceLeDiff, Nat.le_refl, Nat.zero_le, Nat.zero_add, Nat.add_zero, Nat.mul_one, splice_zero, Int.toNat_natCast, Int.natCast_nonneg, Int.reduceLE, Int.reduceLT, Int.reduceToNat, Int.reduceEq, Int.cast_ofNat_Int, ne_eq, not_true_eq_false, not_false_eq_true, imp_self, implies_true, true_implies, false_implies, and_self, List.length_map, List.length_drop]
    exact aRet_view (r := int 0) rfl _ σ hd ⟨rfl, rfl⟩

theorem same_at (x : Itm) (hx : x.args.length ≤ 4398046510976) : AT Try.prog 36 [.agg x.cs, .agg x.cs] σ fun v σ' => v = boo true ∧ σ' = σ := by
  refine AT.of_body Try.func36 rfl (by decide) (by kernel_rfl) (by kernel_rfl) (Nat.le_of_ble_eq_true rfl) ?_
  simp only [go_sem, x.one, reduceIte, Nat.reduceEqDiff, Nat.reduceAdd, Nat.reduceMul, Nat.reduceSub, Nat.reduceLT, Nat.reduceLeDiff, Nat.le_refl, Nat.zero_le, Nat.zero_add, Nat.add_zero, Nat.mul_one, splice_zero, Int.toNat_natCast, Int.natCast_nonneg, Int.reduceLE, Int.reduceLT, Int.reduceToNat, Int.reduceEq, Int.cast_ofNat_Int, ne_eq, not_true_eq_false, not_false_eq_true, imp_self, implies_true, true_implies, false_implies, and_self, List.length_map, List.length_drop]
  refine aNew_intro fun b hb _ => ?_
  simp only [go_sem, x.one, reduceIte, Nat.reduceEqDiff, Nat.reduceAdd, Nat.reduceMul, Nat.reduceSub, Nat.reduceLT, Nat.reduceLeDiff, Nat.le_refl, Nat.zero_le, Nat.zero_add, Nat.add_zero, Nat.mul_one, splice_zero, Int.toNat_natCast, Int.natCast_nonneg, Int.reduceLE, Int.reduceLT, Int.reduceToNat, Int.reduceEq, Int.cast_ofNat_Int, ne_eq, not_true_eq_false, not_false_eq_true, imp_self, implies_true, true_implies, false_implies, and_self, List.length_map, List.length_drop]
  refine aNew_intro fun c hc _ => ?_
  have hbc : b ≠ c := by rintro rfl; rw [set_same] at hc; cases hc
  have hcb := hbc.symm
  have hc' : σ c = none := by rw [set_ne hcb] at hc; exact hc
  have hd := view_drop (r := boo true) (set_sub (o := .cells x.cs) hc' (set_sub (o := .cells x.cs) hb fun _ _ h => h))
  have g1 : ((σ.set b (.cells x.cs)).set c (.cells x.cs)) b = some (.cells x.cs) := by rw [set_ne hbc, set_same]
  have g2 : ((σ.set b (.cells x.cs)).set c (.cells x.cs)) c = some (.cells x.cs) := by rw [set_same]
  revert g1 g2 hd
  generalize (σ.set b (.cells x.cs)).set c (.cells x.cs) = σ1
  intro hd g1 g2
  simp only [go_sem, r_block, g1, g2, x.len, x.at0, x.at1, reduceIte, Nat.reduceEqDiff, Nat.reduceAdd, Nat.reduceMul, Nat.reduceSub, Nat.reduceLT, Nat.reduceLeDiff, Nat.le_refl, Nat.zero_le, Nat.zero_add, Nat.add_zero, Nat.mul_one, splice_zero, Int.toNat_natCast, Int.natCast_nonneg, Int.reduceLE, Int.reduceLT, Int.reduceToNat, Int.reduceEq, Int.cast_ofNat_Int, ne_eq, not_true_eq_false, not_false_eq_true, imp_self, implies_true, true_implies, false_implies, and_self, List.length_map, List.length_drop]
  rw [x.dr6]
  have hf := fit_u8 x.dig
  rw [x.hd] at hf
  refine agg_by lv30 (by kernel_rfl) (by kernel_rfl) rfl rfl (vals_u8 _) (vals_u8 _) hf hf ?_
  rw [eq_u8]
  simp only [go_sem, r_block, g1, g2, x.len, x.dr2, Bool.false_eq_true, reduceIte, Nat.reduceEqDiff, Nat.reduceAdd, Nat.reduceMul, Nat.reduceSub, Nat.reduceLT, Nat.reduceLeDiff, Nat.le_refl, Nat.zero_le, Nat.zero_add, Nat.add_zero, Nat.mul_one, splice_zero, Int.toNat_natCast, Int.natCast_nonneg, Int.reduceLE, Int.reduceLT, Int.reduceToNat, Int.reduceEq, Int.cast_ofNat_Int, ne_eq, not_true_eq_false, not_false_eq_true, imp_self, implies_true, true_implies, false_implies, and_self, List.length_map, List.length_drop]
  refine (order_at x hx).mono ?_
  rintro _ _ ⟨rfl, rfl⟩
  simp only [go_sem, r_block, reduceIte, Nat.reduceEqDiff, Nat.reduceAdd, Nat.reduceMul, Nat.reduceSub, Nat.reduceLT, Nat.reduceLeDiff, Nat.le_refl, Nat.zero_le, Nat.zero_add, Nat.add_zero, Nat.mul_one, splice_zero, Int.toNat_natCast, Int.natCast_nonneg, Int.reduceLE, Int.reduceLT, Int.reduceToNat, Int.reduceEq, Int.cast_ofNat_Int, ne_eq, not_true_eq_false, not_false_eq_true, imp_self, implies_true, true_implies, false_implies, and_self, List.length_map, List.length_drop]
  exact aRet_view (r := boo true) rfl _ σ hd ⟨rfl, rfl⟩

theorem items_at (l : List Itm) (hl : ∀ x ∈ l, x.args.length ≤ 4398046510976) (hn : l.length ≤ 1000000000) : AT Try.prog 26 [.sl 38 (l.map Itm.cs), .sl 38 (l.map Itm.cs)] σ fun v σ' => v = boo true ∧ σ' = σ := by
  refine AT.of_body Try.func26 rfl (by decide) (by kernel_rfl) (by kernel_rfl) (Nat.le_of_ble_eq_true rfl) ?_
  simp only [go_sem, r_block, reduceIte, Nat.reduceEqDiff, Nat.reduceAdd, Nat.reduceMul, Nat.reduceSub, Nat.reduceLT, Nat.reduceLeDiff, Nat.le_refl, Nat.zero_le, Nat.zero_add, Nat.add_zero, Nat.mul_one, splice_zero, Int.toNat_natCast, Int.natCast_nonneg, Int.reduceLE, Int.reduceLT, Int.reduceToNat, Int.reduceEq, Int.cast_ofNat_Int, ne_eq, not_true_eq_false, not_false_eq_true, imp_self, implies_true, true_implies, false_implies, and_self, List.length_map, List.length_drop]
  refine ⟨fun m fr σ' => ∃ j : Nat, m = l.length - j ∧ j ≤ l.length ∧ σ' = σ ∧ fr 0 = .sl 38 (l.map Itm.cs) ∧ fr 1 = .sl 38 (l.map Itm.cs) ∧ fr 5 = int j, ⟨_, 0, rfl, by omega, rfl, rfl, rfl, rfl⟩, ?_⟩
  rintro m fr σ ⟨j, rfl, hj, rfl, f0, f1, f5⟩
  simp only [go_sem, f0, f1, f5, reduceIte, Nat.reduceEqDiff, Nat.reduceAdd, Nat.reduceMul, Nat.reduceSub, Nat.reduceLT, Nat.reduceLeDiff, Nat.le_refl, Nat.zero_le, Nat.zero_add, Nat.add_zero, Nat.mul_one, splice_zero, Int.toNat_natCast, Int.natCast_nonneg, Int.reduceLE, Int.reduceLT, Int.reduceToNat, Int.reduceEq, Int.cast_ofNat_Int, ne_eq, not_true_eq_false, not_false_eq_true, imp_self, implies_true, true_implies, false_implies, and_self, List.length_map, List.length_drop]
  refine aIf_by (fun k1 => ?_) (fun k1 => ?_)
  · have hja : j < l.length := by omega
    have eg : (l.map Itm.cs).getD j [] = l[j].cs := by simp [List.getD_eq_getElem?_getD, hja]
    simp only [go_sem, r_block, f0, f1, f5, reduceIte, Nat.reduceEqDiff, Nat.reduceAdd, Nat.reduceMul, Nat.reduceSub, Nat.reduceLT, Nat.reduceLeDiff, Nat.le_refl, Nat.zero_le, Nat.zero_add, Nat.add_zero, Nat.mul_one, splice_zero, Int.toNat_natCast, Int.natCast_nonneg, Int.reduceLE, Int.reduceLT, Int.reduceToNat, Int.reduceEq, Int.cast_ofNat_Int, ne_eq, not_true_eq_false, not_false_eq_true, imp_self, implies_true, true_implies, false_implies, and_self, List.length_map, List.length_drop]
    refine aDraw_plan [.rd 0 false, .rd 1 false, .rd 2 false, .rd 3 true, .rd 4 false, .rd 5 false, .rd 6 false, .rd 7 true, .ef 8 [], .rd 9 false] (by kernel_rfl) (by kernel_rfl) (by kernel_rfl) ?_
    simp only [go_sem, r_block, f0, f1, f5, eg, Itm.len, Itm.take, reduceIte, Nat.reduceEqDiff, Nat.reduceAdd, Nat.reduceMul, Nat.reduceSub, Nat.reduceLT, Nat.reduceLeDiff, Nat.le_refl, Nat.zero_le, Nat.zero_add, Nat.add_zero, Nat.mul_one, splice_zero, Int.toNat_natCast, Int.natCast_nonneg, Int.reduceLE, Int.reduceLT, Int.reduceToNat, Int.reduceEq, Int.cast_ofNat_Int, ne_eq, not_true_eq_false, not_false_eq_true, imp_self, implies_true, true_implies, false_implies, and_self, List.length_map, List.length_drop]
    refine ⟨by omega, by omega, (same_at _ (hl _ (List.getElem_mem _))).mono ?_⟩
    rintro _ σ ⟨rfl, rfl⟩
    simp only [go_sem, r_block, f0, f1, f5, reduceIte, Nat.reduceEqDiff, Nat.reduceAdd, Nat.reduceMul, Nat.reduceSub, Nat.reduceLT, Nat.reduceLeDiff, Nat.le_refl, Nat.zero_le, Nat.zero_add, Nat.add_zero, Nat.mul_one, splice_zero, Int.toNat_natCast, Int.natCast_nonneg, Int.reduceLE, Int.reduceLT, Int.reduceToNat, Int.reduceEq, Int.cast_ofNat_Int, ne_eq, not_true_eq_false, not_false_eq_true, imp_self, implies_true, true_implies, false_implies, and_self, List.length_map, List.length_drop]
    rw [next64 (by omega)]
    exact ⟨l.length - (j + 1), by omega, j + 1, rfl, by omega, rfl⟩
  · simp only [go_sem, r_block, f0, f1, f5, reduceIte, Nat.reduceEqDiff, Nat.reduceAdd, Nat.reduceMul, Nat.reduceSub, Nat.reduceLT, Nat.reduceLeDiff, Nat.le_refl, Nat.zero_le, Nat.zero_add, Nat.add_zero, Nat.mul_one, splice_zero, Int.toNat_natCast, Int.natCast_nonneg, Int.reduceLE, Int.reduceLT, Int.reduceToNat, Int.reduceEq, Int.cast_ofNat_Int, ne_eq, not_true_eq_false, not_false_eq_true, imp_self, implies_true, true_implies, false_implies, and_self, List.length_map, List.length_drop]
    exact aRet_as (r := boo true) rfl ⟨rfl, rfl⟩

theorem frames_at (l : List Frm) (hl : ∀ x ∈ l, x.it.args.length ≤ 4398046510976) (hn : l.length ≤ 1000000000) : AT Try.prog 23 [.sl 40 (l.map Frm.cs), .sl 40 (l.map Frm.cs)] σ fun v σ' => v = boo true ∧ σ' = σ := by
  refine AT.of_body Try.func23 rfl (by decide) (by kernel_rfl) (by kernel_rfl) (Nat.le_of_ble_eq_true rfl) ?_
  simp only [go_sem, r_block, reduceIte, Nat.reduceEqDiff, Nat.reduceAdd, Nat.reduceMul, Nat.reduceSub, Nat.reduceLT, Nat.reduceLeDiff, Nat.le_refl, Nat.zero_le, Nat.zero_add, Nat.add_zero, Nat.mul_one, splice_zero, Int.toNat_natCast, Int.natCast_nonneg, Int.reduceLE, Int.reduceLT, Int.reduceToNat, Int.reduceEq, Int.cast_ofNat_Int, ne_eq, not_true_eq_false, not_false_eq_true, imp_self, implies_true, true_implies, false_implies, and_self, List.length_map, List.length_drop]
  refine ⟨fun m fr σ' => ∃ j : Nat, m = l.length - j ∧ j ≤ l.length ∧ σ' = σ ∧ fr 0 = .sl 40 (l.map Frm.cs) ∧ fr 1 = .sl 40 (l.map Frm.cs) ∧ fr 5 = int j, ⟨_, 0, rfl, by omega, rfl, rfl, rfl, rfl⟩, ?_⟩
  rintro m fr σ ⟨j, rfl, hj, rfl, f0, f1, f5⟩
  simp only [go_sem, f0, f1, f5, reduceIte, Nat.reduceEqDiff, Nat.reduceAdd, Nat.reduceMul, Nat.reduceSub, Nat.reduceLT, Nat.reduceLeDiff, Nat.le_refl, Nat.zero_le, Nat.zero_add, Nat.add_zero, Nat.mul_one, splice_zero, Int.toNat_natCast, Int.natCast_nonneg, Int.reduceLE, Int.reduceLT, Int.reduceToNat, Int.reduceEq, Int.cast_ofNat_Int, ne_eq, not_true_eq_false, not_false_eq_true, imp_self, implies_true, true_implies, false_implies, and_self, List.length_map, List.length_drop]
  refine aIf_by (fun k1 => ?_) (fun k1 => ?_)
  · have hja : j < l.length := by omega
    have eg : (l.map Frm.cs).getD j [] = l[j].cs := by simp [List.getD_eq_getElem?_getD, hja]
    simp only [go_sem, r_block, f0, f1, f5, reduceIte, Nat.reduceEqDiff, Nat.reduceAdd, Nat.reduceMul, Nat.reduceSub, Nat.reduceLT, Nat.reduceLeDiff, Nat.le_refl, Nat.zero_le, Nat.zero_add, Nat.add_zero, Nat.mul_one, splice_zero, Int.toNat_natCast, Int.natCast_nonneg, Int.reduceLE, Int.reduceLT, Int.reduceToNat, Int.reduceEq, Int.cast_ofNat_Int, ne_eq, not_true_eq_false, not_false_eq_true, imp_self, implies_true, true_implies, false_implies, and_self, List.length_map, List.length_drop]
    refine aDraw_plan [.rd 0 false, .rd 1 false, .rd 2 false, .rd 3 false, .rd 4 true, .rd 5 false, .rd 6 false, .rd 7 false, .rd 8 false, .rd 9 true, .rd 10 false, .rd 11 false, .rd 12 false, .rd 13 false, .rd 14 false, .rd 15 false, .rd 16 true, .rd 17 false, .rd 18 false, .rd 19 false, .rd 20 false, .rd 21 true, .rd 22 false, .rd 23 false, .rd 24 false, .rd 25 false, .rd 26 false, .rd 27 false, .rd 28 false, .rd 29 true, .rd 30 false, .rd 31 false, .rd 32 false, .rd 33 false, .rd 34 true, .ef 35 [], .rd 36 false, .rd 37 false] (by kernel_rfl) (by kernel_rfl) (by kernel_rfl) ?_
    simp only [go_sem, r_block, f0, f1, f5, eg, Frm.len, Frm.at0, Frm.dr1, Frm.at2, k1, reduceIte, Nat.reduceEqDiff, Nat.reduceAdd, Nat.reduceMul, Nat.reduceSub, Nat.reduceLT, Nat.reduceLeDiff, Nat.le_refl, Nat.zero_le, Nat.zero_add, Nat.add_zero, Nat.mul_one, splice_zero, Int.toNat_natCast, Int.natCast_nonneg, Int.reduceLE, Int.reduceLT, Int.reduceToNat, Int.reduceEq, Int.cast_ofNat_Int, ne_eq, not_true_eq_false, not_false_eq_true, imp_self, implies_true, true_implies, false_implies, and_self, List.length_map, List.length_drop]
    refine (same_at _ (hl _ (List.getElem_mem _))).mono ?_
    rintro _ σ ⟨rfl, rfl⟩
    simp only [go_sem, r_block, f0, f1, f5, reduceIte, Nat.reduceEqDiff, Nat.reduceAdd, Nat.reduceMul, Nat.reduceSub, Nat.reduceLT, Nat.reduceLeDiff, Nat.le_refl, Nat.zero_le, Nat.zero_add, Nat.add_zero, Nat.mul_one, splice_zero, Int.toNat_natCast, Int.natCast_nonneg, Int.reduceLE, Int.reduceLT, Int.reduceToNat, Int.reduceEq, Int.cast_ofNat_Int, ne_eq, not_true_eq_false, not_false_eq_true, imp_self, implies_true, true_implies, false_implies, and_self, List.length_map, List.length_drop]
    rw [next64 (by omega)]
    exact ⟨l.length - (j + 1), by omega, j + 1, rfl, by omega, rfl⟩
  · simp only [go_sem, r_block, f0, f1, f5, reduceIte, Nat.reduceEqDiff, Nat.reduceAdd, Nat.reduceMul, Nat.reduceSub, Nat.reduceLT, Nat.reduceLeDiff, Nat.le_refl, Nat.zero_le, Nat.zero_add, Nat.add_zero, Nat.mul_one, splice_zero, Int.toNat_natCast, Int.natCast_nonneg, Int.reduceLE, Int.reduceLT, Int.reduceToNat, Int.reduceEq, Int.cast_ofNat_Int, ne_eq, not_true_eq_false, not_false_eq_true, imp_self, implies_true, true_implies, false_implies, and_self, List.length_map, List.length_drop]
    exact aRet_as (r := boo true) rfl ⟨rfl, rfl⟩

/-- An act: its kind, and its frame. -/
abbrev Actn := Int × Frm
def aC (a : Actn) : List AV := int a.1 :: a.2.cs
theorem aC_len (a : Actn) : (aC a).length = 41 := by simp [aC, a.2.len]
theorem aC_at0 (a : Actn) : (aC a).getD 0 (.v undef) = int a.1 := rfl
theorem aC_dr1 (a : Actn) : (aC a).drop 1 = a.2.cs := rfl
theorem aC_take (a : Actn) : (aC a).take 41 = aC a := List.take_of_length_le (by rw [aC_len]; exact Nat.le_refl _)
theorem aC_one (a : Actn) : (aC a).all AV.one = true := by
  have := a.2.one
  simp only [aC, List.all_cons, this]
  rfl
theorem Itm.fact_len (x : Itm) : x.fact.length = 4 := rfl
theorem aC_fact (a : Actn) : ((((aC a).drop 1).drop 2).drop 2).take 4 = a.2.it.fact := rfl

theorem weigh_at {lv : AV} (l : List Itm) (hL : LAt 4 σ lv (l.map Itm.fact)) (hl : l.length ≤ 200) (hx : ∀ x ∈ l, x.args.length ≤ 4398046510976) (n : Int) : AT Try.prog 34 [lv, int n] σ fun v σ' => (∃ m, v = int m) ∧ σ' = σ := by
  refine AT.of_body Try.func34 rfl (by decide) (by kernel_rfl) (by kernel_rfl) (Nat.le_of_ble_eq_true rfl) ?_
  simp only [go_sem, r_block, reduceIte, Nat.reduceEqDiff, Nat.reduceAdd, Nat.reduceMul, Nat.reduceSub, Nat.reduceLT, Nat.reduceLeDiff, Nat.le_refl, Nat.zero_le, Nat.zero_add, Nat.add_zero, Nat.mul_one, splice_zero, Int.toNat_natCast, Int.natCast_nonneg, Int.reduceLE, Int.reduceLT, Int.reduceToNat, Int.reduceEq, Int.cast_ofNat_Int, ne_eq, not_true_eq_false, not_false_eq_true, imp_self, implies_true, true_implies, false_implies, and_self, List.length_map, List.length_drop]
  refine ⟨fun m fr σ' => ∃ (j : Nat) (v5 : Int), m = l.length - j ∧ j ≤ l.length ∧ σ' = σ ∧ fr 0 = lv ∧ fr 1 = int n ∧ fr 5 = int v5 ∧ fr 6 = int j, ⟨_, 0, 0, rfl, by omega, rfl, rfl, rfl, rfl, rfl⟩, ?_⟩
  rintro m fr σ ⟨j, v5, rfl, hj, rfl, f0, f1, f5, f6⟩
  simp only [go_sem, f0, f1, f5, f6, hL.len, reduceIte, Nat.reduceEqDiff, Nat.reduceAdd, Nat.reduceMul, Nat.reduceSub, Nat.reduceLT, Nat.reduceLeDiff, Nat.le_refl, Nat.zero_le, Nat.zero_add, Nat.add_zero, Nat.mul_one, splice_zero, Int.toNat_natCast, Int.natCast_nonneg, Int.reduceLE, Int.reduceLT, Int.reduceToNat, Int.reduceEq, Int.cast_ofNat_Int, ne_eq, not_true_eq_false, not_false_eq_true, imp_self, implies_true, true_implies, false_implies, and_self, List.length_map, List.length_drop]
  refine aIf_by (fun k1 => ?_) (fun k1 => ?_)
  · simp only [go_sem, f0, f1, f5, f6, decide_eq_true k1, reduceIte, Nat.reduceEqDiff, Nat.reduceAdd, Nat.reduceMul, Nat.reduceSub, Nat.reduceLT, Nat.reduceLeDiff, Nat.le_refl, Nat.zero_le, Nat.zero_add, Nat.add_zero, Nat.mul_one, splice_zero, Int.toNat_natCast, Int.natCast_nonneg, Int.reduceLE, Int.reduceLT, Int.reduceToNat, Int.reduceEq, Int.cast_ofNat_Int, ne_eq, not_true_eq_false, not_false_eq_true, imp_self, implies_true, true_implies, false_implies, and_self, List.length_map, List.length_drop]
    refine aIf_by (fun k2 => ?_) (fun k2 => ?_)
    · have hja : j < l.length := by omega
      have eg : (l.map Itm.fact).getD (j : Int).toNat [] = l[j].fact := by rw [Int.toNat_natCast]; simp [List.getD_eq_getElem?_getD, hja]
      have el : ∀ {ag : Bool} {sz eby : Nat} {zr ez : List Value} {byt : Bool} {K : AV → Prop}, (∀ p, EAt 4 σ p l[j].fact 0 → K p) → aIadr (some ⟨ag, sz, zr, .sl 4 eby ez byt⟩) σ lv (.v (.int .i64 (j : Int))) K := fun hk => hL.elem (by omega) (by simpa using hja) (by rw [eg]; exact hk)
      have g0 : l[j].fact.getD 0 (.v undef) = str l[j].f1 := rfl
      have g1 : l[j].fact.getD 1 (.v undef) = str l[j].f2 := rfl
      have g2 : l[j].fact.getD 2 (.v undef) = str l[j].f3 := rfl
      have g3 : l[j].fact.getD 3 (.v undef) = .sl 3 (l[j].args.map trmC) := rfl
      simp only [go_sem, r_block, reduceIte, Nat.reduceEqDiff, Nat.reduceAdd, Nat.reduceMul, Nat.reduceSub, Nat.reduceLT, Nat.reduceLeDiff, Nat.le_refl, Nat.zero_le, Nat.zero_add, Nat.add_zero, Nat.mul_one, splice_zero, Int.toNat_natCast, Int.natCast_nonneg, Int.reduceLE, Int.reduceLT, Int.reduceToNat, Int.reduceEq, Int.cast_ofNat_Int, ne_eq, not_true_eq_false, not_false_eq_true, imp_self, implies_true, true_implies, false_implies, and_self, List.length_map, List.length_drop]
      refine aDraw_plan [.rd 0 false, .rd 1 false, .rd 2 false, .rd 3 false, .rd 4 false, .rd 5 true, .rd 6 false, .rd 7 false, .rd 8 false, .rd 9 false, .rd 10 false, .rd 11 false, .rd 12 true, .rd 13 false, .rd 14 false, .rd 15 false, .rd 16 false, .rd 17 false, .rd 18 true, .rd 19 false, .rd 20 false, .rd 21 false, .rd 22 false, .rd 23 false, .rd 24 false, .rd 25 true, .rd 26 false, .rd 27 false, .rd 28 false, .rd 29 false, .rd 30 false, .rd 31 false] (by kernel_rfl) (by kernel_rfl) (by kernel_rfl) ?_
      simp only [go_sem, r_block, f0, f1, f5, f6, reduceIte, Nat.reduceEqDiff, Nat.reduceAdd, Nat.reduceMul, Nat.reduceSub, Nat.reduceLT, Nat.reduceLeDiff, Nat.le_refl, Nat.zero_le, Nat.zero_add, Nat.add_zero, Nat.mul_one, splice_zero, Int.toNat_natCast, Int.natCast_nonneg, Int.reduceLE, Int.reduceLT, Int.reduceToNat, Int.reduceEq, Int.cast_ofNat_Int, ne_eq, not_true_eq_false, not_false_eq_true, imp_self, implies_true, true_implies, false_implies, and_self, List.length_map, List.length_drop]
      refine el fun p hp => ?_
      simp only [go_sem, r_block, f0, f1, f5, f6, reduceIte, Nat.reduceEqDiff, Nat.reduceAdd, Nat.reduceMul, Nat.reduceSub, Nat.reduceLT, Nat.reduceLeDiff, Nat.le_refl, Nat.zero_le, Nat.zero_add, Nat.add_zero, Nat.mul_one, splice_zero, Int.toNat_natCast, Int.natCast_nonneg, Int.reduceLE, Int.reduceLT, Int.reduceToNat, Int.reduceEq, Int.cast_ofNat_Int, ne_eq, not_true_eq_false, not_false_eq_true, imp_self, implies_true, true_implies, false_implies, and_self, List.length_map, List.length_drop]
      refine hp.fld (by decide) (Nat.le_of_ble_eq_true rfl) fun p' hp' => ?_
      simp only [go_sem, r_block, f0, f1, f5, f6, reduceIte, Nat.reduceEqDiff, Nat.reduceAdd, Nat.reduceMul, Nat.reduceSub, Nat.reduceLT, Nat.reduceLeDiff, Nat.le_refl, Nat.zero_le, Nat.zero_add, Nat.add_zero, Nat.mul_one, splice_zero, Int.toNat_natCast, Int.natCast_nonneg, Int.reduceLE, Int.reduceLT, Int.reduceToNat, Int.reduceEq, Int.cast_ofNat_Int, ne_eq, not_true_eq_false, not_false_eq_true, imp_self, implies_true, true_implies, false_implies, and_self, List.length_map, List.length_drop]
      refine hp'.load1 (by decide) (Nat.le_of_ble_eq_true rfl) ?_
      simp only [go_sem, r_block, f0, f1, f5, f6, g3, reduceIte, Nat.reduceEqDiff, Nat.reduceAdd, Nat.reduceMul, Nat.reduceSub, Nat.reduceLT, Nat.reduceLeDiff, Nat.le_refl, Nat.zero_le, Nat.zero_add, Nat.add_zero, Nat.mul_one, splice_zero, Int.toNat_natCast, Int.natCast_nonneg, Int.reduceLE, Int.reduceLT, Int.reduceToNat, Int.reduceEq, Int.cast_ofNat_Int, ne_eq, not_true_eq_false, not_false_eq_true, imp_self, implies_true, true_implies, false_implies, and_self, List.length_map, List.length_drop]
      refine el fun p hp => ?_
      simp only [go_sem, r_block, f0, f1, f5, f6, reduceIte, Nat.reduceEqDiff, Nat.reduceAdd, Nat.reduceMul, Nat.reduceSub, Nat.reduceLT, Nat.reduceLeDiff, Nat.le_refl, Nat.zero_le, Nat.zero_add, Nat.add_zero, Nat.mul_one, splice_zero, Int.toNat_natCast, Int.natCast_nonneg, Int.reduceLE, Int.reduceLT, Int.reduceToNat, Int.reduceEq, Int.cast_ofNat_Int, ne_eq, not_true_eq_false, not_false_eq_true, imp_self, implies_true, true_implies, false_implies, and_self, List.length_map, List.length_drop]
      refine hp.fld (by decide) (Nat.le_of_ble_eq_true rfl) fun p' hp' => ?_
      simp only [go_sem, r_block, f0, f1, f5, f6, reduceIte, Nat.reduceEqDiff, Nat.reduceAdd, Nat.reduceMul, Nat.reduceSub, Nat.reduceLT, Nat.reduceLeDiff, Nat.le_refl, Nat.zero_le, Nat.zero_add, Nat.add_zero, Nat.mul_one, splice_zero, Int.toNat_natCast, Int.natCast_nonneg, Int.reduceLE, Int.reduceLT, Int.reduceToNat, Int.reduceEq, Int.cast_ofNat_Int, ne_eq, not_true_eq_false, not_false_eq_true, imp_self, implies_true, true_implies, false_implies, and_self, List.length_map, List.length_drop]
      refine hp'.load1 (by decide) (Nat.le_of_ble_eq_true rfl) ?_
      simp only [go_sem, r_block, f0, f1, f5, f6, g0, reduceIte, Nat.reduceEqDiff, Nat.reduceAdd, Nat.reduceMul, Nat.reduceSub, Nat.reduceLT, Nat.reduceLeDiff, Nat.le_refl, Nat.zero_le, Nat.zero_add, Nat.add_zero, Nat.mul_one, splice_zero, Int.toNat_natCast, Int.natCast_nonneg, Int.reduceLE, Int.reduceLT, Int.reduceToNat, Int.reduceEq, Int.cast_ofNat_Int, ne_eq, not_true_eq_false, not_false_eq_true, imp_self, implies_true, true_implies, false_implies, and_self, List.length_map, List.length_drop]
      refine el fun p hp => ?_
      simp only [go_sem, r_block, f0, f1, f5, f6, reduceIte, Nat.reduceEqDiff, Nat.reduceAdd, Nat.reduceMul, Nat.reduceSub, Nat.reduceLT, Nat.reduceLeDiff, Nat.le_refl, Nat.zero_le, Nat.zero_add, Nat.add_zero, Nat.mul_one, splice_zero, Int.toNat_natCast, Int.natCast_nonneg, Int.reduceLE, Int.reduceLT, Int.reduceToNat, Int.reduceEq, Int.cast_ofNat_Int, ne_eq, not_true_eq_false, not_false_eq_true, imp_self, implies_true, true_implies, false_implies, and_self, List.length_map, List.length_drop]
      refine hp.fld (by decide) (Nat.le_of_ble_eq_true rfl) fun p' hp' => ?_
      simp only [go_sem, r_block, f0, f1, f5, f6, reduceIte, Nat.reduceEqDiff, Nat.reduceAdd, Nat.reduceMul, Nat.reduceSub, Nat.reduceLT, Nat.reduceLeDiff, Nat.le_refl, Nat.zero_le, Nat.zero_add, Nat.add_zero, Nat.mul_one, splice_zero, Int.toNat_natCast, Int.natCast_nonneg, Int.reduceLE, Int.reduceLT, Int.reduceToNat, Int.reduceEq, Int.cast_ofNat_Int, ne_eq, not_true_eq_false, not_false_eq_true, imp_self, implies_true, true_implies, false_implies, and_self, List.length_map, List.length_drop]
      refine hp'.load1 (by decide) (Nat.le_of_ble_eq_true rfl) ?_
      simp only [go_sem, r_block, f0, f1, f5, f6, g1, reduceIte, Nat.reduceEqDiff, Nat.reduceAdd, Nat.reduceMul, Nat.reduceSub, Nat.reduceLT, Nat.reduceLeDiff, Nat.le_refl, Nat.zero_le, Nat.zero_add, Nat.add_zero, Nat.mul_one, splice_zero, Int.toNat_natCast, Int.natCast_nonneg, Int.reduceLE, Int.reduceLT, Int.reduceToNat, Int.reduceEq, Int.cast_ofNat_Int, ne_eq, not_true_eq_false, not_false_eq_true, imp_self, implies_true, true_implies, false_implies, and_self, List.length_map, List.length_drop]
      refine el fun p hp => ?_
      simp only [go_sem, r_block, f0, f1, f5, f6, reduceIte, Nat.reduceEqDiff, Nat.reduceAdd, Nat.reduceMul, Nat.reduceSub, Nat.reduceLT, Nat.reduceLeDiff, Nat.le_refl, Nat.zero_le, Nat.zero_add, Nat.add_zero, Nat.mul_one, splice_zero, Int.toNat_natCast, Int.natCast_nonneg, Int.reduceLE, Int.reduceLT, Int.reduceToNat, Int.reduceEq, Int.cast_ofNat_Int, ne_eq, not_true_eq_false, not_false_eq_true, imp_self, implies_true, true_implies, false_implies, and_self, List.length_map, List.length_drop]
      refine hp.fld (by decide) (Nat.le_of_ble_eq_true rfl) fun p' hp' => ?_
      simp only [go_sem, r_block, f0, f1, f5, f6, reduceIte, Nat.reduceEqDiff, Nat.reduceAdd, Nat.reduceMul, Nat.reduceSub, Nat.reduceLT, Nat.reduceLeDiff, Nat.le_refl, Nat.zero_le, Nat.zero_add, Nat.add_zero, Nat.mul_one, splice_zero, Int.toNat_natCast, Int.natCast_nonneg, Int.reduceLE, Int.reduceLT, Int.reduceToNat, Int.reduceEq, Int.cast_ofNat_Int, ne_eq, not_true_eq_false, not_false_eq_true, imp_self, implies_true, true_implies, false_implies, and_self, List.length_map, List.length_drop]
      refine hp'.load1 (by decide) (Nat.le_of_ble_eq_true rfl) ?_
      simp only [go_sem, r_block, f0, f1, f5, f6, g2, reduceIte, Nat.reduceEqDiff, Nat.reduceAdd, Nat.reduceMul, Nat.reduceSub, Nat.reduceLT, Nat.reduceLeDiff, Nat.le_refl, Nat.zero_le, Nat.zero_add, Nat.add_zero, Nat.mul_one, splice_zero, Int.toNat_natCast, Int.natCast_nonneg, Int.reduceLE, Int.reduceLT, Int.reduceToNat, Int.reduceEq, Int.cast_ofNat_Int, ne_eq, not_true_eq_false, not_false_eq_true, imp_self, implies_true, true_implies, false_implies, and_self, List.length_map, List.length_drop]
      refine ⟨fun m fr σ' => ∃ (k : Nat) (v5 : Int), m = l[j].args.length - k ∧ k ≤ l[j].args.length ∧ σ' = σ ∧ fr 0 = lv ∧ fr 1 = int n ∧ fr 5 = int v5 ∧ fr 6 = int j ∧ fr 7 = int k, ⟨_, 0, _, rfl, by omega, rfl, f0, f1, rfl, f6, rfl⟩, ?_⟩
      clear hp hp' k2 f0 f1 f5 f6
      rintro m fr σ ⟨k, v5, rfl, hk, rfl, f0, f1, f5, f6, f7⟩
      have hla := hx l[j] (List.getElem_mem _)
      simp only [go_sem, r_block, f0, f1, f5, f6, f7, reduceIte, Nat.reduceEqDiff, Nat.reduceAdd, Nat.reduceMul, Nat.reduceSub, Nat.reduceLT, Nat.reduceLeDiff, Nat.le_refl, Nat.zero_le, Nat.zero_add, Nat.add_zero, Nat.mul_one, splice_zero, Int.toNat_natCast, Int.natCast_nonneg, Int.reduceLE, Int.reduceLT, Int.reduceToNat, Int.reduceEq, Int.cast_ofNat_Int, ne_eq, not_true_eq_false, not_false_eq_true, imp_self, implies_true, true_implies, false_implies, and_self, List.length_map, List.length_drop]
      refine el fun p hp => ?_
      simp only [go_sem, r_block, f0, f1, f5, f6, f7, reduceIte, Nat.reduceEqDiff, Nat.reduceAdd, Nat.reduceMul, Nat.reduceSub, Nat.reduceLT, Nat.reduceLeDiff, Nat.le_refl, Nat.zero_le, Nat.zero_add, Nat.add_zero, Nat.mul_one, splice_zero, Int.toNat_natCast, Int.natCast_nonneg, Int.reduceLE, Int.reduceLT, Int.reduceToNat, Int.reduceEq, Int.cast_ofNat_Int, ne_eq, not_true_eq_false, not_false_eq_true, imp_self, implies_true, true_implies, false_implies, and_self, List.length_map, List.length_drop]
      refine hp.fld (by decide) (Nat.le_of_ble_eq_true rfl) fun p' hp' => ?_
      simp only [go_sem, r_block, f0, f1, f5, f6, f7, reduceIte, Nat.reduceEqDiff, Nat.reduceAdd, Nat.reduceMul, Nat.reduceSub, Nat.reduceLT, Nat.reduceLeDiff, Nat.le_refl, Nat.zero_le, Nat.zero_add, Nat.add_zero, Nat.mul_one, splice_zero, Int.toNat_natCast, Int.natCast_nonneg, Int.reduceLE, Int.reduceLT, Int.reduceToNat, Int.reduceEq, Int.cast_ofNat_Int, ne_eq, not_true_eq_false, not_false_eq_true, imp_self, implies_true, true_implies, false_implies, and_self, List.length_map, List.length_drop]
      refine hp'.load1 (by decide) (Nat.le_of_ble_eq_true rfl) ?_
      simp only [go_sem, r_block, f0, f1, f5, f6, f7, g3, reduceIte, Nat.reduceEqDiff, Nat.reduceAdd, Nat.reduceMul, Nat.reduceSub, Nat.reduceLT, Nat.reduceLeDiff, Nat.le_refl, Nat.zero_le, Nat.zero_add, Nat.add_zero, Nat.mul_one, splice_zero, Int.toNat_natCast, Int.natCast_nonneg, Int.reduceLE, Int.reduceLT, Int.reduceToNat, Int.reduceEq, Int.cast_ofNat_Int, ne_eq, not_true_eq_false, not_false_eq_true, imp_self, implies_true, true_implies, false_implies, and_self, List.length_map, List.length_drop]
      refine aIf_by (fun k3 => ?_) (fun k3 => ?_)
      · simp only [go_sem, r_block, f0, f1, f5, f6, f7, decide_eq_true k3, reduceIte, Nat.reduceEqDiff, Nat.reduceAdd, Nat.reduceMul, Nat.reduceSub, Nat.reduceLT, Nat.reduceLeDiff, Nat.le_refl, Nat.zero_le, Nat.zero_add, Nat.add_zero, Nat.mul_one, splice_zero, Int.toNat_natCast, Int.natCast_nonneg, Int.reduceLE, Int.reduceLT, Int.reduceToNat, Int.reduceEq, Int.cast_ofNat_Int, ne_eq, not_true_eq_false, not_false_eq_true, imp_self, implies_true, true_implies, false_implies, and_self, List.length_map, List.length_drop]
        refine aIf_by (fun k4 => ?_) (fun k4 => ?_)
        · have hka : k < l[j].args.length := by omega
          have eh : (l[j].args.map trmC).getD k [] = trmC l[j].args[k] := by simp [List.getD_eq_getElem?_getD, hka]
          have e3 : (trmC l[j].args[k]).length = 3 := rfl
          have e4 : ((trmC l[j].args[k]).drop 2).length = 1 := rfl
          have e5 : ((trmC l[j].args[k]).drop 2).getD 0 (.v undef) = str l[j].args[k].2.2 := rfl
          simp only [go_sem, r_block, f0, f1, f5, f6, f7, reduceIte, Nat.reduceEqDiff, Nat.reduceAdd, Nat.reduceMul, Nat.reduceSub, Nat.reduceLT, Nat.reduceLeDiff, Nat.le_refl, Nat.zero_le, Nat.zero_add, Nat.add_zero, Nat.mul_one, splice_zero, Int.toNat_natCast, Int.natCast_nonneg, Int.reduceLE, Int.reduceLT, Int.reduceToNat, Int.reduceEq, Int.cast_ofNat_Int, ne_eq, not_true_eq_false, not_false_eq_true, imp_self, implies_true, true_implies, false_implies, and_self, List.length_map, List.length_drop]
          refine el fun p hp => ?_
          simp only [go_sem, r_block, f0, f1, f5, f6, f7, reduceIte, Nat.reduceEqDiff, Nat.reduceAdd, Nat.reduceMul, Nat.reduceSub, Nat.reduceLT, Nat.reduceLeDiff, Nat.le_refl, Nat.zero_le, Nat.zero_add, Nat.add_zero, Nat.mul_one, splice_zero, Int.toNat_natCast, Int.natCast_nonneg, Int.reduceLE, Int.reduceLT, Int.reduceToNat, Int.reduceEq, Int.cast_ofNat_Int, ne_eq, not_true_eq_false, not_false_eq_true, imp_self, implies_true, true_implies, false_implies, and_self, List.length_map, List.length_drop]
          refine hp.fld (by decide) (Nat.le_of_ble_eq_true rfl) fun p' hp' => ?_
          simp only [go_sem, r_block, f0, f1, f5, f6, f7, reduceIte, Nat.reduceEqDiff, Nat.reduceAdd, Nat.reduceMul, Nat.reduceSub, Nat.reduceLT, Nat.reduceLeDiff, Nat.le_refl, Nat.zero_le, Nat.zero_add, Nat.add_zero, Nat.mul_one, splice_zero, Int.toNat_natCast, Int.natCast_nonneg, Int.reduceLE, Int.reduceLT, Int.reduceToNat, Int.reduceEq, Int.cast_ofNat_Int, ne_eq, not_true_eq_false, not_false_eq_true, imp_self, implies_true, true_implies, false_implies, and_self, List.length_map, List.length_drop]
          refine hp'.load1 (by decide) (Nat.le_of_ble_eq_true rfl) ?_
          simp only [go_sem, r_block, f0, f1, f5, f6, f7, g3, eh, e3, e4, e5, k3, reduceIte, Nat.reduceEqDiff, Nat.reduceAdd, Nat.reduceMul, Nat.reduceSub, Nat.reduceLT, Nat.reduceLeDiff, Nat.le_refl, Nat.zero_le, Nat.zero_add, Nat.add_zero, Nat.mul_one, splice_zero, Int.toNat_natCast, Int.natCast_nonneg, Int.reduceLE, Int.reduceLT, Int.reduceToNat, Int.reduceEq, Int.cast_ofNat_Int, ne_eq, not_true_eq_false, not_false_eq_true, imp_self, implies_true, true_implies, false_implies, and_self, List.length_map, List.length_drop]
          rw [next64 (by omega)]
          exact ⟨l[j].args.length - (k + 1), by omega, k + 1, _, rfl, by omega, rfl, rfl⟩
        · simp only [go_sem, r_block, f0, f1, f5, f6, f7, reduceIte, Nat.reduceEqDiff, Nat.reduceAdd, Nat.reduceMul, Nat.reduceSub, Nat.reduceLT, Nat.reduceLeDiff, Nat.le_refl, Nat.zero_le, Nat.zero_add, Nat.add_zero, Nat.mul_one, splice_zero, Int.toNat_natCast, Int.natCast_nonneg, Int.reduceLE, Int.reduceLT, Int.reduceToNat, Int.reduceEq, Int.cast_ofNat_Int, ne_eq, not_true_eq_false, not_false_eq_true, imp_self, implies_true, true_implies, false_implies, and_self, List.length_map, List.length_drop]
          rw [next64 (by omega)]
          exact ⟨l.length - (j + 1), by omega, j + 1, _, rfl, by omega, rfl, rfl⟩
      · simp only [go_sem, r_block, f0, f1, f5, f6, f7, decide_eq_false k3, reduceIte, Nat.reduceEqDiff, Nat.reduceAdd, Nat.reduceMul, Nat.reduceSub, Nat.reduceLT, Nat.reduceLeDiff, Nat.le_refl, Nat.zero_le, Nat.zero_add, Nat.add_zero, Nat.mul_one, splice_zero, Int.toNat_natCast, Int.natCast_nonneg, Int.reduceLE, Int.reduceLT, Int.reduceToNat, Int.reduceEq, Int.cast_ofNat_Int, ne_eq, not_true_eq_false, not_false_eq_true, imp_self, implies_true, true_implies, false_implies, and_self, List.length_map, List.length_drop]
        rw [next64 (by omega)]
        exact ⟨l.length - (j + 1), by omega, j + 1, _, rfl, by omega, rfl, rfl⟩
    · simp only [go_sem, r_block, f0, f1, f5, f6, reduceIte, Nat.reduceEqDiff, Nat.reduceAdd, Nat.reduceMul, Nat.reduceSub, Nat.reduceLT, Nat.reduceLeDiff, Nat.le_refl, Nat.zero_le, Nat.zero_add, Nat.add_zero, Nat.mul_one, splice_zero, Int.toNat_natCast, Int.natCast_nonneg, Int.reduceLE, Int.reduceLT, Int.reduceToNat, Int.reduceEq, Int.cast_ofNat_Int, ne_eq, not_true_eq_false, not_false_eq_true, imp_self, implies_true, true_implies, false_implies, and_self, List.length_map, List.length_drop]
      exact aRet_as (r := int v5) rfl ⟨⟨_, rfl⟩, rfl⟩
  · simp only [go_sem, r_block, f0, f1, f5, f6, decide_eq_false k1, reduceIte, Nat.reduceEqDiff, Nat.reduceAdd, Nat.reduceMul, Nat.reduceSub, Nat.reduceLT, Nat.reduceLeDiff, Nat.le_refl, Nat.zero_le, Nat.zero_add, Nat.add_zero, Nat.mul_one, splice_zero, Int.toNat_natCast, Int.natCast_nonneg, Int.reduceLE, Int.reduceLT, Int.reduceToNat, Int.reduceEq, Int.cast_ofNat_Int, ne_eq, not_true_eq_false, not_false_eq_true, imp_self, implies_true, true_implies, false_implies, and_self, List.length_map, List.length_drop]
    exact aRet_as (r := int v5) rfl ⟨⟨_, rfl⟩, rfl⟩

theorem light_at (l : List Actn) (hx : ∀ a ∈ l, a.2.it.args.length ≤ 4398046510976) (hn : l.length ≤ 4398046510976) : AT Try.prog 21 [.sl 41 (l.map aC)] σ fun v σ' => (∃ b, v = boo b ∧ (b = true → l.length < 200)) ∧ σ' = σ := by
  refine AT.of_body Try.func21 rfl (by decide) (by kernel_rfl) (by kernel_rfl) (Nat.le_of_ble_eq_true rfl) ?_
  simp only [go_sem, reduceIte, Nat.reduceEqDiff, Nat.reduceAdd, Nat.reduceMul, Nat.reduceSub, Nat.reduceLT, Nat.reduceLeDiff, Nat.le_refl, Nat.zero_le, Nat.zero_add, Nat.add_zero, Nat.mul_one, splice_zero, Int.toNat_natCast, Int.natCast_nonneg, Int.reduceLE, Int.reduceLT, Int.reduceToNat, Int.reduceEq, Int.cast_ofNat_Int, ne_eq, not_true_eq_false, not_false_eq_true, imp_self, implies_true, true_implies, false_implies, and_self, List.length_map, List.length_drop]
  refine aMeet (fun fr σ' => ∃ (j : Nat) (lv : AV), j ≤ 200 ∧ fr 0 = .sl 41 (l.map aC) ∧ fr 3 = lv ∧ LAt 4 σ' lv (((l.take j).map fun a => a.2.it).map Itm.fact) ∧ Grow σ σ' lv) ?_ ?_
  · simp only [go_sem, r_block, reduceIte, Nat.reduceEqDiff, Nat.reduceAdd, Nat.reduceMul, Nat.reduceSub, Nat.reduceLT, Nat.reduceLeDiff, Nat.le_refl, Nat.zero_le, Nat.zero_add, Nat.add_zero, Nat.mul_one, splice_zero, Int.toNat_natCast, Int.natCast_nonneg, Int.reduceLE, Int.reduceLT, Int.reduceToNat, Int.reduceEq, Int.cast_ofNat_Int, ne_eq, not_true_eq_false, not_false_eq_true, imp_self, implies_true, true_implies, false_implies, and_self, List.length_map, List.length_drop]
    refine ⟨fun m fr σ' => ∃ (j : Nat) (lv : AV), m = 200 - j ∧ j ≤ l.length ∧ j ≤ 200 ∧ fr 0 = .sl 41 (l.map aC) ∧ fr 3 = lv ∧ fr 4 = int j ∧ LAt 4 σ' lv (((l.take j).map fun a => a.2.it).map Itm.fact) ∧ Grow σ σ' lv, ⟨_, 0, _, rfl, by omega, by omega, rfl, rfl, rfl, .none, .nil⟩, ?_⟩
    rintro m fr σ1 ⟨j, lv, rfl, hj, hj2, f0, f3, f4, hL, hs⟩
    simp only [go_sem, f0, f3, f4, reduceIte, Nat.reduceEqDiff, Nat.reduceAdd, Nat.reduceMul, Nat.reduceSub, Nat.reduceLT, Nat.reduceLeDiff, Nat.le_refl, Nat.zero_le, Nat.zero_add, Nat.add_zero, Nat.mul_one, splice_zero, Int.toNat_natCast, Int.natCast_nonneg, Int.reduceLE, Int.reduceLT, Int.reduceToNat, Int.reduceEq, Int.cast_ofNat_Int, ne_eq, not_true_eq_false, not_false_eq_true, imp_self, implies_true, true_implies, false_implies, and_self, List.length_map, List.length_drop]
    refine aIf_by (fun k1 => ?_) (fun k1 => ?_)
    · simp only [go_sem, f0, f3, f4, decide_eq_true k1, reduceIte, Nat.reduceEqDiff, Nat.reduceAdd, Nat.reduceMul, Nat.reduceSub, Nat.reduceLT, Nat.reduceLeDiff, Nat.le_refl, Nat.zero_le, Nat.zero_add, Nat.add_zero, Nat.mul_one, splice_zero, Int.toNat_natCast, Int.natCast_nonneg, Int.reduceLE, Int.reduceLT, Int.reduceToNat, Int.reduceEq, Int.cast_ofNat_Int, ne_eq, not_true_eq_false, not_false_eq_true, imp_self, implies_true, true_implies, false_implies, and_self, List.length_map, List.length_drop]
      refine aIf_by (fun k2 => ?_) (fun k2 => ?_)
      · have hja : j < l.length := by omega
        have eg : (l.map aC).getD j [] = aC l[j] := by simp [List.getD_eq_getElem?_getD, hja]
        simp only [go_sem, r_block, f0, f3, f4, eg, aC_len, aC_fact, Itm.fact_len, k1, reduceIte, Nat.reduceEqDiff, Nat.reduceAdd, Nat.reduceMul, Nat.reduceSub, Nat.reduceLT, Nat.reduceLeDiff, Nat.le_refl, Nat.zero_le, Nat.zero_add, Nat.add_zero, Nat.mul_one, splice_zero, Int.toNat_natCast, Int.natCast_nonneg, Int.reduceLE, Int.reduceLT, Int.reduceToNat, Int.reduceEq, Int.cast_ofNat_Int, ne_eq, not_true_eq_false, not_false_eq_true, imp_self, implies_true, true_implies, false_implies, and_self, List.length_map, List.length_drop]
        refine ⟨rfl, aApp_by (ys := [l[j].2.it.fact]) rfl (by decide) (by decide) (by decide) (hL.app (by simp; omega) fun lv' σ4 hL4 hs4 => ?_)⟩
        simp only [go_sem, r_block, f0, f3, f4, reduceIte, Nat.reduceEqDiff, Nat.reduceAdd, Nat.reduceMul, Nat.reduceSub, Nat.reduceLT, Nat.reduceLeDiff, Nat.le_refl, Nat.zero_le, Nat.zero_add, Nat.add_zero, Nat.mul_one, splice_zero, Int.toNat_natCast, Int.natCast_nonneg, Int.reduceLE, Int.reduceLT, Int.reduceToNat, Int.reduceEq, Int.cast_ofNat_Int, ne_eq, not_true_eq_false, not_false_eq_true, imp_self, implies_true, true_implies, false_implies, and_self, List.length_map, List.length_drop]
        rw [next64 (by omega)]
        have ht : l.take (j + 1) = l.take j ++ [l[j]] := List.take_succ_eq_append_getElem hja
        exact ⟨200 - (j + 1), by omega, j + 1, lv', rfl, by omega, by omega, rfl, rfl, by rw [ht, List.map_append, List.map_append]; exact hL4, hs.step hs4⟩
      · simp only [go_sem, r_block, f0, f3, f4, reduceIte, Nat.reduceEqDiff, Nat.reduceAdd, Nat.reduceMul, Nat.reduceSub, Nat.reduceLT, Nat.reduceLeDiff, Nat.le_refl, Nat.zero_le, Nat.zero_add, Nat.add_zero, Nat.mul_one, splice_zero, Int.toNat_natCast, Int.natCast_nonneg, Int.reduceLE, Int.reduceLT, Int.reduceToNat, Int.reduceEq, Int.cast_ofNat_Int, ne_eq, not_true_eq_false, not_false_eq_true, imp_self, implies_true, true_implies, false_implies, and_self, List.length_map, List.length_drop]
        exact ⟨j, lv, hj2, rfl, hL, hs⟩
    · simp only [go_sem, r_block, f0, f3, f4, decide_eq_false k1, reduceIte, Nat.reduceEqDiff, Nat.reduceAdd, Nat.reduceMul, Nat.reduceSub, Nat.reduceLT, Nat.reduceLeDiff, Nat.le_refl, Nat.zero_le, Nat.zero_add, Nat.add_zero, Nat.mul_one, splice_zero, Int.toNat_natCast, Int.natCast_nonneg, Int.reduceLE, Int.reduceLT, Int.reduceToNat, Int.reduceEq, Int.cast_ofNat_Int, ne_eq, not_true_eq_false, not_false_eq_true, imp_self, implies_true, true_implies, false_implies, and_self, List.length_map, List.length_drop]
      exact ⟨j, lv, hj2, rfl, hL, hs⟩
  rintro fr σ1 ⟨j, lv, hj, f0, f3, hL, hs⟩
  simp only [go_sem, f0, f3, reduceIte, Nat.reduceEqDiff, Nat.reduceAdd, Nat.reduceMul, Nat.reduceSub, Nat.reduceLT, Nat.reduceLeDiff, Nat.le_refl, Nat.zero_le, Nat.zero_add, Nat.add_zero, Nat.mul_one, splice_zero, Int.toNat_natCast, Int.natCast_nonneg, Int.reduceLE, Int.reduceLT, Int.reduceToNat, Int.reduceEq, Int.cast_ofNat_Int, ne_eq, not_true_eq_false, not_false_eq_true, imp_self, implies_true, true_implies, false_implies, and_self, List.length_map, List.length_drop]
  have hfin : ∀ b : Bool, View σ1 (boo b) σ (boo b) := fun b => view_drop hs.sub
  refine aIf_by (fun k1 => ?_) (fun k1 => ?_)
  · simp only [go_sem, f0, f3, decide_eq_true k1, reduceIte, Nat.reduceEqDiff, Nat.reduceAdd, Nat.reduceMul, Nat.reduceSub, Nat.reduceLT, Nat.reduceLeDiff, Nat.le_refl, Nat.zero_le, Nat.zero_add, Nat.add_zero, Nat.mul_one, splice_zero, Int.toNat_natCast, Int.natCast_nonneg, Int.reduceLE, Int.reduceLT, Int.reduceToNat, Int.reduceEq, Int.cast_ofNat_Int, ne_eq, not_true_eq_false, not_false_eq_true, imp_self, implies_true, true_implies, false_implies, and_self, List.length_map, List.length_drop]
    refine (weigh_at ((l.take j).map fun a => a.2.it) hL (by simp; omega) (fun x hm => ?_) 500).mono ?_
    · obtain ⟨a, ha, rfl⟩ := List.mem_map.1 hm
      exact hx a (List.mem_of_mem_take ha)
    rintro _ σ1 ⟨⟨m, rfl⟩, rfl⟩
    simp only [go_sem, f0, f3, reduceIte, Nat.reduceEqDiff, Nat.reduceAdd, Nat.reduceMul, Nat.reduceSub, Nat.reduceLT, Nat.reduceLeDiff, Nat.le_refl, Nat.zero_le, Nat.zero_add, Nat.add_zero, Nat.mul_one, splice_zero, Int.toNat_natCast, Int.natCast_nonneg, Int.reduceLE, Int.reduceLT, Int.reduceToNat, Int.reduceEq, Int.cast_ofNat_Int, ne_eq, not_true_eq_false, not_false_eq_true, imp_self, implies_true, true_implies, false_implies, and_self, List.length_map, List.length_drop]
    exact aRet_view (r := boo (decide (m ≤ 500))) rfl _ σ (hfin _) ⟨⟨_, rfl, fun _ => by omega⟩, rfl⟩
  · simp only [go_sem, f0, f3, decide_eq_false k1, reduceIte, Nat.reduceEqDiff, Nat.reduceAdd, Nat.reduceMul, Nat.reduceSub, Nat.reduceLT, Nat.reduceLeDiff, Nat.le_refl, Nat.zero_le, Nat.zero_add, Nat.add_zero, Nat.mul_one, splice_zero, Int.toNat_natCast, Int.natCast_nonneg, Int.reduceLE, Int.reduceLT, Int.reduceToNat, Int.reduceEq, Int.cast_ofNat_Int, ne_eq, not_true_eq_false, not_false_eq_true, imp_self, implies_true, true_implies, false_implies, and_self, List.length_map, List.length_drop]
    exact aRet_view (r := boo false) rfl _ σ (hfin _) ⟨⟨_, rfl, fun h => by cases h⟩, rfl⟩
end
end Go.Proofs.Ytpdbmnogfanpmaa
