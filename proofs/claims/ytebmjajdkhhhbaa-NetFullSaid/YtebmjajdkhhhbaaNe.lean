/-
  NetFull: the walk.
  Conditions: none.
-/
import Derived.Test.YtebmjajdkhhhbaaNd
set_option linter.unusedVariables false
set_option linter.unusedSimpArgs false
namespace Go.Proofs.Ytebmjajdkhhhbaa
open Go Go.Av

def mm (i : Nat) : List Msg := (List.range i).map fun (j : Nat) => ⟨(j : Int) + 1, a97, []⟩
theorem mm_len (i : Nat) : (mm i).length = i := by simp [mm]
theorem mm_succ (i : Nat) : mm (i + 1) = mm i ++ [⟨(i : Int) + 1, a97, []⟩] := by simp [mm, List.range_succ]
theorem mm_send {i : Nat} (hi : i < 4096) : Ns.send ⟨mm i, i⟩ a97 [] = (((i : Int) + 1, 0), ⟨mm (i + 1), i + 1⟩) := by
  unfold Ns.send Ns.put
  rw [if_neg (by simp), if_neg (by rw [mm_len]; omega), mm_succ]

section
variable {σ σ' : St} {p : Nat} {s : Ns}
set_option maxRecDepth 100000
set_option maxHeartbeats 1000000

theorem full_at : AT Try.prog 4 [] (fun _ => none) fun r _ => r = boo true := by
  refine AT.of_body Try.func4 rfl (by decide) (by kernel_rfl) (by kernel_rfl) (Nat.le_of_ble_eq_true rfl) ?_
  simp only [go_sem, reduceIte, Nat.reduceEqDiff, Nat.reduceAdd, Nat.reduceMul, Nat.reduceSub, Nat.reduceLT, Nat.reduceLeDiff, Nat.le_refl, Nat.zero_le, Nat.zero_add, Nat.add_zero, Nat.mul_one, splice_zero, Int.toNat_natCast, Int.natCast_nonneg, Int.reduceLE, Int.reduceLT, Int.reduceToNat, Int.reduceEq, Int.cast_ofNat_Int, ne_eq, not_true_eq_false, not_false_eq_true, imp_self, implies_true, true_implies, false_implies, and_self, List.length_map, List.length_drop]
  refine new_at.mono ?_
  rintro _ σ0 ⟨p, hp, rfl, hσ0⟩
  have h0 : σ0 p = some (Ns.O ⟨mm 0, 0⟩) := by rw [hσ0, set_same]; rfl
  clear hσ0 hp
  simp only [go_sem, r_block, reduceIte, Nat.reduceEqDiff, Nat.reduceAdd, Nat.reduceMul, Nat.reduceSub, Nat.reduceLT, Nat.reduceLeDiff, Nat.le_refl, Nat.zero_le, Nat.zero_add, Nat.add_zero, Nat.mul_one, splice_zero, Int.toNat_natCast, Int.natCast_nonneg, Int.reduceLE, Int.reduceLT, Int.reduceToNat, Int.reduceEq, Int.cast_ofNat_Int, ne_eq, not_true_eq_false, not_false_eq_true, imp_self, implies_true, true_implies, false_implies, and_self, List.length_map, List.length_drop]
  refine ⟨fun k fr σ' => ∃ i : Nat, k = 4096 - i ∧ i ≤ 4096 ∧ fr 1 = ptr p ∧ fr 2 = int i ∧ σ' p = some (Ns.O ⟨mm i, i⟩) ∧ Ns.Ok ⟨mm i, i⟩, ⟨_, 0, rfl, by omega, rfl, rfl, h0, ok0⟩, ?_⟩
  clear h0
  rintro k fr σ1 ⟨i, rfl, hi, f1, f2, h1, hok⟩
  simp only [go_sem, r_block, f1, f2, reduceIte, Nat.reduceEqDiff, Nat.reduceAdd, Nat.reduceMul, Nat.reduceSub, Nat.reduceLT, Nat.reduceLeDiff, Nat.le_refl, Nat.zero_le, Nat.zero_add, Nat.add_zero, Nat.mul_one, splice_zero, Int.toNat_natCast, Int.natCast_nonneg, Int.reduceLE, Int.reduceLT, Int.reduceToNat, Int.reduceEq, Int.cast_ofNat_Int, ne_eq, not_true_eq_false, not_false_eq_true, imp_self, implies_true, true_implies, false_implies, and_self, List.length_map, List.length_drop]
  refine aIf_by (fun k1 => ?_) (fun k1 => ?_)
  · simp only [go_sem, r_block, f1, f2, reduceIte, Nat.reduceEqDiff, Nat.reduceAdd, Nat.reduceMul, Nat.reduceSub, Nat.reduceLT, Nat.reduceLeDiff, Nat.le_refl, Nat.zero_le, Nat.zero_add, Nat.add_zero, Nat.mul_one, splice_zero, Int.toNat_natCast, Int.natCast_nonneg, Int.reduceLE, Int.reduceLT, Int.reduceToNat, Int.reduceEq, Int.cast_ofNat_Int, ne_eq, not_true_eq_false, not_false_eq_true, imp_self, implies_true, true_implies, false_implies, and_self, List.length_map, List.length_drop]
    refine (send_at h1 hok a97 (b := []) (.inr .none)).mono ?_
    rintro _ σ2 ⟨rfl, rfl⟩
    rw [mm_send (by omega)]
    have hok2 := hok.send a97 [] (by simp only []; omega)
    rw [mm_send (by omega)] at hok2
    simp only [go_sem, r_block, f1, f2, reduceIte, Nat.reduceEqDiff, Nat.reduceAdd, Nat.reduceMul, Nat.reduceSub, Nat.reduceLT, Nat.reduceLeDiff, Nat.le_refl, Nat.zero_le, Nat.zero_add, Nat.add_zero, Nat.mul_one, splice_zero, Int.toNat_natCast, Int.natCast_nonneg, Int.reduceLE, Int.reduceLT, Int.reduceToNat, Int.reduceEq, Int.cast_ofNat_Int, ne_eq, not_true_eq_false, not_false_eq_true, imp_self, implies_true, true_implies, false_implies, and_self, List.length_map, List.length_drop]
    rw [next64 (by omega)]
    exact ⟨4096 - (i + 1), by omega, i + 1, rfl, by omega, rfl, rfl, hok2⟩
  · obtain rfl : i = 4096 := by omega
    have e1 : Ns.send ⟨mm 4096, 4096⟩ a97 [] = ((0, 150), ⟨mm 4096, 4096⟩) := by
      unfold Ns.send Ns.put
      rw [if_neg (by simp), if_pos (by rw [mm_len]; exact Nat.le_refl _)]
    have e0 : mm 4096 = ⟨1, a97, []⟩ :: (mm 4096).tail := by
      have : mm 4096 ≠ [] := by intro e; have := congrArg List.length e; rw [mm_len] at this; simp at this
      obtain ⟨x, l, hl⟩ := List.exists_cons_of_ne_nil this
      have hx : (mm 4096)[0]? = some ⟨1, a97, []⟩ := by simp [mm]
      rw [hl] at hx ⊢
      simp at hx
      rw [hx]; rfl
    have hf : nFind 1 (mm 4096) = some ⟨1, a97, []⟩ := by rw [e0]; rfl
    have hd : nDel 1 (mm 4096) = (mm 4096).tail := by rw [e0]; rfl
    have htl : (mm 4096).tail.length = 4095 := by simp [mm_len]
    have e2 : Ns.double ⟨mm 4096, 4096⟩ 1 = ((0, 150), ⟨mm 4096, 4096⟩) := by
      unfold Ns.double
      simp only [hf]
      unfold Ns.put
      rw [if_pos (by rw [mm_len]; exact Nat.le_refl _)]
    have e3 : Ns.take ⟨mm 4096, 4096⟩ 1 = ((⟨1, a97, []⟩, 0), ⟨(mm 4096).tail, 4096⟩) := by
      unfold Ns.take
      simp only [hf, hd]
    have e4 : Ns.send ⟨(mm 4096).tail, 4096⟩ a97 [] = ((4097, 0), ⟨(mm 4096).tail ++ [⟨4097, a97, []⟩], 4097⟩) := by
      unfold Ns.send Ns.put
      rw [if_neg (by simp), if_neg (by rw [htl]; decide)]
      rfl
    have hok3 := hok.take 1
    rw [e3] at hok3
    generalize mm 4096 = l at h1 hok e1 e2 e3 e4 htl hok3
    simp only [go_sem, r_block, f1, f2, reduceIte, Nat.reduceEqDiff, Nat.reduceAdd, Nat.reduceMul, Nat.reduceSub, Nat.reduceLT, Nat.reduceLeDiff, Nat.le_refl, Nat.zero_le, Nat.zero_add, Nat.add_zero, Nat.mul_one, splice_zero, Int.toNat_natCast, Int.natCast_nonneg, Int.reduceLE, Int.reduceLT, Int.reduceToNat, Int.reduceEq, Int.cast_ofNat_Int, ne_eq, not_true_eq_false, not_false_eq_true, imp_self, implies_true, true_implies, false_implies, and_self, List.length_map, List.length_drop]
    refine (send_at h1 hok a97 (b := []) (.inr .none)).mono ?_
    rintro _ _ ⟨rfl, rfl⟩
    rw [e1, set_id h1]
    simp only [go_sem, r_block, f1, f2, reduceIte, Nat.reduceEqDiff, Nat.reduceAdd, Nat.reduceMul, Nat.reduceSub, Nat.reduceLT, Nat.reduceLeDiff, Nat.le_refl, Nat.zero_le, Nat.zero_add, Nat.add_zero, Nat.mul_one, splice_zero, Int.toNat_natCast, Int.natCast_nonneg, Int.reduceLE, Int.reduceLT, Int.reduceToNat, Int.reduceEq, Int.cast_ofNat_Int, ne_eq, not_true_eq_false, not_false_eq_true, imp_self, implies_true, true_implies, false_implies, and_self, List.length_map, List.length_drop]
    refine (double_at h1 hok 1).mono ?_
    rintro _ _ ⟨rfl, rfl⟩
    rw [e2, set_id h1]
    simp only [go_sem, r_block, f1, f2, reduceIte, Nat.reduceEqDiff, Nat.reduceAdd, Nat.reduceMul, Nat.reduceSub, Nat.reduceLT, Nat.reduceLeDiff, Nat.le_refl, Nat.zero_le, Nat.zero_add, Nat.add_zero, Nat.mul_one, splice_zero, Int.toNat_natCast, Int.natCast_nonneg, Int.reduceLE, Int.reduceLT, Int.reduceToNat, Int.reduceEq, Int.cast_ofNat_Int, ne_eq, not_true_eq_false, not_false_eq_true, imp_self, implies_true, true_implies, false_implies, and_self, List.length_map, List.length_drop]
    refine (drop_at h1 hok 1).mono ?_
    rintro _ _ ⟨rfl, rfl⟩
    rw [e3]
    simp only [go_sem, r_block, f1, f2, reduceIte, Nat.reduceEqDiff, Nat.reduceAdd, Nat.reduceMul, Nat.reduceSub, Nat.reduceLT, Nat.reduceLeDiff, Nat.le_refl, Nat.zero_le, Nat.zero_add, Nat.add_zero, Nat.mul_one, splice_zero, Int.toNat_natCast, Int.natCast_nonneg, Int.reduceLE, Int.reduceLT, Int.reduceToNat, Int.reduceEq, Int.cast_ofNat_Int, ne_eq, not_true_eq_false, not_false_eq_true, imp_self, implies_true, true_implies, false_implies, and_self, List.length_map, List.length_drop]
    refine (send_at set_same hok3 a97 (b := []) (.inr .none)).mono ?_
    rintro _ _ ⟨rfl, rfl⟩
    rw [e4, set_set]
    simp only [go_sem, r_block, f1, f2, reduceIte, Nat.reduceEqDiff, Nat.reduceAdd, Nat.reduceMul, Nat.reduceSub, Nat.reduceLT, Nat.reduceLeDiff, Nat.le_refl, Nat.zero_le, Nat.zero_add, Nat.add_zero, Nat.mul_one, splice_zero, Int.toNat_natCast, Int.natCast_nonneg, Int.reduceLE, Int.reduceLT, Int.reduceToNat, Int.reduceEq, Int.cast_ofNat_Int, ne_eq, not_true_eq_false, not_false_eq_true, imp_self, implies_true, true_implies, false_implies, and_self, List.length_map, List.length_drop]
    refine (len_at set_same).mono ?_
    rintro _ _ ⟨rfl, rfl⟩
    have e5 : (l.tail ++ [(⟨4097, a97, []⟩ : Msg)]).length = 4096 := by simp only [List.length_append, htl]; rfl
    simp only [go_sem, r_block, e5, reduceIte, Nat.reduceEqDiff, Nat.reduceAdd, Nat.reduceMul, Nat.reduceSub, Nat.reduceLT, Nat.reduceLeDiff, Nat.le_refl, Nat.zero_le, Nat.zero_add, Nat.add_zero, Nat.mul_one, splice_zero, Int.toNat_natCast, Int.natCast_nonneg, Int.reduceLE, Int.reduceLT, Int.reduceToNat, Int.reduceEq, Int.cast_ofNat_Int, ne_eq, not_true_eq_false, not_false_eq_true, imp_self, implies_true, true_implies, false_implies, and_self, List.length_map, List.length_drop]
    refine live_at.mono ?_
    rintro _ _ ⟨rfl, rfl⟩
    simp only [go_sem, r_block, reduceIte, Nat.reduceEqDiff, Nat.reduceAdd, Nat.reduceMul, Nat.reduceSub, Nat.reduceLT, Nat.reduceLeDiff, Nat.le_refl, Nat.zero_le, Nat.zero_add, Nat.add_zero, Nat.mul_one, splice_zero, Int.toNat_natCast, Int.natCast_nonneg, Int.reduceLE, Int.reduceLT, Int.reduceToNat, Int.reduceEq, Int.cast_ofNat_Int, ne_eq, not_true_eq_false, not_false_eq_true, imp_self, implies_true, true_implies, false_implies, and_self, List.length_map, List.length_drop]
    exact aRet_as (r := boo true) rfl rfl
end
end Go.Proofs.Ytebmjajdkhhhbaa
