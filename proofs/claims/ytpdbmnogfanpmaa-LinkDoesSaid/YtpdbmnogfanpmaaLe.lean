/-
  The laws LinkWindows and LinkFull: their walks.
  Conditions: none.
-/
import Derived.Test.YtpdbmnogfanpmaaLd
set_option linter.unusedVariables false
set_option linter.unusedSimpArgs false
namespace Go.Proofs.Ytpdbmnogfanpmaa
open Go Go.Av

section
variable {σ : St} {b m : Nat} {s : Ls}
set_option maxRecDepth 100000

def many (a n : Nat) : List Itm := (List.range' a n).map fun i : Nat => itm (i : Int)
theorem many_succ (a n : Nat) : many a (n + 1) = many a n ++ [itm ((a + n : Nat) : Int)] := by
  simp [many, List.range'_concat]
theorem many_len (a n : Nat) : (many a n).length = n := by simp [many]
theorem many_drop (a n k : Nat) : (many a n).drop k = many (a + k) (n - k) := by
  simp [many, ← List.map_drop, List.drop_range']
theorem many_get (a n i : Nat) (h : i < (many a n).length) : (many a n)[i] = itm ((a + i : Nat) : Int) := by
  simp [many]
theorem many_args {a n : Nat} : ∀ x ∈ many a n, x.args.length ≤ 4398046510976 := by
  intro x hx
  obtain ⟨i, _, rfl⟩ := List.mem_map.1 hx
  exact Nat.zero_le _

def pos (k : Int) (L : Nat) : Nat := ((k.tmod L + L).tmod L).toNat
theorem pos_lt {k : Int} {L : Nat} (hL : 0 < L) : pos k L < L ∧ ((k.tmod L + L).tmod L) = (pos k L : Int) ∧ -(L : Int) < k.tmod L ∧ k.tmod L < L := by
  have hl : (0 : Int) < L := by omega
  have h1 := Int.tmod_lt_of_pos k hl
  have h2 := Int.lt_tmod_of_pos k hl
  have h3 : 0 ≤ k.tmod L + L := by omega
  have h4 := Int.tmod_nonneg (L : Int) h3
  have h5 := Int.tmod_lt_of_pos (k.tmod L + L) hl
  unfold pos
  omega

theorem hear_ack {i A : Nat} (hA : A ≤ i) : Ls.hear ⟨many 0 i, 0, 0, [], false⟩ ⟨0, A, itm0⟩ = (([], 0), ⟨many A (i - A), A, 0, [], false⟩) := by
  unfold Ls.hear
  rw [if_neg (by simp only [many_len]; omega), if_neg (by simp), if_pos rfl]
  unfold Ls.ackd
  simp only
  split
  · rename_i h
    rw [many_drop]
    simp
  · rename_i h
    obtain rfl : A = 0 := by omega
    simp
theorem tick_many {A n : Nat} : Ls.tick ⟨many A n, A, 0, [], false⟩ = (Ls.frames ⟨many A n, A, 0, [], false⟩ 8, ⟨many A n, A, 0, [], false⟩) := by
  unfold Ls.tick
  split
  · rename_i h
    have : n = 0 := by rw [← many_len A n]; simp only at h; rw [h]; rfl
    subst this
    rfl
  · rfl
theorem hear_far {A n : Nat} {k : Int} (hk : A + n < k) : Ls.hear ⟨many A n, A, 0, [], false⟩ ⟨0, k, itm0⟩ = (([], 220), ⟨many A n, A, 0, [], false⟩) := by
  unfold Ls.hear
  rw [if_pos (by simp only [many_len]; omega)]

theorem frame_many {A n j : Nat} (hj : j < min 8 n) : ((Ls.frames ⟨many A n, A, 0, [], false⟩ 8).map Frm.cs).getD j [] = Frm.cs ⟨A + j + 1, 0, itm ((A + j : Nat) : Int)⟩ := by
  have h1 : j < (Ls.frames ⟨many A n, A, 0, [], false⟩ 8).length := by rw [frames_len]; simp only [many_len]; exact hj
  rw [List.getD_eq_getElem?_getD, List.getElem?_map, List.getElem?_eq_getElem h1]
  simp only [Option.map_some, Option.getD_some, Ls.frames, List.getElem_mapIdx, List.getElem_take, many_get]

theorem windows_at (n ack : Int) : AT Try.prog 3 [int n, int ack] (fun _ => none) fun r _ => r = boo true := by
  refine AT.of_body Try.func3 rfl (by decide) (by kernel_rfl) (by kernel_rfl) (Nat.le_of_ble_eq_true rfl) ?_
  simp only [go_sem, reduceIte, Nat.reduceEqDiff, Nat.reduceAdd, Nat.reduceMul, Nat.reduceSub, Nat.reduceLT, Nat.reduceLeDiff, Nat.le_refl, Nat.zero_le, Nat.zero_add, Nat.add_zero, Nat.mul_one, splice_zero, Int.toNat_natCast, Int.natCast_nonneg, Int.reduceLE, Int.reduceLT, Int.reduceToNat, Int.reduceEq, Int.cast_ofNat_Int, ne_eq, not_true_eq_false, not_false_eq_true, imp_self, implies_true, true_implies, false_implies, and_self, List.length_map, List.length_drop]
  refine new_at.mono ?_
  rintro _ σ ⟨b, m, -, -, hn, rfl, hs⟩
  have h0 : LAt' σ b m ⟨many 0 0, 0, 0, [], false⟩ := by rw [hs]; exact ⟨by rw [set_same]; rfl, by rw [set_ne hn.symm, set_same]; rfl⟩
  clear hs
  obtain ⟨p1, p2, p3, p4⟩ := pos_lt (k := n) (L := 30) (by decide)
  simp only [go_sem, reduceIte, Nat.reduceEqDiff, Nat.reduceAdd, Nat.reduceMul, Nat.reduceSub, Nat.reduceLT, Nat.reduceLeDiff, Nat.le_refl, Nat.zero_le, Nat.zero_add, Nat.add_zero, Nat.mul_one, splice_zero, Int.toNat_natCast, Int.natCast_nonneg, Int.reduceLE, Int.reduceLT, Int.reduceToNat, Int.reduceEq, Int.cast_ofNat_Int, ne_eq, not_true_eq_false, not_false_eq_true, imp_self, implies_true, true_implies, false_implies, and_self, List.length_map, List.length_drop]
  replace p2 : (n.tmod 30 + 30).tmod 30 = (pos n 30 : Int) := p2
  replace p3 : -30 < n.tmod 30 := p3
  replace p4 : n.tmod 30 < 30 := p4
  rw [wrap64 (by omega)]
  rw [show (n.tmod 30 + 30).tmod 30 = (pos n 30 : Int) from p2]
  generalize pos n 30 = N at p1
  clear p2
  rw [r_block]
  simp only [go_sem, reduceIte, Nat.reduceEqDiff, Nat.reduceAdd, Nat.reduceMul, Nat.reduceSub, Nat.reduceLT, Nat.reduceLeDiff, Nat.le_refl, Nat.zero_le, Nat.zero_add, Nat.add_zero, Nat.mul_one, splice_zero, Int.toNat_natCast, Int.natCast_nonneg, Int.reduceLE, Int.reduceLT, Int.reduceToNat, Int.reduceEq, Int.cast_ofNat_Int, ne_eq, not_true_eq_false, not_false_eq_true, imp_self, implies_true, true_implies, false_implies, and_self, List.length_map, List.length_drop]
  refine ⟨fun k fr σ' => ∃ i : Nat, k = N - i ∧ i ≤ N ∧ fr 0 = int N ∧ fr 1 = int ack ∧ fr 5 = ptr b ∧ fr 6 = int i ∧ LAt' σ' b m ⟨many 0 i, 0, 0, [], false⟩, ⟨N, 0, rfl, by omega, rfl, rfl, rfl, rfl, h0⟩, ?_⟩
  rintro k fr σ ⟨i, rfl, hi, f0, f1, f5, f6, h⟩
  simp only [go_sem, f0, f1, f5, f6, reduceIte, Nat.reduceEqDiff, Nat.reduceAdd, Nat.reduceMul, Nat.reduceSub, Nat.reduceLT, Nat.reduceLeDiff, Nat.le_refl, Nat.zero_le, Nat.zero_add, Nat.add_zero, Nat.mul_one, splice_zero, Int.toNat_natCast, Int.natCast_nonneg, Int.reduceLE, Int.reduceLT, Int.reduceToNat, Int.reduceEq, Int.cast_ofNat_Int, ne_eq, not_true_eq_false, not_false_eq_true, imp_self, implies_true, true_implies, false_implies, and_self, List.length_map, List.length_drop]
  refine aIf_by (fun hlt => ?_) (fun hlt => ?_)
  · simp only [go_sem, r_block, f0, f1, f5, f6, reduceIte, Nat.reduceEqDiff, Nat.reduceAdd, Nat.reduceMul, Nat.reduceSub, Nat.reduceLT, Nat.reduceLeDiff, Nat.le_refl, Nat.zero_le, Nat.zero_add, Nat.add_zero, Nat.mul_one, splice_zero, Int.toNat_natCast, Int.natCast_nonneg, Int.reduceLE, Int.reduceLT, Int.reduceToNat, Int.reduceEq, Int.cast_ofNat_Int, ne_eq, not_true_eq_false, not_false_eq_true, imp_self, implies_true, true_implies, false_implies, and_self, List.length_map, List.length_drop]
    refine (item_at i).mono ?_
    rintro _ _ ⟨rfl, rfl⟩
    simp only [go_sem, r_block, f0, f1, f5, f6, reduceIte, Nat.reduceEqDiff, Nat.reduceAdd, Nat.reduceMul, Nat.reduceSub, Nat.reduceLT, Nat.reduceLeDiff, Nat.le_refl, Nat.zero_le, Nat.zero_add, Nat.add_zero, Nat.mul_one, splice_zero, Int.toNat_natCast, Int.natCast_nonneg, Int.reduceLE, Int.reduceLT, Int.reduceToNat, Int.reduceEq, Int.cast_ofNat_Int, ne_eq, not_true_eq_false, not_false_eq_true, imp_self, implies_true, true_implies, false_implies, and_self, List.length_map, List.length_drop]
    refine (push_at h.ob (itm i) (Nat.zero_le _) (by rw [many_len]; omega)).mono ?_
    rintro _ σ1 ⟨rfl, hs⟩
    have hp : (Ls.push ⟨many 0 i, 0, 0, [], false⟩ (itm i)) = (0, ⟨many 0 (i + 1), 0, 0, [], false⟩) := by
      unfold Ls.push
      rw [if_pos (by rw [itm_kind]; decide), if_neg (by rw [many_len]; omega), many_succ, Nat.zero_add]
    rw [hp] at hs ⊢
    simp only [go_sem, r_block, f0, f1, f5, f6, reduceIte, Nat.reduceEqDiff, Nat.reduceAdd, Nat.reduceMul, Nat.reduceSub, Nat.reduceLT, Nat.reduceLeDiff, Nat.le_refl, Nat.zero_le, Nat.zero_add, Nat.add_zero, Nat.mul_one, splice_zero, Int.toNat_natCast, Int.natCast_nonneg, Int.reduceLE, Int.reduceLT, Int.reduceToNat, Int.reduceEq, Int.cast_ofNat_Int, ne_eq, not_true_eq_false, not_false_eq_true, imp_self, implies_true, true_implies, false_implies, and_self, List.length_map, List.length_drop]
    rw [next64 (by omega)]
    exact ⟨N - (i + 1), by omega, i + 1, rfl, by omega, rfl, by rw [hs]; exact h.set rfl⟩
  · obtain rfl : i = N := by omega
    simp only [go_sem, f0, f1, f5, f6, reduceIte, Nat.reduceEqDiff, Nat.reduceAdd, Nat.reduceMul, Nat.reduceSub, Nat.reduceLT, Nat.reduceLeDiff, Nat.le_refl, Nat.zero_le, Nat.zero_add, Nat.add_zero, Nat.mul_one, splice_zero, Int.toNat_natCast, Int.natCast_nonneg, Int.reduceLE, Int.reduceLT, Int.reduceToNat, Int.reduceEq, Int.cast_ofNat_Int, ne_eq, not_true_eq_false, not_false_eq_true, imp_self, implies_true, true_implies, false_implies, and_self, List.length_map, List.length_drop]
    obtain ⟨q1, q2, q3, q4⟩ := pos_lt (k := ack) (L := i + 1) (by omega)
    rw [next64 (by omega), wrap64 (x := ack.tmod _ + _) (by omega), wrap64 (by omega)]
    rw [show ack.tmod ((i + 1 : Nat) : Int) + i + 1 = ack.tmod ((i + 1 : Nat) : Int) + ((i + 1 : Nat) : Int) by omega, q2]
    generalize pos ack (i + 1) = A at q1
    clear q2 q3 q4
    refine ⟨by omega, by omega, (AT.weak (hear_at h ⟨0, A, itm0⟩ (by simp) (Nat.zero_le _) (by simp) (by simp) (by rw [many_len]; omega) (Nat.zero_le _)) (zframe _)).mono ?_⟩
    rintro _ σ1 ⟨rfl, hs⟩
    rw [hear_ack (by omega)] at hs ⊢
    have h1 : LAt' σ1 b m ⟨many A (i - A), A, 0, [], false⟩ := by rw [hs]; exact h.set2
    clear hs h h0
    simp only [go_sem, f0, f1, f5, f6, reduceIte, Nat.reduceEqDiff, Nat.reduceAdd, Nat.reduceMul, Nat.reduceSub, Nat.reduceLT, Nat.reduceLeDiff, Nat.le_refl, Nat.zero_le, Nat.zero_add, Nat.add_zero, Nat.mul_one, splice_zero, Int.toNat_natCast, Int.natCast_nonneg, Int.reduceLE, Int.reduceLT, Int.reduceToNat, Int.reduceEq, Int.cast_ofNat_Int, ne_eq, not_true_eq_false, not_false_eq_true, imp_self, implies_true, true_implies, false_implies, and_self, List.length_map, List.length_drop]
    refine (tick_at h1.ob many_args (by simp; omega) (by rw [many_len]; omega)).mono ?_
    rintro _ σ2 ⟨rfl, hs⟩
    rw [tick_many] at hs ⊢
    have h2 : LAt' σ2 b m ⟨many A (i - A), A, 0, [], false⟩ := by rw [hs]; exact h1.set rfl
    clear hs h1
    have hfl : (Ls.frames ⟨many A (i - A), A, 0, [], false⟩ 8).length = min 8 (i - A) := by rw [frames_len]; simp only [many_len]
    simp only [go_sem, f0, f1, f5, f6, hfl, reduceIte, Nat.reduceEqDiff, Nat.reduceAdd, Nat.reduceMul, Nat.reduceSub, Nat.reduceLT, Nat.reduceLeDiff, Nat.le_refl, Nat.zero_le, Nat.zero_add, Nat.add_zero, Nat.mul_one, splice_zero, Int.toNat_natCast, Int.natCast_nonneg, Int.reduceLE, Int.reduceLT, Int.reduceToNat, Int.reduceEq, Int.cast_ofNat_Int, ne_eq, not_true_eq_false, not_false_eq_true, imp_self, implies_true, true_implies, false_implies, and_self, List.length_map, List.length_drop]
    rw [wrap64 (by omega), show decide (((min 8 (i - A) : Nat) : Int) = min ((i : Int) - A) 8) = true by simp only [decide_eq_true_eq]; omega]
    simp only [go_sem, f0, f1, f5, f6, hfl, reduceIte, Nat.reduceEqDiff, Nat.reduceAdd, Nat.reduceMul, Nat.reduceSub, Nat.reduceLT, Nat.reduceLeDiff, Nat.le_refl, Nat.zero_le, Nat.zero_add, Nat.add_zero, Nat.mul_one, splice_zero, Int.toNat_natCast, Int.natCast_nonneg, Int.reduceLE, Int.reduceLT, Int.reduceToNat, Int.reduceEq, Int.cast_ofNat_Int, ne_eq, not_true_eq_false, not_false_eq_true, imp_self, implies_true, true_implies, false_implies, and_self, List.length_map, List.length_drop]
    refine (waiting_at h2.ob).mono ?_
    rintro _ σ3 ⟨rfl, rfl⟩
    simp only [go_sem, f0, f1, f5, f6, hfl, many_len, reduceIte, Nat.reduceEqDiff, Nat.reduceAdd, Nat.reduceMul, Nat.reduceSub, Nat.reduceLT, Nat.reduceLeDiff, Nat.le_refl, Nat.zero_le, Nat.zero_add, Nat.add_zero, Nat.mul_one, splice_zero, Int.toNat_natCast, Int.natCast_nonneg, Int.reduceLE, Int.reduceLT, Int.reduceToNat, Int.reduceEq, Int.cast_ofNat_Int, ne_eq, not_true_eq_false, not_false_eq_true, imp_self, implies_true, true_implies, false_implies, and_self, List.length_map, List.length_drop]
    rw [wrap64 (by omega), show decide (((i - A : Nat) : Int) = (i : Int) - A) = true by simp only [decide_eq_true_eq]; omega]
    simp only [go_sem, f0, f1, f5, f6, hfl, many_len, reduceIte, Nat.reduceEqDiff, Nat.reduceAdd, Nat.reduceMul, Nat.reduceSub, Nat.reduceLT, Nat.reduceLeDiff, Nat.le_refl, Nat.zero_le, Nat.zero_add, Nat.add_zero, Nat.mul_one, splice_zero, Int.toNat_natCast, Int.natCast_nonneg, Int.reduceLE, Int.reduceLT, Int.reduceToNat, Int.reduceEq, Int.cast_ofNat_Int, ne_eq, not_true_eq_false, not_false_eq_true, imp_self, implies_true, true_implies, false_implies, and_self, List.length_map, List.length_drop]
    rw [r_block]
    simp only [go_sem, reduceIte, Nat.reduceEqDiff, Nat.reduceAdd, Nat.reduceMul, Nat.reduceSub, Nat.reduceLT, Nat.reduceLeDiff, Nat.le_refl, Nat.zero_le, Nat.zero_add, Nat.add_zero, Nat.mul_one, splice_zero, Int.toNat_natCast, Int.natCast_nonneg, Int.reduceLE, Int.reduceLT, Int.reduceToNat, Int.reduceEq, Int.cast_ofNat_Int, ne_eq, not_true_eq_false, not_false_eq_true, imp_self, implies_true, true_implies, false_implies, and_self, List.length_map, List.length_drop]
    refine ⟨fun k fr σ' => ∃ j : Nat, k = min 8 (i - A) - j ∧ j ≤ min 8 (i - A) ∧ fr 0 = int i ∧ fr 1 = int A ∧ fr 5 = ptr b ∧ fr 9 = .sl 40 ((Ls.frames ⟨many A (i - A), A, 0, [], false⟩ 8).map Frm.cs) ∧ fr 10 = int j ∧ LAt' σ' b m ⟨many A (i - A), A, 0, [], false⟩, ⟨min 8 (i - A), 0, rfl, by omega, f0, rfl, f5, rfl, rfl, h2⟩, ?_⟩
    clear f0 f1 f5 f6 h2
    rintro k fr σ3 ⟨j, rfl, hj, f0, f1, f5, f9, f10, h2⟩
    simp only [go_sem, f0, f1, f5, f9, f10, hfl, reduceIte, Nat.reduceEqDiff, Nat.reduceAdd, Nat.reduceMul, Nat.reduceSub, Nat.reduceLT, Nat.reduceLeDiff, Nat.le_refl, Nat.zero_le, Nat.zero_add, Nat.add_zero, Nat.mul_one, splice_zero, Int.toNat_natCast, Int.natCast_nonneg, Int.reduceLE, Int.reduceLT, Int.reduceToNat, Int.reduceEq, Int.cast_ofNat_Int, ne_eq, not_true_eq_false, not_false_eq_true, imp_self, implies_true, true_implies, false_implies, and_self, List.length_map, List.length_drop]
    refine aIf_by (fun hlt => ?_) (fun hlt => ?_)
    · have hj' : j < min 8 (i - A) := by omega
      simp only [go_sem, r_block, f0, f1, f5, f9, f10, hfl, frame_many hj', Frm.len, Frm.at0, reduceIte, Nat.reduceEqDiff, Nat.reduceAdd, Nat.reduceMul, Nat.reduceSub, Nat.reduceLT, Nat.reduceLeDiff, Nat.le_refl, Nat.zero_le, Nat.zero_add, Nat.add_zero, Nat.mul_one, splice_zero, Int.toNat_natCast, Int.natCast_nonneg, Int.reduceLE, Int.reduceLT, Int.reduceToNat, Int.reduceEq, Int.cast_ofNat_Int, ne_eq, not_true_eq_false, not_false_eq_true, imp_self, implies_true, true_implies, false_implies, and_self, List.length_map, List.length_drop]
      refine ⟨by omega, ?_⟩
      rw [wrap64 (x := (A : Int) + j) (by omega), wrap64 (by omega)]
      simp only [go_sem, r_block, f0, f1, f5, f9, f10, hfl, frame_many hj', Frm.len, Frm.dr21, reduceIte, Nat.reduceEqDiff, Nat.reduceAdd, Nat.reduceMul, Nat.reduceSub, Nat.reduceLT, Nat.reduceLeDiff, Nat.le_refl, Nat.zero_le, Nat.zero_add, Nat.add_zero, Nat.mul_one, splice_zero, Int.toNat_natCast, Int.natCast_nonneg, Int.reduceLE, Int.reduceLT, Int.reduceToNat, Int.reduceEq, Int.cast_ofNat_Int, ne_eq, not_true_eq_false, not_false_eq_true, imp_self, implies_true, true_implies, false_implies, and_self, List.length_map, List.length_drop]
      refine ⟨hlt, ?_⟩
      rw [wrap64 (by omega), show decide ((itm ((A + j : Nat) : Int)).ep = (A : Int) + j) = true by rw [itm_ep]; simp only [decide_eq_true_eq]; omega]
      simp only [go_sem, r_block, f0, f1, f5, f9, f10, reduceIte, Nat.reduceEqDiff, Nat.reduceAdd, Nat.reduceMul, Nat.reduceSub, Nat.reduceLT, Nat.reduceLeDiff, Nat.le_refl, Nat.zero_le, Nat.zero_add, Nat.add_zero, Nat.mul_one, splice_zero, Int.toNat_natCast, Int.natCast_nonneg, Int.reduceLE, Int.reduceLT, Int.reduceToNat, Int.reduceEq, Int.cast_ofNat_Int, ne_eq, not_true_eq_false, not_false_eq_true, imp_self, implies_true, true_implies, false_implies, and_self, List.length_map, List.length_drop]
      rw [next64 (by omega)]
      exact ⟨min 8 (i - A) - (j + 1), by omega, j + 1, rfl, by omega, rfl, h2⟩
    · simp only [go_sem, f0, f1, f5, f9, f10, hfl, reduceIte, Nat.reduceEqDiff, Nat.reduceAdd, Nat.reduceMul, Nat.reduceSub, Nat.reduceLT, Nat.reduceLeDiff, Nat.le_refl, Nat.zero_le, Nat.zero_add, Nat.add_zero, Nat.mul_one, splice_zero, Int.toNat_natCast, Int.natCast_nonneg, Int.reduceLE, Int.reduceLT, Int.reduceToNat, Int.reduceEq, Int.cast_ofNat_Int, ne_eq, not_true_eq_false, not_false_eq_true, imp_self, implies_true, true_implies, false_implies, and_self, List.length_map, List.length_drop]
      rw [wrap64 (x := (i : Int) + 1) (by omega)]
      refine (AT.weak (hear_at h2 ⟨0, (i : Int) + 1, itm0⟩ (by simp) (Nat.zero_le _) (by simp; omega) (by simp) (by rw [many_len]; omega) (Nat.zero_le _)) (zframe _)).mono ?_
      rintro _ σ4 ⟨rfl, hs⟩
      rw [hear_far (by omega)] at hs ⊢
      have h3 : LAt' σ4 b m ⟨many A (i - A), A, 0, [], false⟩ := by rw [hs]; exact h2.set2
      clear hs h2
      simp only [go_sem, f0, f1, f5, f9, f10, hfl, reduceIte, Nat.reduceEqDiff, Nat.reduceAdd, Nat.reduceMul, Nat.reduceSub, Nat.reduceLT, Nat.reduceLeDiff, Nat.le_refl, Nat.zero_le, Nat.zero_add, Nat.add_zero, Nat.mul_one, splice_zero, Int.toNat_natCast, Int.natCast_nonneg, Int.reduceLE, Int.reduceLT, Int.reduceToNat, Int.reduceEq, Int.cast_ofNat_Int, ne_eq, not_true_eq_false, not_false_eq_true, imp_self, implies_true, true_implies, false_implies, and_self, List.length_map, List.length_drop]
      refine (waiting_at h3.ob).mono ?_
      rintro _ σ5 ⟨rfl, rfl⟩
      simp only [go_sem, f0, f1, f5, f9, f10, hfl, many_len, reduceIte, Nat.reduceEqDiff, Nat.reduceAdd, Nat.reduceMul, Nat.reduceSub, Nat.reduceLT, Nat.reduceLeDiff, Nat.le_refl, Nat.zero_le, Nat.zero_add, Nat.add_zero, Nat.mul_one, splice_zero, Int.toNat_natCast, Int.natCast_nonneg, Int.reduceLE, Int.reduceLT, Int.reduceToNat, Int.reduceEq, Int.cast_ofNat_Int, ne_eq, not_true_eq_false, not_false_eq_true, imp_self, implies_true, true_implies, false_implies, and_self, List.length_map, List.length_drop]
      rw [wrap64 (by omega), show decide (((i - A : Nat) : Int) = (i : Int) - A) = true by simp only [decide_eq_true_eq]; omega]
      simp only [go_sem, f0, f1, f5, f9, f10, hfl, reduceIte, Nat.reduceEqDiff, Nat.reduceAdd, Nat.reduceMul, Nat.reduceSub, Nat.reduceLT, Nat.reduceLeDiff, Nat.le_refl, Nat.zero_le, Nat.zero_add, Nat.add_zero, Nat.mul_one, splice_zero, Int.toNat_natCast, Int.natCast_nonneg, Int.reduceLE, Int.reduceLT, Int.reduceToNat, Int.reduceEq, Int.cast_ofNat_Int, ne_eq, not_true_eq_false, not_false_eq_true, imp_self, implies_true, true_implies, false_implies, and_self, List.length_map, List.length_drop]
      refine live_at.mono ?_
      rintro _ σ6 ⟨rfl, rfl⟩
      simp only [go_sem, f0, reduceIte, Nat.reduceEqDiff, Nat.reduceAdd, Nat.reduceMul, Nat.reduceSub, Nat.reduceLT, Nat.reduceLeDiff, Nat.le_refl, Nat.zero_le, Nat.zero_add, Nat.add_zero, Nat.mul_one, splice_zero, Int.toNat_natCast, Int.natCast_nonneg, Int.reduceLE, Int.reduceLT, Int.reduceToNat, Int.reduceEq, Int.cast_ofNat_Int, ne_eq, not_true_eq_false, not_false_eq_true, imp_self, implies_true, true_implies, false_implies, and_self, List.length_map, List.length_drop]
      exact aRet_as (r := boo true) rfl rfl

theorem full_at (ack : Int) : AT Try.prog 4 [int ack] (fun _ => none) fun r _ => r = boo true := by
  refine AT.of_body Try.func4 rfl (by decide) (by kernel_rfl) (by kernel_rfl) (Nat.le_of_ble_eq_true rfl) ?_
  simp only [go_sem, reduceIte, Nat.reduceEqDiff, Nat.reduceAdd, Nat.reduceMul, Nat.reduceSub, Nat.reduceLT, Nat.reduceLeDiff, Nat.le_refl, Nat.zero_le, Nat.zero_add, Nat.add_zero, Nat.mul_one, splice_zero, Int.toNat_natCast, Int.natCast_nonneg, Int.reduceLE, Int.reduceLT, Int.reduceToNat, Int.reduceEq, Int.cast_ofNat_Int, ne_eq, not_true_eq_false, not_false_eq_true, imp_self, implies_true, true_implies, false_implies, and_self, List.length_map, List.length_drop]
  refine new_at.mono ?_
  rintro _ σ ⟨b, m, -, -, hn, rfl, hs⟩
  have h0 : LAt' σ b m ⟨many 0 0, 0, 0, [], false⟩ := by rw [hs]; exact ⟨by rw [set_same]; rfl, by rw [set_ne hn.symm, set_same]; rfl⟩
  clear hs
  simp only [go_sem, reduceIte, Nat.reduceEqDiff, Nat.reduceAdd, Nat.reduceMul, Nat.reduceSub, Nat.reduceLT, Nat.reduceLeDiff, Nat.le_refl, Nat.zero_le, Nat.zero_add, Nat.add_zero, Nat.mul_one, splice_zero, Int.toNat_natCast, Int.natCast_nonneg, Int.reduceLE, Int.reduceLT, Int.reduceToNat, Int.reduceEq, Int.cast_ofNat_Int, ne_eq, not_true_eq_false, not_false_eq_true, imp_self, implies_true, true_implies, false_implies, and_self, List.length_map, List.length_drop]
  rw [r_block]
  simp only [go_sem, reduceIte, Nat.reduceEqDiff, Nat.reduceAdd, Nat.reduceMul, Nat.reduceSub, Nat.reduceLT, Nat.reduceLeDiff, Nat.le_refl, Nat.zero_le, Nat.zero_add, Nat.add_zero, Nat.mul_one, splice_zero, Int.toNat_natCast, Int.natCast_nonneg, Int.reduceLE, Int.reduceLT, Int.reduceToNat, Int.reduceEq, Int.cast_ofNat_Int, ne_eq, not_true_eq_false, not_false_eq_true, imp_self, implies_true, true_implies, false_implies, and_self, List.length_map, List.length_drop]
  refine ⟨fun k fr σ' => ∃ i : Nat, k = 1024 - i ∧ i ≤ 1024 ∧ fr 0 = int ack ∧ fr 3 = ptr b ∧ fr 4 = int i ∧ LAt' σ' b m ⟨many 0 i, 0, 0, [], false⟩, ⟨1024, 0, rfl, by omega, rfl, rfl, rfl, h0⟩, ?_⟩
  rintro k fr σ ⟨i, rfl, hi, f0, f3, f4, h⟩
  simp only [go_sem, f0, f3, f4, reduceIte, Nat.reduceEqDiff, Nat.reduceAdd, Nat.reduceMul, Nat.reduceSub, Nat.reduceLT, Nat.reduceLeDiff, Nat.le_refl, Nat.zero_le, Nat.zero_add, Nat.add_zero, Nat.mul_one, splice_zero, Int.toNat_natCast, Int.natCast_nonneg, Int.reduceLE, Int.reduceLT, Int.reduceToNat, Int.reduceEq, Int.cast_ofNat_Int, ne_eq, not_true_eq_false, not_false_eq_true, imp_self, implies_true, true_implies, false_implies, and_self, List.length_map, List.length_drop]
  refine aIf_by (fun hlt => ?_) (fun hlt => ?_)
  · simp only [go_sem, r_block, f0, f3, f4, reduceIte, Nat.reduceEqDiff, Nat.reduceAdd, Nat.reduceMul, Nat.reduceSub, Nat.reduceLT, Nat.reduceLeDiff, Nat.le_refl, Nat.zero_le, Nat.zero_add, Nat.add_zero, Nat.mul_one, splice_zero, Int.toNat_natCast, Int.natCast_nonneg, Int.reduceLE, Int.reduceLT, Int.reduceToNat, Int.reduceEq, Int.cast_ofNat_Int, ne_eq, not_true_eq_false, not_false_eq_true, imp_self, implies_true, true_implies, false_implies, and_self, List.length_map, List.length_drop]
    refine (item_at i).mono ?_
    rintro _ _ ⟨rfl, rfl⟩
    simp only [go_sem, r_block, f0, f3, f4, reduceIte, Nat.reduceEqDiff, Nat.reduceAdd, Nat.reduceMul, Nat.reduceSub, Nat.reduceLT, Nat.reduceLeDiff, Nat.le_refl, Nat.zero_le, Nat.zero_add, Nat.add_zero, Nat.mul_one, splice_zero, Int.toNat_natCast, Int.natCast_nonneg, Int.reduceLE, Int.reduceLT, Int.reduceToNat, Int.reduceEq, Int.cast_ofNat_Int, ne_eq, not_true_eq_false, not_false_eq_true, imp_self, implies_true, true_implies, false_implies, and_self, List.length_map, List.length_drop]
    refine (push_at h.ob (itm i) (Nat.zero_le _) (by rw [many_len]; omega)).mono ?_
    rintro _ σ1 ⟨rfl, hs⟩
    have hp : (Ls.push ⟨many 0 i, 0, 0, [], false⟩ (itm i)) = (0, ⟨many 0 (i + 1), 0, 0, [], false⟩) := by
      unfold Ls.push
      rw [if_pos (by rw [itm_kind]; decide), if_neg (by rw [many_len]; omega), many_succ, Nat.zero_add]
    rw [hp] at hs ⊢
    simp only [go_sem, r_block, f0, f3, f4, reduceIte, Nat.reduceEqDiff, Nat.reduceAdd, Nat.reduceMul, Nat.reduceSub, Nat.reduceLT, Nat.reduceLeDiff, Nat.le_refl, Nat.zero_le, Nat.zero_add, Nat.add_zero, Nat.mul_one, splice_zero, Int.toNat_natCast, Int.natCast_nonneg, Int.reduceLE, Int.reduceLT, Int.reduceToNat, Int.reduceEq, Int.cast_ofNat_Int, ne_eq, not_true_eq_false, not_false_eq_true, imp_self, implies_true, true_implies, false_implies, and_self, List.length_map, List.length_drop]
    rw [next64 (by omega)]
    exact ⟨1024 - (i + 1), by omega, i + 1, rfl, by omega, rfl, by rw [hs]; exact h.set rfl⟩
  · obtain rfl : i = 1024 := by omega
    clear hlt hi
    simp only [go_sem, f0, f3, f4, reduceIte, Nat.reduceEqDiff, Nat.reduceAdd, Nat.reduceMul, Nat.reduceSub, Nat.reduceLT, Nat.reduceLeDiff, Nat.le_refl, Nat.zero_le, Nat.zero_add, Nat.add_zero, Nat.mul_one, splice_zero, Int.toNat_natCast, Int.natCast_nonneg, Int.reduceLE, Int.reduceLT, Int.reduceToNat, Int.reduceEq, Int.cast_ofNat_Int, ne_eq, not_true_eq_false, not_false_eq_true, imp_self, implies_true, true_implies, false_implies, and_self, List.length_map, List.length_drop]
    refine (item_at 0).mono ?_
    rintro _ _ ⟨rfl, rfl⟩
    simp only [go_sem, f0, f3, f4, reduceIte, Nat.reduceEqDiff, Nat.reduceAdd, Nat.reduceMul, Nat.reduceSub, Nat.reduceLT, Nat.reduceLeDiff, Nat.le_refl, Nat.zero_le, Nat.zero_add, Nat.add_zero, Nat.mul_one, splice_zero, Int.toNat_natCast, Int.natCast_nonneg, Int.reduceLE, Int.reduceLT, Int.reduceToNat, Int.reduceEq, Int.cast_ofNat_Int, ne_eq, not_true_eq_false, not_false_eq_true, imp_self, implies_true, true_implies, false_implies, and_self, List.length_map, List.length_drop]
    refine (push_at h.ob (itm 0) (Nat.zero_le _) (by rw [many_len]; omega)).mono ?_
    rintro _ σ1 ⟨rfl, hs⟩
    have hp : (Ls.push ⟨many 0 1024, 0, 0, [], false⟩ (itm 0)) = (150, ⟨many 0 1024, 0, 0, [], false⟩) := by
      unfold Ls.push
      rw [if_pos (by rw [itm_kind]; decide), if_pos (by rw [many_len]; omega)]
    rw [hp] at hs ⊢
    have h1 : LAt' σ1 b m ⟨many 0 1024, 0, 0, [], false⟩ := by rw [hs]; exact h.set rfl
    clear hs h
    obtain ⟨p1, p2, p3, p4⟩ := pos_lt (k := ack) (L := 9) (by decide)
    replace p2 : (ack.tmod 9 + 9).tmod 9 = (pos ack 9 : Int) := p2
    replace p3 : -9 < ack.tmod 9 := p3
    replace p4 : ack.tmod 9 < 9 := p4
    simp only [go_sem, f0, f3, f4, reduceIte, Nat.reduceEqDiff, Nat.reduceAdd, Nat.reduceMul, Nat.reduceSub, Nat.reduceLT, Nat.reduceLeDiff, Nat.le_refl, Nat.zero_le, Nat.zero_add, Nat.add_zero, Nat.mul_one, splice_zero, Int.toNat_natCast, Int.natCast_nonneg, Int.reduceLE, Int.reduceLT, Int.reduceToNat, Int.reduceEq, Int.cast_ofNat_Int, ne_eq, not_true_eq_false, not_false_eq_true, imp_self, implies_true, true_implies, false_implies, and_self, List.length_map, List.length_drop]
    rw [wrap64 (by omega), p2]
    generalize pos ack 9 = A at p1
    clear p2 p3 p4
    refine (AT.weak (hear_at h1 ⟨0, A, itm0⟩ (by simp) (Nat.zero_le _) (by simp) (by simp) (by rw [many_len]; omega) (Nat.zero_le _)) (zframe _)).mono ?_
    rintro _ σ2 ⟨rfl, hs⟩
    rw [hear_ack (by omega)] at hs ⊢
    have h2 : LAt' σ2 b m ⟨many A (1024 - A), A, 0, [], false⟩ := by rw [hs]; exact h1.set2
    clear hs h1
    simp only [go_sem, f0, f3, f4, reduceIte, Nat.reduceEqDiff, Nat.reduceAdd, Nat.reduceMul, Nat.reduceSub, Nat.reduceLT, Nat.reduceLeDiff, Nat.le_refl, Nat.zero_le, Nat.zero_add, Nat.add_zero, Nat.mul_one, splice_zero, Int.toNat_natCast, Int.natCast_nonneg, Int.reduceLE, Int.reduceLT, Int.reduceToNat, Int.reduceEq, Int.cast_ofNat_Int, ne_eq, not_true_eq_false, not_false_eq_true, imp_self, implies_true, true_implies, false_implies, and_self, List.length_map, List.length_drop]
    rw [r_block]
    simp only [go_sem, reduceIte, Nat.reduceEqDiff, Nat.reduceAdd, Nat.reduceMul, Nat.reduceSub, Nat.reduceLT, Nat.reduceLeDiff, Nat.le_refl, Nat.zero_le, Nat.zero_add, Nat.add_zero, Nat.mul_one, splice_zero, Int.toNat_natCast, Int.natCast_nonneg, Int.reduceLE, Int.reduceLT, Int.reduceToNat, Int.reduceEq, Int.cast_ofNat_Int, ne_eq, not_true_eq_false, not_false_eq_true, imp_self, implies_true, true_implies, false_implies, and_self, List.length_map, List.length_drop]
    refine ⟨fun k fr σ' => ∃ (j : Nat) (l : List Itm), k = A - j ∧ j ≤ A ∧ l.length = 1024 - A + j ∧ fr 0 = int A ∧ fr 3 = ptr b ∧ fr 5 = int 150 ∧ fr 7 = int 0 ∧ fr 8 = int j ∧ LAt' σ' b m ⟨l, A, 0, [], false⟩, ⟨A, 0, _, rfl, by omega, by rw [many_len]; rfl, rfl, f3, rfl, rfl, rfl, h2⟩, ?_⟩
    clear f0 f3 f4 h2
    rintro k fr σ3 ⟨j, l, rfl, hj, hl, f0, f3, f5, f7, f8, h⟩
    simp only [go_sem, f0, f3, f5, f7, f8, reduceIte, Nat.reduceEqDiff, Nat.reduceAdd, Nat.reduceMul, Nat.reduceSub, Nat.reduceLT, Nat.reduceLeDiff, Nat.le_refl, Nat.zero_le, Nat.zero_add, Nat.add_zero, Nat.mul_one, splice_zero, Int.toNat_natCast, Int.natCast_nonneg, Int.reduceLE, Int.reduceLT, Int.reduceToNat, Int.reduceEq, Int.cast_ofNat_Int, ne_eq, not_true_eq_false, not_false_eq_true, imp_self, implies_true, true_implies, false_implies, and_self, List.length_map, List.length_drop]
    refine aIf_by (fun hlt => ?_) (fun hlt => ?_)
    · simp only [go_sem, r_block, f0, f3, f5, f7, f8, reduceIte, Nat.reduceEqDiff, Nat.reduceAdd, Nat.reduceMul, Nat.reduceSub, Nat.reduceLT, Nat.reduceLeDiff, Nat.le_refl, Nat.zero_le, Nat.zero_add, Nat.add_zero, Nat.mul_one, splice_zero, Int.toNat_natCast, Int.natCast_nonneg, Int.reduceLE, Int.reduceLT, Int.reduceToNat, Int.reduceEq, Int.cast_ofNat_Int, ne_eq, not_true_eq_false, not_false_eq_true, imp_self, implies_true, true_implies, false_implies, and_self, List.length_map, List.length_drop]
      refine (item_at 0).mono ?_
      rintro _ _ ⟨rfl, rfl⟩
      simp only [go_sem, r_block, f0, f3, f5, f7, f8, reduceIte, Nat.reduceEqDiff, Nat.reduceAdd, Nat.reduceMul, Nat.reduceSub, Nat.reduceLT, Nat.reduceLeDiff, Nat.le_refl, Nat.zero_le, Nat.zero_add, Nat.add_zero, Nat.mul_one, splice_zero, Int.toNat_natCast, Int.natCast_nonneg, Int.reduceLE, Int.reduceLT, Int.reduceToNat, Int.reduceEq, Int.cast_ofNat_Int, ne_eq, not_true_eq_false, not_false_eq_true, imp_self, implies_true, true_implies, false_implies, and_self, List.length_map, List.length_drop]
      refine (push_at h.ob (itm 0) (Nat.zero_le _) (by simp only; omega)).mono ?_
      rintro _ σ4 ⟨rfl, hs⟩
      have hp : (Ls.push ⟨l, A, 0, [], false⟩ (itm 0)) = (0, ⟨l ++ [itm 0], A, 0, [], false⟩) := by
        unfold Ls.push
        rw [if_pos (by rw [itm_kind]; decide), if_neg (by simp only; omega)]
      rw [hp] at hs ⊢
      simp only [go_sem, r_block, f0, f3, f5, f7, f8, reduceIte, Nat.reduceEqDiff, Nat.reduceAdd, Nat.reduceMul, Nat.reduceSub, Nat.reduceLT, Nat.reduceLeDiff, Nat.le_refl, Nat.zero_le, Nat.zero_add, Nat.add_zero, Nat.mul_one, splice_zero, Int.toNat_natCast, Int.natCast_nonneg, Int.reduceLE, Int.reduceLT, Int.reduceToNat, Int.reduceEq, Int.cast_ofNat_Int, ne_eq, not_true_eq_false, not_false_eq_true, imp_self, implies_true, true_implies, false_implies, and_self, List.length_map, List.length_drop]
      rw [next64 (by omega)]
      exact ⟨A - (j + 1), by omega, j + 1, l ++ [itm 0], rfl, by omega, by simp; omega, rfl, by rw [hs]; exact h.set rfl⟩
    · obtain rfl : j = A := by omega
      simp only [go_sem, f0, f3, f5, f7, f8, reduceIte, Nat.reduceEqDiff, Nat.reduceAdd, Nat.reduceMul, Nat.reduceSub, Nat.reduceLT, Nat.reduceLeDiff, Nat.le_refl, Nat.zero_le, Nat.zero_add, Nat.add_zero, Nat.mul_one, splice_zero, Int.toNat_natCast, Int.natCast_nonneg, Int.reduceLE, Int.reduceLT, Int.reduceToNat, Int.reduceEq, Int.cast_ofNat_Int, ne_eq, not_true_eq_false, not_false_eq_true, imp_self, implies_true, true_implies, false_implies, and_self, List.length_map, List.length_drop]
      refine (item_at 0).mono ?_
      rintro _ _ ⟨rfl, rfl⟩
      simp only [go_sem, f0, f3, f5, f7, f8, reduceIte, Nat.reduceEqDiff, Nat.reduceAdd, Nat.reduceMul, Nat.reduceSub, Nat.reduceLT, Nat.reduceLeDiff, Nat.le_refl, Nat.zero_le, Nat.zero_add, Nat.add_zero, Nat.mul_one, splice_zero, Int.toNat_natCast, Int.natCast_nonneg, Int.reduceLE, Int.reduceLT, Int.reduceToNat, Int.reduceEq, Int.cast_ofNat_Int, ne_eq, not_true_eq_false, not_false_eq_true, imp_self, implies_true, true_implies, false_implies, and_self, List.length_map, List.length_drop]
      refine (push_at h.ob (itm 0) (Nat.zero_le _) (by simp only; omega)).mono ?_
      rintro _ σ4 ⟨rfl, hs⟩
      have hp : (Ls.push ⟨l, j, 0, [], false⟩ (itm 0)) = (150, ⟨l, j, 0, [], false⟩) := by
        unfold Ls.push
        rw [if_pos (by rw [itm_kind]; decide), if_pos (by simp only; omega)]
      rw [hp] at hs ⊢
      have h3 : LAt' σ4 b m ⟨l, j, 0, [], false⟩ := by rw [hs]; exact h.set rfl
      clear hs h
      simp only [go_sem, f0, f3, f5, f7, f8, reduceIte, Nat.reduceEqDiff, Nat.reduceAdd, Nat.reduceMul, Nat.reduceSub, Nat.reduceLT, Nat.reduceLeDiff, Nat.le_refl, Nat.zero_le, Nat.zero_add, Nat.add_zero, Nat.mul_one, splice_zero, Int.toNat_natCast, Int.natCast_nonneg, Int.reduceLE, Int.reduceLT, Int.reduceToNat, Int.reduceEq, Int.cast_ofNat_Int, ne_eq, not_true_eq_false, not_false_eq_true, imp_self, implies_true, true_implies, false_implies, and_self, List.length_map, List.length_drop]
      refine (waiting_at h3.ob).mono ?_
      rintro _ σ5 ⟨rfl, rfl⟩
      simp only [go_sem, f0, f3, f5, f7, f8, reduceIte, Nat.reduceEqDiff, Nat.reduceAdd, Nat.reduceMul, Nat.reduceSub, Nat.reduceLT, Nat.reduceLeDiff, Nat.le_refl, Nat.zero_le, Nat.zero_add, Nat.add_zero, Nat.mul_one, splice_zero, Int.toNat_natCast, Int.natCast_nonneg, Int.reduceLE, Int.reduceLT, Int.reduceToNat, Int.reduceEq, Int.cast_ofNat_Int, ne_eq, not_true_eq_false, not_false_eq_true, imp_self, implies_true, true_implies, false_implies, and_self, List.length_map, List.length_drop]
      rw [show decide ((l.length : Int) = 1024) = true by simp only [decide_eq_true_eq]; omega]
      simp only [go_sem, f0, f3, f5, f7, f8, reduceIte, Nat.reduceEqDiff, Nat.reduceAdd, Nat.reduceMul, Nat.reduceSub, Nat.reduceLT, Nat.reduceLeDiff, Nat.le_refl, Nat.zero_le, Nat.zero_add, Nat.add_zero, Nat.mul_one, splice_zero, Int.toNat_natCast, Int.natCast_nonneg, Int.reduceLE, Int.reduceLT, Int.reduceToNat, Int.reduceEq, Int.cast_ofNat_Int, ne_eq, not_true_eq_false, not_false_eq_true, imp_self, implies_true, true_implies, false_implies, and_self, List.length_map, List.length_drop]
      refine live_at.mono ?_
      rintro _ σ6 ⟨rfl, rfl⟩
      simp only [go_sem, f0, reduceIte, Nat.reduceEqDiff, Nat.reduceAdd, Nat.reduceMul, Nat.reduceSub, Nat.reduceLT, Nat.reduceLeDiff, Nat.le_refl, Nat.zero_le, Nat.zero_add, Nat.add_zero, Nat.mul_one, splice_zero, Int.toNat_natCast, Int.natCast_nonneg, Int.reduceLE, Int.reduceLT, Int.reduceToNat, Int.reduceEq, Int.cast_ofNat_Int, ne_eq, not_true_eq_false, not_false_eq_true, imp_self, implies_true, true_implies, false_implies, and_self, List.length_map, List.length_drop]
      exact aRet_as (r := boo true) rfl rfl
end
end Go.Proofs.Ytpdbmnogfanpmaa
