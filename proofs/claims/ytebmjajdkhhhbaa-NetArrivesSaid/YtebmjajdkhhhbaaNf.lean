/-
  NetArrives: the walk.
  Conditions: none.
-/
import Derived.Test.YtebmjajdkhhhbaaNd
set_option linter.unusedVariables false
set_option linter.unusedSimpArgs false
namespace Go.Proofs.Ytebmjajdkhhhbaa
open Go Go.Av

/-- So many of the same, from number a on. -/
def cp (to : ByteArray) (b : Byt) (a i : Nat) : List Msg := (List.range' a i).map fun (j : Nat) => ⟨(j : Int), to, b⟩
theorem cp_len (to : ByteArray) (b : Byt) (a i : Nat) : (cp to b a i).length = i := by simp [cp]
theorem cp_succ (to : ByteArray) (b : Byt) (a i : Nat) : cp to b a (i + 1) = cp to b a i ++ [⟨((a + i : Nat) : Int), to, b⟩] := by
  simp [cp, List.range'_concat]
theorem cp_find (to : ByteArray) (b : Byt) (j : Nat) : ∀ (i a : Nat), a ≤ j → j < a + i → nFind j (cp to b a i) = some ⟨j, to, b⟩
  | 0, a, h1, h2 => by omega
  | i + 1, a, h1, h2 => by
    simp only [cp, List.range'_succ, List.map_cons, nFind]
    split
    · rename_i h; have : a = j := by omega
      subst this; rfl
    · rename_i h
      exact cp_find to b j i (a + 1) (by omega) (by omega)
theorem cp_del (to : ByteArray) (b : Byt) : ∀ (i a : Nat), nDel ((a + i : Nat) : Int) (cp to b a (i + 1)) = cp to b a i
  | 0, a => by simp [cp, nDel]
  | i + 1, a => by
    have ih := cp_del to b i (a + 1)
    rw [show a + 1 + i = a + (i + 1) by omega] at ih
    simp only [cp, List.range'_succ (n := i + 1), List.map_cons, nDel] at ih ⊢
    rw [if_neg (by omega)]
    simp only [List.range'_succ (s := a) (n := i), List.map_cons]
    rw [← ih]
theorem cp_double {to : ByteArray} {b : Byt} {i : Nat} (hi : 0 < i) (hi2 : i < 4096) : Ns.double ⟨cp to b 1 i, i⟩ (i : Int) = (((i : Int) + 1, 0), ⟨cp to b 1 (i + 1), i + 1⟩) := by
  unfold Ns.double
  simp only [cp_find to b i i 1 (by omega) (by omega)]
  unfold Ns.put
  rw [if_neg (by rw [cp_len]; omega), cp_succ]
  simp [Int.add_comm]
theorem cp_take {to : ByteArray} {b : Byt} {i last : Nat} : Ns.take ⟨cp to b 1 (i + 1), last⟩ ((i + 1 : Nat) : Int) = ((⟨((i + 1 : Nat) : Int), to, b⟩, 0), ⟨cp to b 1 i, last⟩) := by
  unfold Ns.take
  simp only [cp_find to b (i + 1) (i + 1) 1 (by omega) (by omega)]
  have := cp_del to b i 1
  rw [Nat.add_comm 1 i] at this
  rw [this]

section
variable {σ σ' : St} {p : Nat} {s : Ns}
set_option maxRecDepth 100000
set_option maxHeartbeats 1000000

theorem arrives_at (to : ByteArray) (b : Byt) (d : Int) (hto : to.size ≤ 140737488351232) (hb : b.length ≤ 140737488351232) : AT Try.prog 3 [str to, .sl 1 (byC b), int d] (fun _ => none) fun r _ => r = boo true := by
  refine AT.of_body Try.func3 rfl (by decide) (by kernel_rfl) (by kernel_rfl) (Nat.le_of_ble_eq_true rfl) ?_
  simp only [go_sem, byC_len, reduceIte, Nat.reduceEqDiff, Nat.reduceAdd, Nat.reduceMul, Nat.reduceSub, Nat.reduceLT, Nat.reduceLeDiff, Nat.le_refl, Nat.zero_le, Nat.zero_add, Nat.add_zero, Nat.mul_one, splice_zero, Int.toNat_natCast, Int.natCast_nonneg, Int.reduceLE, Int.reduceLT, Int.reduceToNat, Int.reduceEq, Int.cast_ofNat_Int, ne_eq, not_true_eq_false, not_false_eq_true, imp_self, implies_true, true_implies, false_implies, and_self, List.length_map, List.length_drop]
  rw [wrap64 (by omega)]
  refine aIf_by (fun k1 => ?_) (fun k1 => ?_)
  · simp only [go_sem, reduceIte, Nat.reduceEqDiff, Nat.reduceAdd, Nat.reduceMul, Nat.reduceSub, Nat.reduceLT, Nat.reduceLeDiff, Nat.le_refl, Nat.zero_le, Nat.zero_add, Nat.add_zero, Nat.mul_one, splice_zero, Int.toNat_natCast, Int.natCast_nonneg, Int.reduceLE, Int.reduceLT, Int.reduceToNat, Int.reduceEq, Int.cast_ofNat_Int, ne_eq, not_true_eq_false, not_false_eq_true, imp_self, implies_true, true_implies, false_implies, and_self, List.length_map, List.length_drop]
    refine live_at.mono ?_
    rintro _ _ ⟨rfl, rfl⟩
    simp only [go_sem, reduceIte, Nat.reduceEqDiff, Nat.reduceAdd, Nat.reduceMul, Nat.reduceSub, Nat.reduceLT, Nat.reduceLeDiff, Nat.le_refl, Nat.zero_le, Nat.zero_add, Nat.add_zero, Nat.mul_one, splice_zero, Int.toNat_natCast, Int.natCast_nonneg, Int.reduceLE, Int.reduceLT, Int.reduceToNat, Int.reduceEq, Int.cast_ofNat_Int, ne_eq, not_true_eq_false, not_false_eq_true, imp_self, implies_true, true_implies, false_implies, and_self, List.length_map, List.length_drop]
    exact aRet_as (r := boo true) rfl rfl
  simp only [go_sem, reduceIte, Nat.reduceEqDiff, Nat.reduceAdd, Nat.reduceMul, Nat.reduceSub, Nat.reduceLT, Nat.reduceLeDiff, Nat.le_refl, Nat.zero_le, Nat.zero_add, Nat.add_zero, Nat.mul_one, splice_zero, Int.toNat_natCast, Int.natCast_nonneg, Int.reduceLE, Int.reduceLT, Int.reduceToNat, Int.reduceEq, Int.cast_ofNat_Int, ne_eq, not_true_eq_false, not_false_eq_true, imp_self, implies_true, true_implies, false_implies, and_self, List.length_map, List.length_drop]
  refine new_at.mono ?_
  rintro _ σ0 ⟨p, hp, rfl, hσ0⟩
  have h0 : σ0 p = some (Ns.O ⟨[], 0⟩) := by rw [hσ0, set_same]; rfl
  clear hσ0 hp
  simp only [go_sem, reduceIte, Nat.reduceEqDiff, Nat.reduceAdd, Nat.reduceMul, Nat.reduceSub, Nat.reduceLT, Nat.reduceLeDiff, Nat.le_refl, Nat.zero_le, Nat.zero_add, Nat.add_zero, Nat.mul_one, splice_zero, Int.toNat_natCast, Int.natCast_nonneg, Int.reduceLE, Int.reduceLT, Int.reduceToNat, Int.reduceEq, Int.cast_ofNat_Int, ne_eq, not_true_eq_false, not_false_eq_true, imp_self, implies_true, true_implies, false_implies, and_self, List.length_map, List.length_drop]
  refine (send_at h0 ok0 to (b := b) .sl).mono ?_
  rintro _ σ1 ⟨rfl, hσ1⟩
  have es : Ns.send ⟨[], 0⟩ to b = ((1, 0), ⟨cp to b 1 1, 1⟩) := by unfold Ns.send; rw [if_neg (by omega)]; rfl
  have hok1 := ok0.send to b (by decide)
  rw [es] at hσ1 hok1
  rw [es]
  have h1 : σ1 p = some (Ns.O ⟨cp to b 1 1, 1⟩) := by rw [hσ1, set_same]
  clear hσ1 h0
  obtain ⟨D, hD, hDe, hD0, hD1⟩ : ∃ D : Nat, D < 6 ∧ (d.tmod 6 + 6).tmod 6 = (D : Int) ∧ -6 < d.tmod 6 ∧ d.tmod 6 < 6 := by
    have h1 := Int.tmod_lt_of_pos d (show (0 : Int) < 6 by decide)
    have h2 := Int.lt_tmod_of_pos d (show (0 : Int) < 6 by decide)
    have h4 := Int.tmod_nonneg (6 : Int) (show 0 ≤ d.tmod 6 + 6 by omega)
    have h5 := Int.tmod_lt_of_pos (d.tmod 6 + 6) (show (0 : Int) < 6 by decide)
    exact ⟨((d.tmod 6 + 6).tmod 6).toNat, by omega, by omega, by omega, by omega⟩
  have hDw : (IntKind.i64.wrap (d.tmod 6 + 6)).tmod 6 = (D : Int) := by rw [wrap64 (by omega)]; exact hDe
  simp only [go_sem, hDw, reduceIte, Nat.reduceEqDiff, Nat.reduceAdd, Nat.reduceMul, Nat.reduceSub, Nat.reduceLT, Nat.reduceLeDiff, Nat.le_refl, Nat.zero_le, Nat.zero_add, Nat.add_zero, Nat.mul_one, splice_zero, Int.toNat_natCast, Int.natCast_nonneg, Int.reduceLE, Int.reduceLT, Int.reduceToNat, Int.reduceEq, Int.cast_ofNat_Int, ne_eq, not_true_eq_false, not_false_eq_true, imp_self, implies_true, true_implies, false_implies, and_self, List.length_map, List.length_drop]
  refine aMeet (fun fr σ' => fr 0 = str to ∧ fr 1 = .sl 1 (byC b) ∧ fr 2 = int D ∧ fr 7 = ptr p ∧ fr 8 = int 1 ∧ σ' p = some (Ns.O ⟨cp to b 1 (D + 1), D + 1⟩) ∧ Ns.Ok ⟨cp to b 1 (D + 1), D + 1⟩) ?_ ?_
  · simp only [go_sem, r_block, reduceIte, Nat.reduceEqDiff, Nat.reduceAdd, Nat.reduceMul, Nat.reduceSub, Nat.reduceLT, Nat.reduceLeDiff, Nat.le_refl, Nat.zero_le, Nat.zero_add, Nat.add_zero, Nat.mul_one, splice_zero, Int.toNat_natCast, Int.natCast_nonneg, Int.reduceLE, Int.reduceLT, Int.reduceToNat, Int.reduceEq, Int.cast_ofNat_Int, ne_eq, not_true_eq_false, not_false_eq_true, imp_self, implies_true, true_implies, false_implies, and_self, List.length_map, List.length_drop]
    refine ⟨fun k fr σ' => ∃ i : Nat, k = D - i ∧ i ≤ D ∧ fr 0 = str to ∧ fr 1 = .sl 1 (byC b) ∧ fr 2 = int D ∧ fr 7 = ptr p ∧ fr 8 = int 1 ∧ fr 10 = int i ∧ σ' p = some (Ns.O ⟨cp to b 1 (i + 1), i + 1⟩) ∧ Ns.Ok ⟨cp to b 1 (i + 1), i + 1⟩, ⟨_, 0, rfl, by omega, rfl, rfl, hDw ▸ rfl, rfl, rfl, rfl, h1, hok1⟩, ?_⟩
    clear h1 hok1
    rintro k fr σ2 ⟨i, rfl, hi, f0, f1, f2, f7, f8, f10, h2, hok⟩
    simp only [go_sem, f0, f1, f2, f7, f8, f10, reduceIte, Nat.reduceEqDiff, Nat.reduceAdd, Nat.reduceMul, Nat.reduceSub, Nat.reduceLT, Nat.reduceLeDiff, Nat.le_refl, Nat.zero_le, Nat.zero_add, Nat.add_zero, Nat.mul_one, splice_zero, Int.toNat_natCast, Int.natCast_nonneg, Int.reduceLE, Int.reduceLT, Int.reduceToNat, Int.reduceEq, Int.cast_ofNat_Int, ne_eq, not_true_eq_false, not_false_eq_true, imp_self, implies_true, true_implies, false_implies, and_self, List.length_map, List.length_drop]
    refine aIf_by (fun k2 => ?_) (fun k2 => ?_)
    · simp only [go_sem, r_block, f0, f1, f2, f7, f8, f10, reduceIte, Nat.reduceEqDiff, Nat.reduceAdd, Nat.reduceMul, Nat.reduceSub, Nat.reduceLT, Nat.reduceLeDiff, Nat.le_refl, Nat.zero_le, Nat.zero_add, Nat.add_zero, Nat.mul_one, splice_zero, Int.toNat_natCast, Int.natCast_nonneg, Int.reduceLE, Int.reduceLT, Int.reduceToNat, Int.reduceEq, Int.cast_ofNat_Int, ne_eq, not_true_eq_false, not_false_eq_true, imp_self, implies_true, true_implies, false_implies, and_self, List.length_map, List.length_drop]
      rw [show IntKind.i64.wrap (1 + (i : Int)) = ((i + 1 : Nat) : Int) by rw [wrap64 (by omega)]; omega]
      refine (double_at h2 hok _).mono ?_
      rintro _ σ3 ⟨rfl, rfl⟩
      have hok2 := hok.double ((i + 1 : Nat) : Int) (by simp only []; omega)
      rw [cp_double (by omega) (by omega)] at hok2 ⊢
      simp only [go_sem, r_block, f0, f1, f2, f7, f8, f10, reduceIte, Nat.reduceEqDiff, Nat.reduceAdd, Nat.reduceMul, Nat.reduceSub, Nat.reduceLT, Nat.reduceLeDiff, Nat.le_refl, Nat.zero_le, Nat.zero_add, Nat.add_zero, Nat.mul_one, splice_zero, Int.toNat_natCast, Int.natCast_nonneg, Int.reduceLE, Int.reduceLT, Int.reduceToNat, Int.reduceEq, Int.cast_ofNat_Int, ne_eq, not_true_eq_false, not_false_eq_true, imp_self, implies_true, true_implies, false_implies, and_self, List.length_map, List.length_drop]
      rw [next64 (by omega)]
      exact ⟨D - (i + 1), by omega, i + 1, rfl, by omega, rfl, rfl, hok2⟩
    · obtain rfl : i = D := by omega
      simp only [go_sem, r_block, f0, f1, f2, f7, f8, f10, reduceIte, Nat.reduceEqDiff, Nat.reduceAdd, Nat.reduceMul, Nat.reduceSub, Nat.reduceLT, Nat.reduceLeDiff, Nat.le_refl, Nat.zero_le, Nat.zero_add, Nat.add_zero, Nat.mul_one, splice_zero, Int.toNat_natCast, Int.natCast_nonneg, Int.reduceLE, Int.reduceLT, Int.reduceToNat, Int.reduceEq, Int.cast_ofNat_Int, ne_eq, not_true_eq_false, not_false_eq_true, imp_self, implies_true, true_implies, false_implies, and_self, List.length_map, List.length_drop]
      exact ⟨h2, hok⟩
  clear h1 hok1
  rintro fr σ1 ⟨f0, f1, f2, f7, f8, h1, hok⟩
  simp only [go_sem, f0, f1, f2, f7, f8, reduceIte, Nat.reduceEqDiff, Nat.reduceAdd, Nat.reduceMul, Nat.reduceSub, Nat.reduceLT, Nat.reduceLeDiff, Nat.le_refl, Nat.zero_le, Nat.zero_add, Nat.add_zero, Nat.mul_one, splice_zero, Int.toNat_natCast, Int.natCast_nonneg, Int.reduceLE, Int.reduceLT, Int.reduceToNat, Int.reduceEq, Int.cast_ofNat_Int, ne_eq, not_true_eq_false, not_false_eq_true, imp_self, implies_true, true_implies, false_implies, and_self, List.length_map, List.length_drop]
  refine aMeet (fun fr σ' => fr 7 = ptr p ∧ σ' p = some (Ns.O ⟨[], D + 1⟩)) ?_ ?_
  · simp only [go_sem, r_block, reduceIte, Nat.reduceEqDiff, Nat.reduceAdd, Nat.reduceMul, Nat.reduceSub, Nat.reduceLT, Nat.reduceLeDiff, Nat.le_refl, Nat.zero_le, Nat.zero_add, Nat.add_zero, Nat.mul_one, splice_zero, Int.toNat_natCast, Int.natCast_nonneg, Int.reduceLE, Int.reduceLT, Int.reduceToNat, Int.reduceEq, Int.cast_ofNat_Int, ne_eq, not_true_eq_false, not_false_eq_true, imp_self, implies_true, true_implies, false_implies, and_self, List.length_map, List.length_drop]
    refine ⟨fun k fr σ' => ∃ i : Nat, k = D + 1 - i ∧ i ≤ D + 1 ∧ fr 0 = str to ∧ fr 1 = .sl 1 (byC b) ∧ fr 2 = int D ∧ fr 7 = ptr p ∧ fr 8 = int 1 ∧ fr 13 = int i ∧ σ' p = some (Ns.O ⟨cp to b 1 (D + 1 - i), D + 1⟩) ∧ Ns.Ok ⟨cp to b 1 (D + 1 - i), D + 1⟩, ⟨_, 0, rfl, by omega, f0, f1, f2, f7, f8, rfl, h1, hok⟩, ?_⟩
    clear h1 hok f0 f1 f2 f7 f8
    rintro k fr σ2 ⟨i, rfl, hi, f0, f1, f2, f7, f8, f13, h2, hok⟩
    simp only [go_sem, f0, f1, f2, f7, f8, f13, reduceIte, Nat.reduceEqDiff, Nat.reduceAdd, Nat.reduceMul, Nat.reduceSub, Nat.reduceLT, Nat.reduceLeDiff, Nat.le_refl, Nat.zero_le, Nat.zero_add, Nat.add_zero, Nat.mul_one, splice_zero, Int.toNat_natCast, Int.natCast_nonneg, Int.reduceLE, Int.reduceLT, Int.reduceToNat, Int.reduceEq, Int.cast_ofNat_Int, ne_eq, not_true_eq_false, not_false_eq_true, imp_self, implies_true, true_implies, false_implies, and_self, List.length_map, List.length_drop]
    refine aIf_by (fun k2 => ?_) (fun k2 => ?_)
    · simp only [go_sem, f0, f1, f2, f7, f8, f13, reduceIte, Nat.reduceEqDiff, Nat.reduceAdd, Nat.reduceMul, Nat.reduceSub, Nat.reduceLT, Nat.reduceLeDiff, Nat.le_refl, Nat.zero_le, Nat.zero_add, Nat.add_zero, Nat.mul_one, splice_zero, Int.toNat_natCast, Int.natCast_nonneg, Int.reduceLE, Int.reduceLT, Int.reduceToNat, Int.reduceEq, Int.cast_ofNat_Int, ne_eq, not_true_eq_false, not_false_eq_true, imp_self, implies_true, true_implies, false_implies, and_self, List.length_map, List.length_drop]
      rw [r_block]
      simp only [go_sem, f0, f1, f2, f7, f8, f13, reduceIte, Nat.reduceEqDiff, Nat.reduceAdd, Nat.reduceMul, Nat.reduceSub, Nat.reduceLT, Nat.reduceLeDiff, Nat.le_refl, Nat.zero_le, Nat.zero_add, Nat.add_zero, Nat.mul_one, splice_zero, Int.toNat_natCast, Int.natCast_nonneg, Int.reduceLE, Int.reduceLT, Int.reduceToNat, Int.reduceEq, Int.cast_ofNat_Int, ne_eq, not_true_eq_false, not_false_eq_true, imp_self, implies_true, true_implies, false_implies, and_self, List.length_map, List.length_drop]
      have hiD : i ≤ D := by omega
      rw [show IntKind.i64.wrap (IntKind.i64.wrap (1 + (D : Int)) - i) = ((D - i + 1 : Nat) : Int) by rw [wrap64 (x := 1 + (D : Int)) (by omega), wrap64 (by omega)]; omega]
      rw [show D + 1 - i = (D - i) + 1 by omega] at h2 hok
      have hok2 := hok.take ((D - i + 1 : Nat) : Int)
      refine (take_own h2 hok _).mono ?_
      rw [cp_take] at hok2 ⊢
      rintro _ σ3 ⟨cs, rfl, h3, lv, rfl, hL, hG, hrow⟩
      simp only [go_sem, f0, f1, f2, f7, f8, f13, hL.one, reduceIte, Nat.reduceEqDiff, Nat.reduceAdd, Nat.reduceMul, Nat.reduceSub, Nat.reduceLT, Nat.reduceLeDiff, Nat.le_refl, Nat.zero_le, Nat.zero_add, Nat.add_zero, Nat.mul_one, splice_zero, Int.toNat_natCast, Int.natCast_nonneg, Int.reduceLE, Int.reduceLT, Int.reduceToNat, Int.reduceEq, Int.cast_ofNat_Int, ne_eq, not_true_eq_false, not_false_eq_true, imp_self, implies_true, true_implies, false_implies, and_self, List.length_map, List.length_drop]
      refine aNew_intro fun c hc hcm => ?_
      have hcp : p ≠ c := hcm _ _ h3
      have hnc : ∀ x o, σ3 x = some o → x ≠ c := hcm
      have h4 : (σ3.set c (.cells [int ((D - i + 1 : Nat) : Int), str to, lv])) p = some (Ns.O ⟨cp to b 1 (D - i), D + 1⟩) := by rw [set_ne hcp]; exact h3
      have hc4 : (σ3.set c (.cells [int ((D - i + 1 : Nat) : Int), str to, lv])) c = some (.cells [int ((D - i + 1 : Nat) : Int), str to, lv]) := set_same
      have hL4 := hL.new (o := .cells [int ((D - i + 1 : Nat) : Int), str to, lv]) hc
      have hnp : ¬ Own lv p := (hG p _ set_same).2
      have hnlc : ¬ Own lv c := fun ho => by obtain ⟨cap, h⟩ := hL.own_rows ho; rw [hc] at h; cases h
      simp only [go_sem, hL.one, set_same, reduceIte, Nat.reduceEqDiff, Nat.reduceAdd, Nat.reduceMul, Nat.reduceSub, Nat.reduceLT, Nat.reduceLeDiff, Nat.le_refl, Nat.zero_le, Nat.zero_add, Nat.add_zero, Nat.mul_one, splice_zero, Int.toNat_natCast, Int.natCast_nonneg, Int.reduceLE, Int.reduceLT, Int.reduceToNat, Int.reduceEq, Int.cast_ofNat_Int, ne_eq, not_true_eq_false, not_false_eq_true, imp_self, implies_true, true_implies, false_implies, and_self, List.length_map, List.length_drop]
      revert h4 hc4 hL4
      generalize σ3.set c (.cells [int ((D - i + 1 : Nat) : Int), str to, lv]) = σ4
      intro h4 hc4 hL4
      clear hcm hnc hc hG hL h3 h2
      simp only [go_sem, r_block, f0, f1, f2, f7, f8, f13, hc4, reduceIte, Nat.reduceEqDiff, Nat.reduceAdd, Nat.reduceMul, Nat.reduceSub, Nat.reduceLT, Nat.reduceLeDiff, Nat.le_refl, Nat.zero_le, Nat.zero_add, Nat.add_zero, Nat.mul_one, splice_zero, Int.toNat_natCast, Int.natCast_nonneg, Int.reduceLE, Int.reduceLT, Int.reduceToNat, Int.reduceEq, Int.cast_ofNat_Int, ne_eq, not_true_eq_false, not_false_eq_true, imp_self, implies_true, true_implies, false_implies, and_self, List.length_map, List.length_drop]
      refine ⟨_, hL4.look, isB b, _, rfl, isB b, ?_⟩
      simp only [decide_true]
      rw [show (decide (strOf (byC b) = strOf (byC b))) = true from decide_eq_true rfl]
      simp only [go_sem, r_block, f0, f1, f2, f7, f8, f13, hc4, reduceIte, Nat.reduceEqDiff, Nat.reduceAdd, Nat.reduceMul, Nat.reduceSub, Nat.reduceLT, Nat.reduceLeDiff, Nat.le_refl, Nat.zero_le, Nat.zero_add, Nat.add_zero, Nat.mul_one, splice_zero, Int.toNat_natCast, Int.natCast_nonneg, Int.reduceLE, Int.reduceLT, Int.reduceToNat, Int.reduceEq, Int.cast_ofNat_Int, ne_eq, not_true_eq_false, not_false_eq_true, imp_self, implies_true, true_implies, false_implies, and_self, List.length_map, List.length_drop]
      refine ⟨fun m fr σ' => ∃ (k : Nat) (es : List (List AV)), m = b.length - k ∧ k ≤ b.length ∧ fr 0 = str to ∧ fr 1 = .sl 1 (byC b) ∧ fr 2 = int D ∧ fr 7 = ptr p ∧ fr 8 = int 1 ∧ fr 13 = int i ∧ fr 14 = ptr c ∧ fr 16 = int k ∧ σ' p = some (Ns.O ⟨cp to b 1 (D - i), D + 1⟩) ∧ σ' c = some (.cells [int ((D - i + 1 : Nat) : Int), str to, lv]) ∧ LAt 1 σ' lv es ∧ es.length = b.length ∧ es.all isByte = true, ⟨_, 0, byC b, rfl, by omega, f0, f1, f2, f7, f8, f13, rfl, rfl, h4, hc4, hL4, byC_len b, isB b⟩, ?_⟩
      clear f0 f1 f2 f7 f8 f13 h4 hc4 hL4
      rintro m fr σ5 ⟨k, es, rfl, hk, f0, f1, f2, f7, f8, f13, f14, f16, h5, hc5, hL5, hes, hby⟩
      simp only [go_sem, f0, f1, f2, f7, f8, f13, f14, f16, hc5, hL5.len, hes, reduceIte, Nat.reduceEqDiff, Nat.reduceAdd, Nat.reduceMul, Nat.reduceSub, Nat.reduceLT, Nat.reduceLeDiff, Nat.le_refl, Nat.zero_le, Nat.zero_add, Nat.add_zero, Nat.mul_one, splice_zero, Int.toNat_natCast, Int.natCast_nonneg, Int.reduceLE, Int.reduceLT, Int.reduceToNat, Int.reduceEq, Int.cast_ofNat_Int, ne_eq, not_true_eq_false, not_false_eq_true, imp_self, implies_true, true_implies, false_implies, and_self, List.length_map, List.length_drop]
      refine aIf_by (fun k3 => ?_) (fun k3 => ?_)
      · have hkb : k < b.length := by omega
        obtain ⟨q, cap, rfl⟩ := hrow (by intro e; simp only at e; rw [e] at hkb; simp at hkb)
        obtain ⟨cap2, hq⟩ := hL5.own_rows ⟨_, _, rfl⟩
        obtain ⟨x, hx⟩ : ∃ x, es.getD k [] = [.v (.int .u8 x)] := by
          have hke : k < es.length := by omega
          have h1 := List.all_eq_true.1 hby es[k] (List.getElem_mem _)
          have h2 : es.getD k [] = es[k] := by simp [List.getD_eq_getElem?_getD, hke]
          rw [h2]
          unfold isByte at h1
          split at h1
          · exact ⟨_, by assumption⟩
          · cases h1
        simp only [go_sem, r_block, reduceIte, Nat.reduceEqDiff, Nat.reduceAdd, Nat.reduceMul, Nat.reduceSub, Nat.reduceLT, Nat.reduceLeDiff, Nat.le_refl, Nat.zero_le, Nat.zero_add, Nat.add_zero, Nat.mul_one, splice_zero, Int.toNat_natCast, Int.natCast_nonneg, Int.reduceLE, Int.reduceLT, Int.reduceToNat, Int.reduceEq, Int.cast_ofNat_Int, ne_eq, not_true_eq_false, not_false_eq_true, imp_self, implies_true, true_implies, false_implies, and_self, List.length_map, List.length_drop]
        refine aDraw_plan [.rd 0 false, .rd 1 true, .rd 2 false, .rd 3 false, .rd 4 true, .rd 5 false, .rd 6 false, .rd 7 true, .rd 8 false, .rd 9 false, .ef 10 []] (by kernel_rfl) (by kernel_rfl) (by kernel_rfl) ?_
        simp only [go_sem, r_block, f0, f1, f2, f7, f8, f13, f14, f16, hc5, hq, hx, reduceIte, Nat.reduceEqDiff, Nat.reduceAdd, Nat.reduceMul, Nat.reduceSub, Nat.reduceLT, Nat.reduceLeDiff, Nat.le_refl, Nat.zero_le, Nat.zero_add, Nat.add_zero, Nat.mul_one, splice_zero, Int.toNat_natCast, Int.natCast_nonneg, Int.reduceLE, Int.reduceLT, Int.reduceToNat, Int.reduceEq, Int.cast_ofNat_Int, ne_eq, not_true_eq_false, not_false_eq_true, imp_self, implies_true, true_implies, false_implies, and_self, List.length_map, List.length_drop]
        have hqp : p ≠ q := by rintro rfl; rw [h5] at hq; cases hq
        have hqc : c ≠ q := by rintro rfl; rw [hc5] at hq; cases hq
        have hcap : cap2 = cap ∧ es.length ≤ cap := by
          rcases hL5 with ⟨h, _⟩ | h | ⟨q2, cap3, h, h2, h3⟩
          · cases h
          · cases h
          · injection h with h
            injection h with h e1 e2
            injection h with h
            injection h with h
            subst h; subst e2
            rw [h3] at hq
            injection hq with hq
            injection hq with _ _ _ hq
            exact ⟨hq.symm, h2⟩
        obtain ⟨rfl, hle⟩ := hcap
        rw [next64 (by omega)]
        refine ⟨k3, by omega, k3, by omega, b.length - (k + 1), by omega, k + 1, es.set k [.v (.int .u8 (IntKind.u8.wrap (x + 1)))], rfl, by omega, rfl, by rw [set_ne hqp]; exact h5, by rw [set_ne hqc]; exact hc5, .inr (.inr ⟨q, cap2, by rw [List.length_set, hes], by rw [List.length_set]; exact hle, set_same⟩), by rw [List.length_set]; exact hes, List.all_eq_true.2 fun y hy => ?_⟩
        rcases List.mem_or_eq_of_mem_set hy with hy | rfl
        · exact List.all_eq_true.1 hby y hy
        · rfl
      · simp only [go_sem, r_block, f0, f1, f2, f7, f8, f13, reduceIte, Nat.reduceEqDiff, Nat.reduceAdd, Nat.reduceMul, Nat.reduceSub, Nat.reduceLT, Nat.reduceLeDiff, Nat.le_refl, Nat.zero_le, Nat.zero_add, Nat.add_zero, Nat.mul_one, splice_zero, Int.toNat_natCast, Int.natCast_nonneg, Int.reduceLE, Int.reduceLT, Int.reduceToNat, Int.reduceEq, Int.cast_ofNat_Int, ne_eq, not_true_eq_false, not_false_eq_true, imp_self, implies_true, true_implies, false_implies, and_self, List.length_map, List.length_drop]
        rw [next64 (by omega)]
        refine ⟨D + 1 - (i + 1), by omega, i + 1, rfl, by omega, rfl, ?_⟩
        rw [show D + 1 - (i + 1) = D - i by omega]
        exact ⟨h5, hok2⟩
    · obtain rfl : i = D + 1 := by omega
      simp only [go_sem, r_block, f0, f1, f2, f7, f8, f13, reduceIte, Nat.reduceEqDiff, Nat.reduceAdd, Nat.reduceMul, Nat.reduceSub, Nat.reduceLT, Nat.reduceLeDiff, Nat.le_refl, Nat.zero_le, Nat.zero_add, Nat.add_zero, Nat.mul_one, splice_zero, Int.toNat_natCast, Int.natCast_nonneg, Int.reduceLE, Int.reduceLT, Int.reduceToNat, Int.reduceEq, Int.cast_ofNat_Int, ne_eq, not_true_eq_false, not_false_eq_true, imp_self, implies_true, true_implies, false_implies, and_self, List.length_map, List.length_drop]
      rw [Nat.sub_self] at h2
      exact h2
  rintro fr σ2 ⟨f7, h2⟩
  simp only [go_sem, f7, reduceIte, Nat.reduceEqDiff, Nat.reduceAdd, Nat.reduceMul, Nat.reduceSub, Nat.reduceLT, Nat.reduceLeDiff, Nat.le_refl, Nat.zero_le, Nat.zero_add, Nat.add_zero, Nat.mul_one, splice_zero, Int.toNat_natCast, Int.natCast_nonneg, Int.reduceLE, Int.reduceLT, Int.reduceToNat, Int.reduceEq, Int.cast_ofNat_Int, ne_eq, not_true_eq_false, not_false_eq_true, imp_self, implies_true, true_implies, false_implies, and_self, List.length_map, List.length_drop]
  refine (len_at h2).mono ?_
  rintro _ _ ⟨rfl, rfl⟩
  simp only [go_sem, f7, reduceIte, Nat.reduceEqDiff, Nat.reduceAdd, Nat.reduceMul, Nat.reduceSub, Nat.reduceLT, Nat.reduceLeDiff, Nat.le_refl, Nat.zero_le, Nat.zero_add, Nat.add_zero, Nat.mul_one, splice_zero, Int.toNat_natCast, Int.natCast_nonneg, Int.reduceLE, Int.reduceLT, Int.reduceToNat, Int.reduceEq, Int.cast_ofNat_Int, ne_eq, not_true_eq_false, not_false_eq_true, imp_self, implies_true, true_implies, false_implies, and_self, List.length_map, List.length_drop]
  refine live_at.mono ?_
  rintro _ _ ⟨rfl, rfl⟩
  simp only [go_sem, reduceIte, Nat.reduceEqDiff, Nat.reduceAdd, Nat.reduceMul, Nat.reduceSub, Nat.reduceLT, Nat.reduceLeDiff, Nat.le_refl, Nat.zero_le, Nat.zero_add, Nat.add_zero, Nat.mul_one, splice_zero, Int.toNat_natCast, Int.natCast_nonneg, Int.reduceLE, Int.reduceLT, Int.reduceToNat, Int.reduceEq, Int.cast_ofNat_Int, ne_eq, not_true_eq_false, not_false_eq_true, imp_self, implies_true, true_implies, false_implies, and_self, List.length_map, List.length_drop]
  exact aRet_as (r := boo true) rfl rfl
end
theorem by_of {n : Nat} : ∀ (es : List (List AV)), (∀ x ∈ es, Ty Try.prog (n + 1) 5 x) → ∃ b : Byt, es = byC b
  | [], _ => ⟨[], rfl⟩
  | x :: es, h => by
    obtain ⟨b, rfl⟩ := by_of es fun y hy => h y (by simp [hy])
    obtain ⟨v, rfl, hw⟩ := ty_int Try.underlying5 (h x (by simp))
    have hv : 0 ≤ v ∧ v ≤ 255 := by
      simp [Lit.wf, IntKind.min, IntKind.max, IntKind.signed, IntKind.bits] at hw
      omega
    refine ⟨UInt8.ofNat v.toNat :: b, ?_⟩
    have : ((UInt8.ofNat v.toNat).toNat : Int) = v := by
      rw [UInt8.toNat_ofNat']
      omega
    simp only [byC, List.map_cons, byteEl, this]
theorem bys_of {n : Nat} {a : AV} (h : TyA Try.prog (n + 2) 22 a) : ∃ b : Byt, a = .sl 1 (byC b) ∧ b.length ≤ 140737488351232 := by
  obtain ⟨es, rfl, hlen, he⟩ := tyA_sl Try.underlying22 h
  obtain ⟨b, rfl⟩ := by_of es he
  have e1 : Try.prog.cellsOf 5 = 1 := by kernel_rfl
  have e2 : Try.prog.bytesOf 5 = 1 := by kernel_rfl
  rw [e2, byC_len] at hlen
  exact ⟨b, by rw [e1], by omega⟩
end Go.Proofs.Ytebmjajdkhhhbaa
