/-
  The weight of rules: what weighs little is small in all its parts.
  Conditions: none.
-/
import Derived.Test.YthdfpankebjleaaCg
set_option linter.unusedVariables false
set_option linter.unusedSimpArgs false
set_option maxRecDepth 100000
namespace Go.Proofs.Ythdfpankebjleaa
open Go Go.Av

/-- What can lie in memory. -/
def Li.Wf (l : Li) : Prop := l.ar.length ≤ 140737488351232 ∧ l.nm.size ≤ 140737488351232
def Rl.Wf (r : Rl) : Prop := r.ar.length ≤ 140737488351232 ∧ r.nm.size ≤ 140737488351232 ∧ r.bo.length ≤ 140737488351232 ∧ ∀ l ∈ r.bo, l.Wf
/-- Small in its parts. -/
def Rl.Sm (r : Rl) (n : Int) : Prop := r.ar.length ≤ n ∧ r.bo.length ≤ n ∧ ∀ l ∈ r.bo, l.ar.length ≤ n
theorem Rl.Sm.up {r : Rl} {n m : Int} (h : r.Sm n) (hm : n ≤ m) : r.Sm m := ⟨by have := h.1; omega, by have := h.2.1; omega, fun l hl => by have := h.2.2 l hl; omega⟩
def rlC (l : List Rl) : List (List AV) := l.map Rl.cs
@[go_sem] theorem rlC_len (l : List Rl) : (rlC l).length = l.length := by simp [rlC]
theorem rlC_get {l : List Rl} {i : Nat} (h : i < l.length) : (rlC l).getD i [] = l[i].cs := by simp [rlC, List.getD_eq_getElem?_getD, h]
theorem fsl_weak {q : Nat} {σ : St} {es : List (List AV)} {l : List AV} : VWs σ σ (.fsl q es :: l) (.sl q es :: l) :=
  vws_cons (LAt.full.vw_same fun x ⟨n, c, e⟩ => by cases e) (vws_refl _)
theorem quo16 (n : Nat) : ((n : Int)).tdiv 16 = ((n / 16 : Nat) : Int) := by
  rw [Int.tdiv_eq_ediv_of_nonneg (by omega)]; rfl
theorem weigh {n : Int} {a b : Nat} (h0 : 0 ≤ n) (h1 : n ≤ 1000000) (ha : a ≤ 140737488351232) (hb : b ≤ 140737488351232) : IntKind.i64.wrap (n + IntKind.i64.wrap (IntKind.i64.wrap (1 + (a : Int)) + IntKind.i64.wrap (((b : Int)).tdiv 16))) = n + (1 + a + (b / 16 : Nat)) := by
  rw [quo16, wrap64 (x := ((b / 16 : Nat) : Int)) (by omega), wrap64 (x := 1 + (a : Int)) (by omega), wrap64 (x := 1 + (a : Int) + ((b / 16 : Nat) : Int)) (by omega), wrap64 (by omega)]

section
variable {σ : St}
theorem weight_at (l : List Rl) (most : Int) (hl : l.length ≤ 140737488351232) (hw : ∀ r ∈ l, r.Wf) (h0 : 0 ≤ most) (h1 : most ≤ 1000000) : AT Try.prog 8 [.sl 11 (rlC l), int most] σ fun v σ' => (∃ w : Int, v = int w ∧ (w ≤ most → ∀ r ∈ l, r.Sm most)) ∧ σ' = σ := by
  refine AT.of_body Try.func8 rfl (by decide) (by kernel_rfl) (by kernel_rfl) (Nat.le_of_ble_eq_true rfl) ?_
  simp only [go_sem, r_block, reduceIte, Nat.reduceEqDiff, Nat.reduceAdd, Nat.reduceMul, Nat.reduceSub, Nat.reduceLT, Nat.reduceLeDiff, Nat.le_refl, Nat.zero_le, Nat.zero_add, Nat.add_zero, Nat.mul_one, splice_zero, Int.toNat_natCast, Int.natCast_nonneg, Int.reduceLE, Int.reduceLT, Int.reduceToNat, Int.reduceEq, Int.cast_ofNat_Int, ne_eq, not_true_eq_false, not_false_eq_true, imp_self, implies_true, true_implies, false_implies, and_self, List.length_map, List.length_drop]
  refine ⟨fun m fr σ' => ∃ (i : Nat) (n : Int), m = l.length - i ∧ i ≤ l.length ∧ σ' = σ ∧ 0 ≤ n ∧ n ≤ 10000000000000000 ∧ (most < n ∨ ∀ r ∈ l.take i, r.Sm n) ∧ fr 0 = .sl 11 (rlC l) ∧ fr 1 = int most ∧ fr 5 = int n ∧ fr 6 = int i, ⟨_, 0, 0, rfl, by omega, rfl, by omega, by omega, .inr fun r hr => by simp at hr, rfl, rfl, rfl, rfl⟩, ?_⟩
  rintro m fr σ ⟨i, n, rfl, hi, rfl, hn, hm, hs, f0, f1, f5, f6⟩
  have fin : ∀ (h : n ≤ most), i = l.length → ∀ r ∈ l, r.Sm most := fun h e r hr => by
    subst e
    rw [List.take_of_length_le (Nat.le_refl _)] at hs
    exact ((hs.resolve_left (by omega)) r hr).up h
  by_cases g1 : (i : Int) < l.length
  · by_cases g2 : n ≤ most
    · have hil : i < l.length := by omega
      have hwi := hw _ (List.getElem_mem hil)
      simp only [go_sem, r_block, f0, f1, f5, f6, decide_eq_true g1, decide_eq_true g2, reduceIte, Nat.reduceEqDiff, Nat.reduceAdd, Nat.reduceMul, Nat.reduceSub, Nat.reduceLT, Nat.reduceLeDiff, Nat.le_refl, Nat.zero_le, Nat.zero_add, Nat.add_zero, Nat.mul_one, splice_zero, Int.toNat_natCast, Int.natCast_nonneg, Int.reduceLE, Int.reduceLT, Int.reduceToNat, Int.reduceEq, Int.cast_ofNat_Int, ne_eq, not_true_eq_false, not_false_eq_true, imp_self, implies_true, true_implies, false_implies, and_self, List.length_map, List.length_drop]
      refine aDraw_plan [.rd 0 false, .rd 1 false, .rd 2 false, .rd 3 false, .rd 4 false, .rd 5 true, .rd 6 false, .rd 7 false, .rd 8 false, .rd 9 false, .rd 10 false, .rd 11 false, .rd 12 true, .rd 13 false, .rd 14 false, .rd 15 false, .rd 16 false, .rd 17 false] (by kernel_rfl) (by kernel_rfl) (by kernel_rfl) ?_
      simp only [go_sem, r_block, f0, f1, f5, f6, rlC_get hil, weigh hn (show n ≤ 1000000 by omega) hwi.1 hwi.2.1, reduceIte, Nat.reduceEqDiff, Nat.reduceAdd, Nat.reduceMul, Nat.reduceSub, Nat.reduceLT, Nat.reduceLeDiff, Nat.le_refl, Nat.zero_le, Nat.zero_add, Nat.add_zero, Nat.mul_one, splice_zero, Int.toNat_natCast, Int.natCast_nonneg, Int.reduceLE, Int.reduceLT, Int.reduceToNat, Int.reduceEq, Int.cast_ofNat_Int, ne_eq, not_true_eq_false, not_false_eq_true, imp_self, implies_true, true_implies, false_implies, and_self, List.length_map, List.length_drop]
      obtain ⟨n1, hn1⟩ : ∃ n1 : Int, n1 = n + (1 + l[i].ar.length + (l[i].nm.size / 16 : Nat)) := ⟨_, rfl⟩
      have hq := hwi.1
      have hq2 := hwi.2.1
      have hq3 := hwi.2.2.1
      have hs : ∀ r ∈ l.take i, r.Sm n1 := fun r hr => ((hs.resolve_left (by omega)) r hr).up (by omega)
      rw [← hn1]
      refine ⟨by omega, by omega, ?_⟩
      refine ⟨fun m fr σ' => ∃ (k : Nat) (n' : Int), m = l[i].bo.length - k ∧ k ≤ l[i].bo.length ∧ σ' = σ ∧ n1 ≤ n' ∧ n' ≤ 10000000000000000 ∧ (most < n' ∨ (k ≤ n' ∧ ∀ x ∈ l[i].bo.take k, (x.ar.length : Int) ≤ n')) ∧ fr 0 = .sl 11 (rlC l) ∧ fr 1 = int most ∧ fr 5 = int n' ∧ fr 6 = int i ∧ fr 7 = int k, ⟨_, 0, n1, rfl, by omega, rfl, by omega, by omega, .inr ⟨by omega, fun x hx => by simp at hx⟩, f0, f1, rfl, f6, rfl⟩, ?_⟩
      clear f0 f1 f5 f6 fr
      rintro m fr σ ⟨k, n', rfl, hk, rfl, hn', hm', hs', f0, f1, f5, f6, f7⟩
      by_cases g3 : (k : Int) < l[i].bo.length
      · by_cases g4 : n' ≤ most
        · have hkl : k < l[i].bo.length := by omega
          have hwk := hwi.2.2.2 _ (List.getElem_mem hkl)
          have hk1 := hwk.1
          have hk2 := hwk.2
          simp only [go_sem, r_block, f0, f1, f5, f6, f7, rlC_get hil, decide_eq_true g3, decide_eq_true g4, reduceIte, Nat.reduceEqDiff, Nat.reduceAdd, Nat.reduceMul, Nat.reduceSub, Nat.reduceLT, Nat.reduceLeDiff, Nat.le_refl, Nat.zero_le, Nat.zero_add, Nat.add_zero, Nat.mul_one, splice_zero, Int.toNat_natCast, Int.natCast_nonneg, Int.reduceLE, Int.reduceLT, Int.reduceToNat, Int.reduceEq, Int.cast_ofNat_Int, ne_eq, not_true_eq_false, not_false_eq_true, imp_self, implies_true, true_implies, false_implies, and_self, List.length_map, List.length_drop]
          refine ⟨by omega, ?_⟩
          refine aDraw_plan [.rd 0 false, .rd 1 false, .rd 2 false, .rd 3 false, .rd 4 false, .rd 5 true, .rd 6 false, .rd 7 false, .rd 8 false, .rd 9 true, .rd 10 false, .rd 11 false, .rd 12 false, .rd 13 false, .rd 14 false, .rd 15 false, .rd 16 true, .rd 17 false, .rd 18 false, .rd 19 false, .rd 20 true, .rd 21 false, .rd 22 false, .rd 23 false, .rd 24 false, .rd 25 false] (by kernel_rfl) (by kernel_rfl) (by kernel_rfl) ?_
          simp only [go_sem, r_block, f0, f1, f5, f6, f7, rlC_get hil, liC_get hkl, weigh (show 0 ≤ n' by omega) (show n' ≤ 1000000 by omega) hwk.1 hwk.2, next64 (show k < 9223372036854775807 by omega), reduceIte, Nat.reduceEqDiff, Nat.reduceAdd, Nat.reduceMul, Nat.reduceSub, Nat.reduceLT, Nat.reduceLeDiff, Nat.le_refl, Nat.zero_le, Nat.zero_add, Nat.add_zero, Nat.mul_one, splice_zero, Int.toNat_natCast, Int.natCast_nonneg, Int.reduceLE, Int.reduceLT, Int.reduceToNat, Int.reduceEq, Int.cast_ofNat_Int, ne_eq, not_true_eq_false, not_false_eq_true, imp_self, implies_true, true_implies, false_implies, and_self, List.length_map, List.length_drop]
          refine ⟨by omega, by omega, by omega, by omega, l[i].bo.length - (k + 1), by omega, k + 1, _, rfl, by omega, ?_, ?_, ?_, rfl, rfl⟩
          · omega
          · omega
          · refine .inr ⟨by have := hs'.resolve_left (by omega); omega, fun x hx => ?_⟩
            rw [List.take_add_one, List.getElem?_eq_getElem hkl] at hx
            rcases List.mem_append.1 hx with hx | hx
            · have := (hs'.resolve_left (by omega)).2 x hx; omega
            · simp at hx; subst hx; omega
        · simp only [go_sem, r_block, f0, f1, f5, f6, f7, rlC_get hil, decide_eq_true g3, decide_eq_false g4, next64 (show i < 9223372036854775807 by omega), reduceIte, Nat.reduceEqDiff, Nat.reduceAdd, Nat.reduceMul, Nat.reduceSub, Nat.reduceLT, Nat.reduceLeDiff, Nat.le_refl, Nat.zero_le, Nat.zero_add, Nat.add_zero, Nat.mul_one, splice_zero, Int.toNat_natCast, Int.natCast_nonneg, Int.reduceLE, Int.reduceLT, Int.reduceToNat, Int.reduceEq, Int.cast_ofNat_Int, ne_eq, not_true_eq_false, not_false_eq_true, imp_self, implies_true, true_implies, false_implies, and_self, List.length_map, List.length_drop]
          exact ⟨by omega, l.length - (i + 1), by omega, i + 1, n', rfl, by omega, by omega, by omega, .inl (by omega), rfl, rfl⟩
      · simp only [go_sem, r_block, f0, f1, f5, f6, f7, rlC_get hil, decide_eq_false g3, next64 (show i < 9223372036854775807 by omega), reduceIte, Nat.reduceEqDiff, Nat.reduceAdd, Nat.reduceMul, Nat.reduceSub, Nat.reduceLT, Nat.reduceLeDiff, Nat.le_refl, Nat.zero_le, Nat.zero_add, Nat.add_zero, Nat.mul_one, splice_zero, Int.toNat_natCast, Int.natCast_nonneg, Int.reduceLE, Int.reduceLT, Int.reduceToNat, Int.reduceEq, Int.cast_ofNat_Int, ne_eq, not_true_eq_false, not_false_eq_true, imp_self, implies_true, true_implies, false_implies, and_self, List.length_map, List.length_drop]
        refine ⟨by omega, l.length - (i + 1), by omega, i + 1, n', rfl, by omega, by omega, by omega, ?_, rfl, rfl⟩
        refine hs'.imp _root_.id fun hs' r hr => ?_
        rw [List.take_add_one, List.getElem?_eq_getElem hil] at hr
        rw [List.take_of_length_le (show l[i].bo.length ≤ k by omega)] at hs'
        rcases List.mem_append.1 hr with hr | hr
        · exact (hs r hr).up hn'
        · simp at hr; subst hr; exact ⟨by omega, by omega, hs'.2⟩
    · simp only [go_sem, r_block, f0, f1, f5, f6, decide_eq_true g1, decide_eq_false g2, reduceIte, Nat.reduceEqDiff, Nat.reduceAdd, Nat.reduceMul, Nat.reduceSub, Nat.reduceLT, Nat.reduceLeDiff, Nat.le_refl, Nat.zero_le, Nat.zero_add, Nat.add_zero, Nat.mul_one, splice_zero, Int.toNat_natCast, Int.natCast_nonneg, Int.reduceLE, Int.reduceLT, Int.reduceToNat, Int.reduceEq, Int.cast_ofNat_Int, ne_eq, not_true_eq_false, not_false_eq_true, imp_self, implies_true, true_implies, false_implies, and_self, List.length_map, List.length_drop]
      exact aRet_as (r := int n) rfl ⟨⟨n, rfl, fun h => by omega⟩, rfl⟩
  · simp only [go_sem, r_block, f0, f1, f5, f6, decide_eq_false g1, reduceIte, Nat.reduceEqDiff, Nat.reduceAdd, Nat.reduceMul, Nat.reduceSub, Nat.reduceLT, Nat.reduceLeDiff, Nat.le_refl, Nat.zero_le, Nat.zero_add, Nat.add_zero, Nat.mul_one, splice_zero, Int.toNat_natCast, Int.natCast_nonneg, Int.reduceLE, Int.reduceLT, Int.reduceToNat, Int.reduceEq, Int.cast_ofNat_Int, ne_eq, not_true_eq_false, not_false_eq_true, imp_self, implies_true, true_implies, false_implies, and_self, List.length_map, List.length_drop]
    exact aRet_as (r := int n) rfl ⟨⟨n, rfl, fun h => fin h (by omega)⟩, rfl⟩
end
end Go.Proofs.Ythdfpankebjleaa
