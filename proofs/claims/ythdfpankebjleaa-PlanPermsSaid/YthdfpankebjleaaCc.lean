/-
  In which order literals are looked for: what is known of a literal.
  Conditions: none.
-/
import Derived.Test.YthdfpankebjleaaCb
set_option linter.unusedVariables false
set_option linter.unusedSimpArgs false
set_option maxRecDepth 100000
namespace Go.Proofs.Ythdfpankebjleaa
open Go Go.Av

section
variable {σ : St} {lv : AV} {vs : List ByteArray}
/-- Of a term, the document. -/
theorem known_at (t : Tm) (hl : vs.length ≤ 1000000000) (h : Rd 1 σ lv (stC vs)) : AT Try.prog 31 [.agg t.cs, lv] σ fun r σ' => r = int (kn t vs) ∧ σ' = σ := by
  refine AT.of_body Try.func31 rfl (by decide) (by kernel_rfl) (by kernel_rfl) (Nat.le_of_ble_eq_true rfl) ?_
  simp only [go_sem, reduceIte, Nat.reduceEqDiff, Nat.reduceAdd, Nat.reduceMul, Nat.reduceSub, Nat.reduceLT, Nat.reduceLeDiff, Nat.le_refl, Nat.zero_le, Nat.zero_add, Nat.add_zero, Nat.mul_one, splice_zero, Int.toNat_natCast, Int.natCast_nonneg, Int.reduceLE, Int.reduceLT, Int.reduceToNat, Int.reduceEq, Int.cast_ofNat_Int, ne_eq, not_true_eq_false, not_false_eq_true, imp_self, implies_true, true_implies, false_implies, and_self, List.length_map, List.length_drop]
  refine aNew_intro fun b hb _ => ?_
  have hd : ∀ r, View (σ.set b (.cells t.cs)) r σ r := fun r => view_drop (set_sub hb fun _ _ h => h)
  have h' : Rd 1 (σ.set b (.cells t.cs)) lv (stC vs) := h.keep fun x o hx => set_sub hb (fun _ _ h => h) x o hx
  simp only [go_sem, r_block, set_same, reduceIte, Nat.reduceEqDiff, Nat.reduceAdd, Nat.reduceMul, Nat.reduceSub, Nat.reduceLT, Nat.reduceLeDiff, Nat.le_refl, Nat.zero_le, Nat.zero_add, Nat.add_zero, Nat.mul_one, splice_zero, Int.toNat_natCast, Int.natCast_nonneg, Int.reduceLE, Int.reduceLT, Int.reduceToNat, Int.reduceEq, Int.cast_ofNat_Int, ne_eq, not_true_eq_false, not_false_eq_true, imp_self, implies_true, true_implies, false_implies, and_self, List.length_map, List.length_drop]
  refine tm_ne ?_
  by_cases h1 : t = .zero
  · simp only [go_sem, r_block, decide_eq_true h1, Bool.not_true, reduceIte, Nat.reduceEqDiff, Nat.reduceAdd, Nat.reduceMul, Nat.reduceSub, Nat.reduceLT, Nat.reduceLeDiff, Nat.le_refl, Nat.zero_le, Nat.zero_add, Nat.add_zero, Nat.mul_one, splice_zero, Int.toNat_natCast, Int.natCast_nonneg, Int.reduceLE, Int.reduceLT, Int.reduceToNat, Int.reduceEq, Int.cast_ofNat_Int, ne_eq, not_true_eq_false, not_false_eq_true, imp_self, implies_true, true_implies, false_implies, and_self, List.length_map, List.length_drop]
    exact aRet_view (r := int 0) rfl _ σ (hd _) ⟨by unfold kn; rw [if_neg (fun h => h.1 h1)]; rfl, rfl⟩
  by_cases h2 : t.v = emp
  · simp only [go_sem, r_block, decide_eq_false h1, Bool.not_false, set_same, decide_eq_true h2, reduceIte, Nat.reduceEqDiff, Nat.reduceAdd, Nat.reduceMul, Nat.reduceSub, Nat.reduceLT, Nat.reduceLeDiff, Nat.le_refl, Nat.zero_le, Nat.zero_add, Nat.add_zero, Nat.mul_one, splice_zero, Int.toNat_natCast, Int.natCast_nonneg, Int.reduceLE, Int.reduceLT, Int.reduceToNat, Int.reduceEq, Int.cast_ofNat_Int, ne_eq, not_true_eq_false, not_false_eq_true, imp_self, implies_true, true_implies, false_implies, and_self, List.length_map, List.length_drop]
    exact aRet_view (r := int 1) rfl _ σ (hd _) ⟨by unfold kn; rw [if_pos ⟨h1, .inl h2⟩]; rfl, rfl⟩
  · simp only [go_sem, r_block, decide_eq_false h1, Bool.not_false, set_same, decide_eq_false h2, reduceIte, Nat.reduceEqDiff, Nat.reduceAdd, Nat.reduceMul, Nat.reduceSub, Nat.reduceLT, Nat.reduceLeDiff, Nat.le_refl, Nat.zero_le, Nat.zero_add, Nat.add_zero, Nat.mul_one, splice_zero, Int.toNat_natCast, Int.natCast_nonneg, Int.reduceLE, Int.reduceLT, Int.reduceToNat, Int.reduceEq, Int.cast_ofNat_Int, ne_eq, not_true_eq_false, not_false_eq_true, imp_self, implies_true, true_implies, false_implies, and_self, List.length_map, List.length_drop]
    refine (is_at hl h').mono ?_
    rintro _ σ ⟨rfl, rfl⟩
    simp only [go_sem, r_block, decide_eq_false h1, Bool.not_false, decide_eq_false h2, reduceIte, Nat.reduceEqDiff, Nat.reduceAdd, Nat.reduceMul, Nat.reduceSub, Nat.reduceLT, Nat.reduceLeDiff, Nat.le_refl, Nat.zero_le, Nat.zero_add, Nat.add_zero, Nat.mul_one, splice_zero, Int.toNat_natCast, Int.natCast_nonneg, Int.reduceLE, Int.reduceLT, Int.reduceToNat, Int.reduceEq, Int.cast_ofNat_Int, ne_eq, not_true_eq_false, not_false_eq_true, imp_self, implies_true, true_implies, false_implies, and_self, List.length_map, List.length_drop]
    refine aIf_by (fun h3 => ?_) (fun h3 => ?_)
    · simp only [go_sem, r_block, reduceIte, Nat.reduceEqDiff, Nat.reduceAdd, Nat.reduceMul, Nat.reduceSub, Nat.reduceLT, Nat.reduceLeDiff, Nat.le_refl, Nat.zero_le, Nat.zero_add, Nat.add_zero, Nat.mul_one, splice_zero, Int.toNat_natCast, Int.natCast_nonneg, Int.reduceLE, Int.reduceLT, Int.reduceToNat, Int.reduceEq, Int.cast_ofNat_Int, ne_eq, not_true_eq_false, not_false_eq_true, imp_self, implies_true, true_implies, false_implies, and_self, List.length_map, List.length_drop]
      exact aRet_view (r := int 1) rfl _ _ (hd _) ⟨by unfold kn; rw [if_pos ⟨h1, .inr h3⟩]; rfl, rfl⟩
    · simp only [go_sem, r_block, reduceIte, Nat.reduceEqDiff, Nat.reduceAdd, Nat.reduceMul, Nat.reduceSub, Nat.reduceLT, Nat.reduceLeDiff, Nat.le_refl, Nat.zero_le, Nat.zero_add, Nat.add_zero, Nat.mul_one, splice_zero, Int.toNat_natCast, Int.natCast_nonneg, Int.reduceLE, Int.reduceLT, Int.reduceToNat, Int.reduceEq, Int.cast_ofNat_Int, ne_eq, not_true_eq_false, not_false_eq_true, imp_self, implies_true, true_implies, false_implies, and_self, List.length_map, List.length_drop]
      exact aRet_view (r := int 0) rfl _ _ (hd _) ⟨by unfold kn; rw [if_neg (fun h => h.2.elim h2 h3)]; rfl, rfl⟩
/-- Of a literal, the plan. -/
theorem knows_at (l : Li) (ha : l.ar.length ≤ 1000000) (hl : vs.length ≤ 1000000000) (h : Rd 1 σ lv (stC vs)) : AT Try.prog 29 [.agg l.cs, lv] σ fun r σ' => r = int (knL l vs) ∧ σ' = σ := by
  refine AT.of_body Try.func29 rfl (by decide) (by kernel_rfl) (by kernel_rfl) (Nat.le_of_ble_eq_true rfl) ?_
  simp only [go_sem, reduceIte, Nat.reduceEqDiff, Nat.reduceAdd, Nat.reduceMul, Nat.reduceSub, Nat.reduceLT, Nat.reduceLeDiff, Nat.le_refl, Nat.zero_le, Nat.zero_add, Nat.add_zero, Nat.mul_one, splice_zero, Int.toNat_natCast, Int.natCast_nonneg, Int.reduceLE, Int.reduceLT, Int.reduceToNat, Int.reduceEq, Int.cast_ofNat_Int, ne_eq, not_true_eq_false, not_false_eq_true, imp_self, implies_true, true_implies, false_implies, and_self, List.length_map, List.length_drop]
  refine aNew_intro fun b hb _ => ?_
  simp only [go_sem, r_block, set_same, reduceIte, Nat.reduceEqDiff, Nat.reduceAdd, Nat.reduceMul, Nat.reduceSub, Nat.reduceLT, Nat.reduceLeDiff, Nat.le_refl, Nat.zero_le, Nat.zero_add, Nat.add_zero, Nat.mul_one, splice_zero, Int.toNat_natCast, Int.natCast_nonneg, Int.reduceLE, Int.reduceLT, Int.reduceToNat, Int.reduceEq, Int.cast_ofNat_Int, ne_eq, not_true_eq_false, not_false_eq_true, imp_self, implies_true, true_implies, false_implies, and_self, List.length_map, List.length_drop]
  refine aApp_by (ys := tmC l.ar) (by simp [src]) (by decide) (by decide) (by decide) (LAt.full.app (by rw [tmC_len]; simp; omega) fun lw σ1 hw hs => ?_)
  have hno : ∀ x, ¬ Own (.fsl 4 [l.by'.cs]) x := fun x ⟨n, c, e⟩ => by cases e
  have hs1 : ∀ x o, σ x = some o → σ1 x = some o := fun x o hx => (hs x o (set_sub hb (fun _ _ h => h) x o hx) (hno x)).1
  have hw : LAt 4 σ1 lw (tmC (l.by' :: l.ar)) := hw
  obtain ⟨ts, hts⟩ : ∃ ts, ts = l.by' :: l.ar := ⟨_, rfl⟩
  have htl : ts.length ≤ 1000001 := by subst hts; simp; omega
  rw [← hts] at hw
  simp only [go_sem, r_block, hw.len, reduceIte, Nat.reduceEqDiff, Nat.reduceAdd, Nat.reduceMul, Nat.reduceSub, Nat.reduceLT, Nat.reduceLeDiff, Nat.le_refl, Nat.zero_le, Nat.zero_add, Nat.add_zero, Nat.mul_one, splice_zero, Int.toNat_natCast, Int.natCast_nonneg, Int.reduceLE, Int.reduceLT, Int.reduceToNat, Int.reduceEq, Int.cast_ofNat_Int, ne_eq, not_true_eq_false, not_false_eq_true, imp_self, implies_true, true_implies, false_implies, and_self, List.length_map, List.length_drop]
  refine ⟨fun m fr σ' => ∃ i : Nat, m = ts.length - i ∧ i ≤ ts.length ∧ (∀ x o, σ1 x = some o → σ' x = some o) ∧ fr 1 = lv ∧ fr 13 = lw ∧ fr 14 = int ts.length ∧ fr 15 = int i ∧ fr 5 = int (knS (ts.take i) vs), ⟨_, 0, rfl, by omega, fun _ _ h => h, rfl, rfl, rfl, rfl, rfl⟩, ?_⟩
  clear hb
  rintro m fr σ2 ⟨i, rfl, h1, h2, f1, f13, f14, f15, f5⟩
  simp only [go_sem, f13, f14, f15, reduceIte, Nat.reduceEqDiff, Nat.reduceAdd, Nat.reduceMul, Nat.reduceSub, Nat.reduceLT, Nat.reduceLeDiff, Nat.le_refl, Nat.zero_le, Nat.zero_add, Nat.add_zero, Nat.mul_one, splice_zero, Int.toNat_natCast, Int.natCast_nonneg, Int.reduceLE, Int.reduceLT, Int.reduceToNat, Int.reduceEq, Int.cast_ofNat_Int, ne_eq, not_true_eq_false, not_false_eq_true, imp_self, implies_true, true_implies, false_implies, and_self, List.length_map, List.length_drop]
  refine aIf_by (fun hlt => ?_) (fun hlt => ?_)
  · have hi : i < ts.length := by omega
    have hw2 : LAt 4 σ2 lw (tmC ts) := hw.keep fun x o hx _ => h2 x o hx
    simp only [go_sem, r_block, f13, f15, reduceIte, Nat.reduceEqDiff, Nat.reduceAdd, Nat.reduceMul, Nat.reduceSub, Nat.reduceLT, Nat.reduceLeDiff, Nat.le_refl, Nat.zero_le, Nat.zero_add, Nat.add_zero, Nat.mul_one, splice_zero, Int.toNat_natCast, Int.natCast_nonneg, Int.reduceLE, Int.reduceLT, Int.reduceToNat, Int.reduceEq, Int.cast_ofNat_Int, ne_eq, not_true_eq_false, not_false_eq_true, imp_self, implies_true, true_implies, false_implies, and_self, List.length_map, List.length_drop]
    refine hw2.elem (by omega) (by rw [tmC_len]; omega) fun p hp => ?_
    simp only [go_sem, r_block, reduceIte, Nat.reduceEqDiff, Nat.reduceAdd, Nat.reduceMul, Nat.reduceSub, Nat.reduceLT, Nat.reduceLeDiff, Nat.le_refl, Nat.zero_le, Nat.zero_add, Nat.add_zero, Nat.mul_one, splice_zero, Int.toNat_natCast, Int.natCast_nonneg, Int.reduceLE, Int.reduceLT, Int.reduceToNat, Int.reduceEq, Int.cast_ofNat_Int, ne_eq, not_true_eq_false, not_false_eq_true, imp_self, implies_true, true_implies, false_implies, and_self, List.length_map, List.length_drop]
    refine hp.load (by omega) (by rw [Int.toNat_natCast, tmC_get hi]; exact Nat.le_refl 4) ?_
    simp only [go_sem, tmC_get hi, reduceIte, Nat.reduceEqDiff, Nat.reduceAdd, Nat.reduceMul, Nat.reduceSub, Nat.reduceLT, Nat.reduceLeDiff, Nat.le_refl, Nat.zero_le, Nat.zero_add, Nat.add_zero, Nat.mul_one, splice_zero, Int.toNat_natCast, Int.natCast_nonneg, Int.reduceLE, Int.reduceLT, Int.reduceToNat, Int.reduceEq, Int.cast_ofNat_Int, ne_eq, not_true_eq_false, not_false_eq_true, imp_self, implies_true, true_implies, false_implies, and_self, List.length_map, List.length_drop]
    refine aNew_intro fun c hc hcn => ?_
    have h3 : ∀ x o, σ1 x = some o → x ≠ c := fun x o hx => hcn x o (h2 x o hx)
    have e : knS (ts.take (i + 1)) vs = _ := knS_take vs hi
    have hk := knS_le vs (ts.take i)
    have hk2 := kn_le ts[i] vs
    rw [List.length_take] at hk
    simp only [go_sem, r_block, set_same, reduceIte, Nat.reduceEqDiff, Nat.reduceAdd, Nat.reduceMul, Nat.reduceSub, Nat.reduceLT, Nat.reduceLeDiff, Nat.le_refl, Nat.zero_le, Nat.zero_add, Nat.add_zero, Nat.mul_one, splice_zero, Int.toNat_natCast, Int.natCast_nonneg, Int.reduceLE, Int.reduceLT, Int.reduceToNat, Int.reduceEq, Int.cast_ofNat_Int, ne_eq, not_true_eq_false, not_false_eq_true, imp_self, implies_true, true_implies, false_implies, and_self, List.length_map, List.length_drop]
    refine tm_ne ?_
    have go : ∀ x o, σ1 x = some o → (σ2.set c (.cells ts[i].cs)) x = some o := fun x o hx => by
      rw [set_ne (h3 x o hx)]; exact h2 x o hx
    have hr : Rd 1 (σ2.set c (.cells ts[i].cs)) lv (stC vs) := h.keep fun x o hx => go x o (hs1 x o hx)
    by_cases g1 : ts[i] = .zero
    · have ek : kn ts[i] vs = 0 := by unfold kn; rw [if_neg (fun h => h.1 g1)]
      simp only [go_sem, r_block, decide_eq_true g1, Bool.not_true, f15, f14, f13, f5, f1, next64 (show i < 9223372036854775807 by omega), reduceIte, Nat.reduceEqDiff, Nat.reduceAdd, Nat.reduceMul, Nat.reduceSub, Nat.reduceLT, Nat.reduceLeDiff, Nat.le_refl, Nat.zero_le, Nat.zero_add, Nat.add_zero, Nat.mul_one, splice_zero, Int.toNat_natCast, Int.natCast_nonneg, Int.reduceLE, Int.reduceLT, Int.reduceToNat, Int.reduceEq, Int.cast_ofNat_Int, ne_eq, not_true_eq_false, not_false_eq_true, imp_self, implies_true, true_implies, false_implies, and_self, List.length_map, List.length_drop]
      refine ⟨ts.length - (i + 1), by omega, i + 1, rfl, by omega, go, rfl, by rw [e, ek]; rfl⟩
    by_cases g2 : ts[i].v = emp
    · have ek : kn ts[i] vs = 1 := by unfold kn; rw [if_pos ⟨g1, .inl g2⟩]
      simp only [go_sem, r_block, decide_eq_false g1, Bool.not_false, set_same, decide_eq_true g2, f15, f14, f13, f5, f1, next64 (show i < 9223372036854775807 by omega), next64 (show knS (ts.take i) vs < 9223372036854775807 by omega), reduceIte, Nat.reduceEqDiff, Nat.reduceAdd, Nat.reduceMul, Nat.reduceSub, Nat.reduceLT, Nat.reduceLeDiff, Nat.le_refl, Nat.zero_le, Nat.zero_add, Nat.add_zero, Nat.mul_one, splice_zero, Int.toNat_natCast, Int.natCast_nonneg, Int.reduceLE, Int.reduceLT, Int.reduceToNat, Int.reduceEq, Int.cast_ofNat_Int, ne_eq, not_true_eq_false, not_false_eq_true, imp_self, implies_true, true_implies, false_implies, and_self, List.length_map, List.length_drop]
      refine ⟨ts.length - (i + 1), by omega, i + 1, rfl, by omega, go, rfl, by rw [e, ek]⟩
    · simp only [go_sem, r_block, decide_eq_false g1, Bool.not_false, set_same, decide_eq_false g2, f1, reduceIte, Nat.reduceEqDiff, Nat.reduceAdd, Nat.reduceMul, Nat.reduceSub, Nat.reduceLT, Nat.reduceLeDiff, Nat.le_refl, Nat.zero_le, Nat.zero_add, Nat.add_zero, Nat.mul_one, splice_zero, Int.toNat_natCast, Int.natCast_nonneg, Int.reduceLE, Int.reduceLT, Int.reduceToNat, Int.reduceEq, Int.cast_ofNat_Int, ne_eq, not_true_eq_false, not_false_eq_true, imp_self, implies_true, true_implies, false_implies, and_self, List.length_map, List.length_drop]
      refine (has_at hl hr).mono ?_
      rintro _ σ3 ⟨rfl, rfl⟩
      simp only [go_sem, r_block, decide_eq_false g1, Bool.not_false, decide_eq_false g2, reduceIte, Nat.reduceEqDiff, Nat.reduceAdd, Nat.reduceMul, Nat.reduceSub, Nat.reduceLT, Nat.reduceLeDiff, Nat.le_refl, Nat.zero_le, Nat.zero_add, Nat.add_zero, Nat.mul_one, splice_zero, Int.toNat_natCast, Int.natCast_nonneg, Int.reduceLE, Int.reduceLT, Int.reduceToNat, Int.reduceEq, Int.cast_ofNat_Int, ne_eq, not_true_eq_false, not_false_eq_true, imp_self, implies_true, true_implies, false_implies, and_self, List.length_map, List.length_drop]
      refine aIf_by (fun g3 => ?_) (fun g3 => ?_)
      · have ek : kn ts[i] vs = 1 := by unfold kn; rw [if_pos ⟨g1, .inr g3⟩]
        simp only [go_sem, r_block, f15, f14, f13, f5, f1, next64 (show i < 9223372036854775807 by omega), next64 (show knS (ts.take i) vs < 9223372036854775807 by omega), reduceIte, Nat.reduceEqDiff, Nat.reduceAdd, Nat.reduceMul, Nat.reduceSub, Nat.reduceLT, Nat.reduceLeDiff, Nat.le_refl, Nat.zero_le, Nat.zero_add, Nat.add_zero, Nat.mul_one, splice_zero, Int.toNat_natCast, Int.natCast_nonneg, Int.reduceLE, Int.reduceLT, Int.reduceToNat, Int.reduceEq, Int.cast_ofNat_Int, ne_eq, not_true_eq_false, not_false_eq_true, imp_self, implies_true, true_implies, false_implies, and_self, List.length_map, List.length_drop]
        exact ⟨ts.length - (i + 1), by omega, i + 1, rfl, by omega, go, rfl, by rw [e, ek]⟩
      · have ek : kn ts[i] vs = 0 := by unfold kn; rw [if_neg (fun h => h.2.elim g2 g3)]
        simp only [go_sem, r_block, f15, f14, f13, f5, f1, next64 (show i < 9223372036854775807 by omega), reduceIte, Nat.reduceEqDiff, Nat.reduceAdd, Nat.reduceMul, Nat.reduceSub, Nat.reduceLT, Nat.reduceLeDiff, Nat.le_refl, Nat.zero_le, Nat.zero_add, Nat.add_zero, Nat.mul_one, splice_zero, Int.toNat_natCast, Int.natCast_nonneg, Int.reduceLE, Int.reduceLT, Int.reduceToNat, Int.reduceEq, Int.cast_ofNat_Int, ne_eq, not_true_eq_false, not_false_eq_true, imp_self, implies_true, true_implies, false_implies, and_self, List.length_map, List.length_drop]
        exact ⟨ts.length - (i + 1), by omega, i + 1, rfl, by omega, go, rfl, by rw [e, ek]; rfl⟩
  · simp only [go_sem, r_block, f5, reduceIte, Nat.reduceEqDiff, Nat.reduceAdd, Nat.reduceMul, Nat.reduceSub, Nat.reduceLT, Nat.reduceLeDiff, Nat.le_refl, Nat.zero_le, Nat.zero_add, Nat.add_zero, Nat.mul_one, splice_zero, Int.toNat_natCast, Int.natCast_nonneg, Int.reduceLE, Int.reduceLT, Int.reduceToNat, Int.reduceEq, Int.cast_ofNat_Int, ne_eq, not_true_eq_false, not_false_eq_true, imp_self, implies_true, true_implies, false_implies, and_self, List.length_map, List.length_drop]
    rw [List.take_of_length_le (by omega)]
    refine aRet_view (r := int (knS ts vs)) rfl _ σ (view_drop fun x o hx => h2 x o (hs1 x o hx)) ⟨by rw [hts]; rfl, rfl⟩
end
end Go.Proofs.Ythdfpankebjleaa
