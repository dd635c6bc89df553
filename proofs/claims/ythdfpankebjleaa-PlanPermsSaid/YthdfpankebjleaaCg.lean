/-
  The plan's order: its walk.
  Conditions: none.
-/
import Derived.Test.YthdfpankebjleaaCf
set_option linter.unusedVariables false
set_option linter.unusedSimpArgs false
set_option maxRecDepth 100000
namespace Go.Proofs.Ythdfpankebjleaa
open Go Go.Av

section
variable {σ : St}
theorem order_at (r : Rl) (first : Int) (hr : r.Ok) : AT Try.prog 11 [.agg r.cs, int first] σ fun v σ' => v = .sl 1 (inC (nats (ordR r first))) ∧ σ' = σ := by
  refine AT.of_body Try.func11 rfl (by decide) (by kernel_rfl) (by kernel_rfl) (Nat.le_of_ble_eq_true rfl) ?_
  simp only [go_sem, reduceIte, Nat.reduceEqDiff, Nat.reduceAdd, Nat.reduceMul, Nat.reduceSub, Nat.reduceLT, Nat.reduceLeDiff, Nat.le_refl, Nat.zero_le, Nat.zero_add, Nat.add_zero, Nat.mul_one, splice_zero, Int.toNat_natCast, Int.natCast_nonneg, Int.reduceLE, Int.reduceLT, Int.reduceToNat, Int.reduceEq, Int.cast_ofNat_Int, ne_eq, not_true_eq_false, not_false_eq_true, imp_self, implies_true, true_implies, false_implies, and_self, List.length_map, List.length_drop]
  refine aNew_intro fun b hb hbn => ?_
  obtain ⟨β, hβ⟩ : ∃ β, β = σ.set b (.cells r.cs) := ⟨_, rfl⟩
  have kb : β b = some (.cells r.cs) := by rw [hβ]; exact set_same
  have ks : ∀ x o, σ x = some o → β x = some o := by rw [hβ]; exact set_sub hb (fun _ _ h => h)
  have hbl := hr.1
  rw [← hβ]
  clear hβ
  simp only [go_sem, reduceIte, Nat.reduceEqDiff, Nat.reduceAdd, Nat.reduceMul, Nat.reduceSub, Nat.reduceLT, Nat.reduceLeDiff, Nat.le_refl, Nat.zero_le, Nat.zero_add, Nat.add_zero, Nat.mul_one, splice_zero, Int.toNat_natCast, Int.natCast_nonneg, Int.reduceLE, Int.reduceLT, Int.reduceToNat, Int.reduceEq, Int.cast_ofNat_Int, ne_eq, not_true_eq_false, not_false_eq_true, imp_self, implies_true, true_implies, false_implies, and_self, List.length_map, List.length_drop]
  refine aNew_intro fun o ho hon => ?_
  have kb1 : (β.set o (.cells [nilS])) b = some (.cells r.cs) := set_sub ho (fun _ _ h => h) _ _ kb
  simp only [go_sem, kb1, reduceIte, Nat.reduceEqDiff, Nat.reduceAdd, Nat.reduceMul, Nat.reduceSub, Nat.reduceLT, Nat.reduceLeDiff, Nat.le_refl, Nat.zero_le, Nat.zero_add, Nat.add_zero, Nat.mul_one, splice_zero, Int.toNat_natCast, Int.natCast_nonneg, Int.reduceLE, Int.reduceLT, Int.reduceToNat, Int.reduceEq, Int.cast_ofNat_Int, ne_eq, not_true_eq_false, not_false_eq_true, imp_self, implies_true, true_implies, false_implies, and_self, List.length_map, List.length_drop]
  refine aNew_intro fun v hv hvn => ?_
  have hvo : o ≠ v := hvn o _ set_same
  have kb2 : ∀ ob, ((β.set o (.cells [nilS])).set v ob) b = some (.cells r.cs) := fun ob => set_sub hv (fun _ _ h => h) _ _ kb1
  simp only [go_sem, kb2, set_same, reduceIte, Nat.reduceEqDiff, Nat.reduceAdd, Nat.reduceMul, Nat.reduceSub, Nat.reduceLT, Nat.reduceLeDiff, Nat.le_refl, Nat.zero_le, Nat.zero_add, Nat.add_zero, Nat.mul_one, splice_zero, Int.toNat_natCast, Int.natCast_nonneg, Int.reduceLE, Int.reduceLT, Int.reduceToNat, Int.reduceEq, Int.cast_ofNat_Int, ne_eq, not_true_eq_false, not_false_eq_true, imp_self, implies_true, true_implies, false_implies, and_self, List.length_map, List.length_drop]
  simp only [aFunc, exacts]
  simp only [go_sem, kb2, set_same, reduceIte, Nat.reduceEqDiff, Nat.reduceAdd, Nat.reduceMul, Nat.reduceSub, Nat.reduceLT, Nat.reduceLeDiff, Nat.le_refl, Nat.zero_le, Nat.zero_add, Nat.add_zero, Nat.mul_one, splice_zero, Int.toNat_natCast, Int.natCast_nonneg, Int.reduceLE, Int.reduceLT, Int.reduceToNat, Int.reduceEq, Int.cast_ofNat_Int, ne_eq, not_true_eq_false, not_false_eq_true, imp_self, implies_true, true_implies, false_implies, and_self, List.length_map, List.length_drop]
  apply meet_by (fun fr σ' => ∃ ou vs, PO β σ' o v (nats ou) vs ∧ LO r first ou vs ∧ fr 2 = ptr b ∧ fr 5 = ptr o ∧ fr 6 = ptr v ∧ fr 7 = .v (.func (.func 28) #[] #[.pointer (some ⟨o, 0, none⟩), .pointer (some ⟨b, 0, none⟩), .pointer (some ⟨v, 0, none⟩)]))
  case h1 =>
    intro key
    have no1 : ∀ x, ¬ Own (.fsl 1 [[str r.ho.v]]) x := fun x ⟨n, c, e⟩ => by cases e
    have no2 : ∀ x, ¬ Own (.v (.slice none 0 0)) x := fun x ⟨n, c, e⟩ => by cases e
    have r0 : PO β ((β.set o (.cells [nilS])).set v (.cells [.fsl 1 [[str r.ho.v]]])) o v (nats []) [r.ho.v] := by
      refine ⟨nilS, .fsl 1 [[str r.ho.v]], ⟨by rw [set_ne hvo]; exact set_same, .none⟩, ⟨set_same, .full⟩, fun x => ?_, fun x p hx => ?_⟩
      · by_cases e : x = o
        · subst e; exact .inr ⟨hvo, no1 x⟩
        · exact .inl ⟨e, no2 x⟩
      · have h1 : x ≠ o := hon x p hx
        have h2 : x ≠ v := hvn x p (by rw [set_ne h1]; exact hx)
        exact ⟨by rw [set_ne h2, set_ne h1]; exact hx, ⟨h1, no2 x⟩, h2, no1 x⟩
    by_cases h0 : 0 ≤ first
    · by_cases h1 : first < r.bo.length
      · have hk : first.toNat < r.bo.length := by omega
        simp only [go_sem, kb2, decide_eq_true h0, decide_eq_true h1, reduceIte, Nat.reduceEqDiff, Nat.reduceAdd, Nat.reduceMul, Nat.reduceSub, Nat.reduceLT, Nat.reduceLeDiff, Nat.le_refl, Nat.zero_le, Nat.zero_add, Nat.add_zero, Nat.mul_one, splice_zero, Int.toNat_natCast, Int.natCast_nonneg, Int.reduceLE, Int.reduceLT, Int.reduceToNat, Int.reduceEq, Int.cast_ofNat_Int, ne_eq, not_true_eq_false, not_false_eq_true, imp_self, implies_true, true_implies, false_implies, and_self, List.length_map, List.length_drop]
        have e0 : int first = int (first.toNat : Nat) := by rw [Int.toNat_of_nonneg h0]
        rw [e0]
        refine (take_at r hk kb r0 (by simp) (by simp) (by have := hr.2 _ (List.getElem_mem hk); omega)).mono ?_
        rintro _ σ1 h2
        simp only [go_sem, reduceIte, Nat.reduceEqDiff, Nat.reduceAdd, Nat.reduceMul, Nat.reduceSub, Nat.reduceLT, Nat.reduceLeDiff, Nat.le_refl, Nat.zero_le, Nat.zero_add, Nat.add_zero, Nat.mul_one, splice_zero, Int.toNat_natCast, Int.natCast_nonneg, Int.reduceLE, Int.reduceLT, Int.reduceToNat, Int.reduceEq, Int.cast_ofNat_Int, ne_eq, not_true_eq_false, not_false_eq_true, imp_self, implies_true, true_implies, false_implies, and_self, List.length_map, List.length_drop]
        refine key _ _ ?_
        exact ⟨_, _, h2, .first hr h0 hk, rfl, rfl, rfl, rfl⟩
      · simp only [go_sem, kb2, decide_eq_true h0, decide_eq_false h1, reduceIte, Nat.reduceEqDiff, Nat.reduceAdd, Nat.reduceMul, Nat.reduceSub, Nat.reduceLT, Nat.reduceLeDiff, Nat.le_refl, Nat.zero_le, Nat.zero_add, Nat.add_zero, Nat.mul_one, splice_zero, Int.toNat_natCast, Int.natCast_nonneg, Int.reduceLE, Int.reduceLT, Int.reduceToNat, Int.reduceEq, Int.cast_ofNat_Int, ne_eq, not_true_eq_false, not_false_eq_true, imp_self, implies_true, true_implies, false_implies, and_self, List.length_map, List.length_drop]
        refine key _ _ ?_
        exact ⟨_, _, r0, .start fun h => h1 h.2, rfl, rfl, rfl, rfl⟩
    · simp only [go_sem, kb2, decide_eq_false h0, reduceIte, Nat.reduceEqDiff, Nat.reduceAdd, Nat.reduceMul, Nat.reduceSub, Nat.reduceLT, Nat.reduceLeDiff, Nat.le_refl, Nat.zero_le, Nat.zero_add, Nat.add_zero, Nat.mul_one, splice_zero, Int.toNat_natCast, Int.natCast_nonneg, Int.reduceLE, Int.reduceLT, Int.reduceToNat, Int.reduceEq, Int.cast_ofNat_Int, ne_eq, not_true_eq_false, not_false_eq_true, imp_self, implies_true, true_implies, false_implies, and_self, List.length_map, List.length_drop]
      refine key _ _ ?_
      exact ⟨_, _, r0, .start fun h => h0 h.1, rfl, rfl, rfl, rfl⟩
  case h2 =>
    rintro fr σ1 ⟨ou, vs, h, hL, f2, f5, f6, f7⟩
    simp only [go_sem, r_block, reduceIte, Nat.reduceEqDiff, Nat.reduceAdd, Nat.reduceMul, Nat.reduceSub, Nat.reduceLT, Nat.reduceLeDiff, Nat.le_refl, Nat.zero_le, Nat.zero_add, Nat.add_zero, Nat.mul_one, splice_zero, Int.toNat_natCast, Int.natCast_nonneg, Int.reduceLE, Int.reduceLT, Int.reduceToNat, Int.reduceEq, Int.cast_ofNat_Int, ne_eq, not_true_eq_false, not_false_eq_true, imp_self, implies_true, true_implies, false_implies, and_self, List.length_map, List.length_drop]
    refine ⟨fun m fr σ1 => ∃ ou vs, m = r.bo.length - ou.length ∧ PO β σ1 o v (nats ou) vs ∧ LO r first ou vs ∧ fr 2 = ptr b ∧ fr 5 = ptr o ∧ fr 6 = ptr v ∧ fr 7 = .v (.func (.func 28) #[] #[.pointer (some ⟨o, 0, none⟩), .pointer (some ⟨b, 0, none⟩), .pointer (some ⟨v, 0, none⟩)]), ⟨_, ou, vs, rfl, h, hL, f2, f5, f6, f7⟩, ?_⟩
    clear h hL f2 f5 f6 f7 ou vs fr σ1
    rintro m fr σ1 ⟨ou, vs, rfl, h, hL, f2, f5, f6, f7⟩
    have kb1 := h.sub _ _ kb
    have hlen := hL.len hr
    obtain ⟨lo, c1, c2, c3⟩ := h.num
    simp only [go_sem, f2, f5, f6, f7, c1, c2.len, kb1, reduceIte, Nat.reduceEqDiff, Nat.reduceAdd, Nat.reduceMul, Nat.reduceSub, Nat.reduceLT, Nat.reduceLeDiff, Nat.le_refl, Nat.zero_le, Nat.zero_add, Nat.add_zero, Nat.mul_one, splice_zero, Int.toNat_natCast, Int.natCast_nonneg, Int.reduceLE, Int.reduceLT, Int.reduceToNat, Int.reduceEq, Int.cast_ofNat_Int, ne_eq, not_true_eq_false, not_false_eq_true, imp_self, implies_true, true_implies, false_implies, and_self, List.length_map, List.length_drop]
    refine aIf_by (fun hlt => ?_) (fun hlt => ?_)
    · simp only [go_sem, r_block, f2, f5, f6, f7, kb1, reduceIte, Nat.reduceEqDiff, Nat.reduceAdd, Nat.reduceMul, Nat.reduceSub, Nat.reduceLT, Nat.reduceLeDiff, Nat.le_refl, Nat.zero_le, Nat.zero_add, Nat.add_zero, Nat.mul_one, splice_zero, Int.toNat_natCast, Int.natCast_nonneg, Int.reduceLE, Int.reduceLT, Int.reduceToNat, Int.reduceEq, Int.cast_ofNat_Int, ne_eq, not_true_eq_false, not_false_eq_true, imp_self, implies_true, true_implies, false_implies, and_self, List.length_map, List.length_drop]
      refine ⟨fun m fr σ' => ∃ k : Nat, m = r.bo.length - k ∧ k ≤ r.bo.length ∧ PO β σ' o v (nats ou) vs ∧ fr 2 = ptr b ∧ fr 5 = ptr o ∧ fr 6 = ptr v ∧ fr 7 = .v (.func (.func 28) #[] #[.pointer (some ⟨o, 0, none⟩), .pointer (some ⟨b, 0, none⟩), .pointer (some ⟨v, 0, none⟩)]) ∧ fr 8 = int (bst r.bo ou vs k).1 ∧ fr 9 = int (bst r.bo ou vs k).2 ∧ fr 39 = .sl 10 (liC r.bo) ∧ fr 40 = int r.bo.length ∧ fr 41 = int k, ⟨_, 0, rfl, by omega, h, f2, f5, f6, f7, rfl, rfl, rfl, rfl, rfl⟩, ?_⟩
      clear f2 f5 f6 f7 fr h kb1 c1 c2 c3 lo σ1
      rintro m fr σ1 ⟨k, rfl, hk, h, f2, f5, f6, f7, f8, f9, f39, f40, f41⟩
      simp only [go_sem, f40, f41, reduceIte, Nat.reduceEqDiff, Nat.reduceAdd, Nat.reduceMul, Nat.reduceSub, Nat.reduceLT, Nat.reduceLeDiff, Nat.le_refl, Nat.zero_le, Nat.zero_add, Nat.add_zero, Nat.mul_one, splice_zero, Int.toNat_natCast, Int.natCast_nonneg, Int.reduceLE, Int.reduceLT, Int.reduceToNat, Int.reduceEq, Int.cast_ofNat_Int, ne_eq, not_true_eq_false, not_false_eq_true, imp_self, implies_true, true_implies, false_implies, and_self, List.length_map, List.length_drop]
      refine aIf_by (fun hlt2 => ?_) (fun hlt2 => ?_)
      · have hkl : k < r.bo.length := by omega
        have hal := hr.2 _ (List.getElem_mem hkl)
        simp only [go_sem, r_block, f39, f41, liC_get hkl, reduceIte, Nat.reduceEqDiff, Nat.reduceAdd, Nat.reduceMul, Nat.reduceSub, Nat.reduceLT, Nat.reduceLeDiff, Nat.le_refl, Nat.zero_le, Nat.zero_add, Nat.add_zero, Nat.mul_one, splice_zero, Int.toNat_natCast, Int.natCast_nonneg, Int.reduceLE, Int.reduceLT, Int.reduceToNat, Int.reduceEq, Int.cast_ofNat_Int, ne_eq, not_true_eq_false, not_false_eq_true, imp_self, implies_true, true_implies, false_implies, and_self, List.length_map, List.length_drop]
        refine ⟨by omega, aNew_intro fun c hc hcn => ?_⟩
        have h' := h.new (ob := .cells r.bo[k].cs) hc
        obtain ⟨lo, c1, c2, c3⟩ := h'.num
        obtain ⟨γ, g1, g2, g3⟩ := h'.base
        have hcc : γ c = some (.cells r.bo[k].cs) := g3 c _ set_same (fun a e => by injection e with e; exact absurd (congrArg List.length e) (by rw [Li.len]; simp)) (fun _ _ _ e => by cases e)
        simp only [go_sem, r_block, f39, f41, liC_get hkl, set_same, f5, c1, c2.len, reduceIte, Nat.reduceEqDiff, Nat.reduceAdd, Nat.reduceMul, Nat.reduceSub, Nat.reduceLT, Nat.reduceLeDiff, Nat.le_refl, Nat.zero_le, Nat.zero_add, Nat.add_zero, Nat.mul_one, splice_zero, Int.toNat_natCast, Int.natCast_nonneg, Int.reduceLE, Int.reduceLT, Int.reduceToNat, Int.reduceEq, Int.cast_ofNat_Int, ne_eq, not_true_eq_false, not_false_eq_true, imp_self, implies_true, true_implies, false_implies, and_self, List.length_map, List.length_drop]
        revert h' c1 c2 c3 g1 g2 g3 hcc
        generalize σ1.set c (.cells r.bo[k].cs) = σ2
        intro h' c1 c2 c3 g1 g2 g3 hcc
        obtain ⟨l, hl⟩ : ∃ l, l = r.bo[k] := ⟨_, rfl⟩
        have hg : r.bo.getD k .zero = l := by rw [hl, li_getD hkl]
        rw [← hl] at hal hcc
        have hst : bst r.bo ou vs (k + 1) = if k ∉ ou ∧ (bst r.bo ou vs k).2 < (knL l vs : Int) then ((k : Int), (knL l vs : Int)) else bst r.bo ou vs k := by
          rw [← hg]; rfl
        refine ⟨fun m fr σ' => ∃ j : Nat, m = ou.length - j ∧ j ≤ ou.length ∧ σ' = σ2 ∧ k ∉ ou.take j ∧ fr 2 = ptr b ∧ fr 5 = ptr o ∧ fr 6 = ptr v ∧ fr 7 = .v (.func (.func 28) #[] #[.pointer (some ⟨o, 0, none⟩), .pointer (some ⟨b, 0, none⟩), .pointer (some ⟨v, 0, none⟩)]) ∧ fr 8 = int (bst r.bo ou vs k).1 ∧ fr 9 = int (bst r.bo ou vs k).2 ∧ fr 39 = .sl 10 (liC r.bo) ∧ fr 40 = int r.bo.length ∧ fr 41 = int k ∧ fr 10 = int k ∧ fr 11 = ptr c ∧ fr 46 = lo ∧ fr 47 = int ou.length ∧ fr 48 = int j, ⟨_, 0, rfl, by omega, rfl, by simp, f2, f5, f6, f7, f8, f9, f39, f40, f41, rfl, rfl, rfl, by rw [← nats_len ou, ← inC_len]; rfl, rfl⟩, ?_⟩
        clear f2 f5 f6 f7 f8 f9 f39 f40 f41 fr
        rintro m fr σ' ⟨j, rfl, hj, rfl, hn, f2, f5, f6, f7, f8, f9, f39, f40, f41, f10, f11, f46, f47, f48⟩
        simp only [go_sem, f47, f48, reduceIte, Nat.reduceEqDiff, Nat.reduceAdd, Nat.reduceMul, Nat.reduceSub, Nat.reduceLT, Nat.reduceLeDiff, Nat.le_refl, Nat.zero_le, Nat.zero_add, Nat.add_zero, Nat.mul_one, splice_zero, Int.toNat_natCast, Int.natCast_nonneg, Int.reduceLE, Int.reduceLT, Int.reduceToNat, Int.reduceEq, Int.cast_ofNat_Int, ne_eq, not_true_eq_false, not_false_eq_true, imp_self, implies_true, true_implies, false_implies, and_self, List.length_map, List.length_drop]
        refine aIf_by (fun hlt3 => ?_) (fun hlt3 => ?_)
        · have hjl : j < ou.length := by omega
          have ej : (inC (nats ou)).getD j [] = [int (ou[j] : Nat)] := by
            rw [inC_get (by rw [nats_len]; exact hjl)]
            simp [nats]
          simp only [go_sem, r_block, f46, f48, reduceIte, Nat.reduceEqDiff, Nat.reduceAdd, Nat.reduceMul, Nat.reduceSub, Nat.reduceLT, Nat.reduceLeDiff, Nat.le_refl, Nat.zero_le, Nat.zero_add, Nat.add_zero, Nat.mul_one, splice_zero, Int.toNat_natCast, Int.natCast_nonneg, Int.reduceLE, Int.reduceLT, Int.reduceToNat, Int.reduceEq, Int.cast_ofNat_Int, ne_eq, not_true_eq_false, not_false_eq_true, imp_self, implies_true, true_implies, false_implies, and_self, List.length_map, List.length_drop]
          refine c2.elem (by omega) (by rw [inC_len, nats_len]; omega) fun p hp => ?_
          simp only [go_sem, r_block, reduceIte, Nat.reduceEqDiff, Nat.reduceAdd, Nat.reduceMul, Nat.reduceSub, Nat.reduceLT, Nat.reduceLeDiff, Nat.le_refl, Nat.zero_le, Nat.zero_add, Nat.add_zero, Nat.mul_one, splice_zero, Int.toNat_natCast, Int.natCast_nonneg, Int.reduceLE, Int.reduceLT, Int.reduceToNat, Int.reduceEq, Int.cast_ofNat_Int, ne_eq, not_true_eq_false, not_false_eq_true, imp_self, implies_true, true_implies, false_implies, and_self, List.length_map, List.length_drop]
          refine hp.load1 (by omega) (by rw [Int.toNat_natCast, ej]; simp) ?_
          simp only [go_sem, r_block, ej, f10, reduceIte, Nat.reduceEqDiff, Nat.reduceAdd, Nat.reduceMul, Nat.reduceSub, Nat.reduceLT, Nat.reduceLeDiff, Nat.le_refl, Nat.zero_le, Nat.zero_add, Nat.add_zero, Nat.mul_one, splice_zero, Int.toNat_natCast, Int.natCast_nonneg, Int.reduceLE, Int.reduceLT, Int.reduceToNat, Int.reduceEq, Int.cast_ofNat_Int, ne_eq, not_true_eq_false, not_false_eq_true, imp_self, implies_true, true_implies, false_implies, and_self, List.length_map, List.length_drop]
          refine aIf_by (fun he => ?_) (fun he => ?_)
          · have hm : k ∈ ou := by
              have : ou[j] = k := by omega
              exact this ▸ List.getElem_mem hjl
            have e : bst r.bo ou vs (k + 1) = bst r.bo ou vs k := by rw [hst, if_neg fun h => h.1 hm]
            simp only [go_sem, r_block, f2, f5, f6, f7, f8, f9, f39, f40, f41, next64 (show k < 9223372036854775807 by omega), reduceIte, Nat.reduceEqDiff, Nat.reduceAdd, Nat.reduceMul, Nat.reduceSub, Nat.reduceLT, Nat.reduceLeDiff, Nat.le_refl, Nat.zero_le, Nat.zero_add, Nat.add_zero, Nat.mul_one, splice_zero, Int.toNat_natCast, Int.natCast_nonneg, Int.reduceLE, Int.reduceLT, Int.reduceToNat, Int.reduceEq, Int.cast_ofNat_Int, ne_eq, not_true_eq_false, not_false_eq_true, imp_self, implies_true, true_implies, false_implies, and_self, List.length_map, List.length_drop]
            exact ⟨r.bo.length - (k + 1), by omega, k + 1, rfl, by omega, h', by rw [e], by rw [e], rfl⟩
          · simp only [go_sem, r_block, f2, f5, f6, f7, f8, f9, f39, f40, f41, f10, f11, f46, f47, f48, next64 (show j < 9223372036854775807 by omega), reduceIte, Nat.reduceEqDiff, Nat.reduceAdd, Nat.reduceMul, Nat.reduceSub, Nat.reduceLT, Nat.reduceLeDiff, Nat.le_refl, Nat.zero_le, Nat.zero_add, Nat.add_zero, Nat.mul_one, splice_zero, Int.toNat_natCast, Int.natCast_nonneg, Int.reduceLE, Int.reduceLT, Int.reduceToNat, Int.reduceEq, Int.cast_ofNat_Int, ne_eq, not_true_eq_false, not_false_eq_true, imp_self, implies_true, true_implies, false_implies, and_self, List.length_map, List.length_drop]
            refine ⟨ou.length - (j + 1), by omega, j + 1, rfl, by omega, ?_, rfl⟩
            rw [List.take_add_one, List.getElem?_eq_getElem hjl]
            simp only [Option.toList, List.mem_append, List.mem_singleton, not_or]
            exact ⟨hn, fun e => he (by rw [← e])⟩
        · have hn : k ∉ ou := by
            rw [List.take_of_length_le (by omega)] at hn; exact hn
          obtain ⟨lw, d1, d2, d3⟩ := h'.var
          simp only [go_sem, r_block, f2, f5, f6, f10, f11, g1.sub _ _ hcc, Li.len, d1, reduceIte, Nat.reduceEqDiff, Nat.reduceAdd, Nat.reduceMul, Nat.reduceSub, Nat.reduceLT, Nat.reduceLeDiff, Nat.le_refl, Nat.zero_le, Nat.zero_add, Nat.add_zero, Nat.mul_one, splice_zero, Int.toNat_natCast, Int.natCast_nonneg, Int.reduceLE, Int.reduceLT, Int.reduceToNat, Int.reduceEq, Int.cast_ofNat_Int, ne_eq, not_true_eq_false, not_false_eq_true, imp_self, implies_true, true_implies, false_implies, and_self, List.length_map, List.length_drop]
          refine (knows_at l (by omega) (by omega) (.of d2)).mono ?_
          rintro _ σ1 ⟨rfl, rfl⟩
          simp only [go_sem, r_block, f9, reduceIte, Nat.reduceEqDiff, Nat.reduceAdd, Nat.reduceMul, Nat.reduceSub, Nat.reduceLT, Nat.reduceLeDiff, Nat.le_refl, Nat.zero_le, Nat.zero_add, Nat.add_zero, Nat.mul_one, splice_zero, Int.toNat_natCast, Int.natCast_nonneg, Int.reduceLE, Int.reduceLT, Int.reduceToNat, Int.reduceEq, Int.cast_ofNat_Int, ne_eq, not_true_eq_false, not_false_eq_true, imp_self, implies_true, true_implies, false_implies, and_self, List.length_map, List.length_drop]
          refine aIf_by (fun g2 => ?_) (fun g2 => ?_)
          · have e : bst r.bo ou vs (k + 1) = ((k : Int), (knL l vs : Int)) := by rw [hst, if_pos ⟨hn, g2⟩]
            simp only [go_sem, r_block, f2, f5, f6, f7, f8, f9, f39, f40, f41, f10, next64 (show k < 9223372036854775807 by omega), reduceIte, Nat.reduceEqDiff, Nat.reduceAdd, Nat.reduceMul, Nat.reduceSub, Nat.reduceLT, Nat.reduceLeDiff, Nat.le_refl, Nat.zero_le, Nat.zero_add, Nat.add_zero, Nat.mul_one, splice_zero, Int.toNat_natCast, Int.natCast_nonneg, Int.reduceLE, Int.reduceLT, Int.reduceToNat, Int.reduceEq, Int.cast_ofNat_Int, ne_eq, not_true_eq_false, not_false_eq_true, imp_self, implies_true, true_implies, false_implies, and_self, List.length_map, List.length_drop]
            exact ⟨r.bo.length - (k + 1), by omega, k + 1, rfl, by omega, h', by rw [e], by rw [e], rfl⟩
          · have e : bst r.bo ou vs (k + 1) = bst r.bo ou vs k := by rw [hst, if_neg fun h => g2 h.2]
            simp only [go_sem, r_block, f2, f5, f6, f7, f8, f9, f39, f40, f41, f10, next64 (show k < 9223372036854775807 by omega), reduceIte, Nat.reduceEqDiff, Nat.reduceAdd, Nat.reduceMul, Nat.reduceSub, Nat.reduceLT, Nat.reduceLeDiff, Nat.le_refl, Nat.zero_le, Nat.zero_add, Nat.add_zero, Nat.mul_one, splice_zero, Int.toNat_natCast, Int.natCast_nonneg, Int.reduceLE, Int.reduceLT, Int.reduceToNat, Int.reduceEq, Int.cast_ofNat_Int, ne_eq, not_true_eq_false, not_false_eq_true, imp_self, implies_true, true_implies, false_implies, and_self, List.length_map, List.length_drop]
            exact ⟨r.bo.length - (k + 1), by omega, k + 1, rfl, by omega, h', by rw [e], by rw [e], rfl⟩
      · obtain rfl : k = r.bo.length := by omega
        obtain ⟨c, hc, e, hN⟩ := hL.next hr (by omega)
        rw [e] at f8
        simp only [go_sem, r_block, f7, f8, reduceIte, Nat.reduceEqDiff, Nat.reduceAdd, Nat.reduceMul, Nat.reduceSub, Nat.reduceLT, Nat.reduceLeDiff, Nat.le_refl, Nat.zero_le, Nat.zero_add, Nat.add_zero, Nat.mul_one, splice_zero, Int.toNat_natCast, Int.natCast_nonneg, Int.reduceLE, Int.reduceLT, Int.reduceToNat, Int.reduceEq, Int.cast_ofNat_Int, ne_eq, not_true_eq_false, not_false_eq_true, imp_self, implies_true, true_implies, false_implies, and_self, List.length_map, List.length_drop]
        refine (take_at r hc kb h (by omega) (by omega) (by have := hr.2 _ (List.getElem_mem hc); omega)).mono ?_
        rintro _ σ2 h2
        simp only [go_sem, r_block, f2, f5, f6, f7, reduceIte, Nat.reduceEqDiff, Nat.reduceAdd, Nat.reduceMul, Nat.reduceSub, Nat.reduceLT, Nat.reduceLeDiff, Nat.le_refl, Nat.zero_le, Nat.zero_add, Nat.add_zero, Nat.mul_one, splice_zero, Int.toNat_natCast, Int.natCast_nonneg, Int.reduceLE, Int.reduceLT, Int.reduceToNat, Int.reduceEq, Int.cast_ofNat_Int, ne_eq, not_true_eq_false, not_false_eq_true, imp_self, implies_true, true_implies, false_implies, and_self, List.length_map, List.length_drop]
        have := perm_len _ _ hN.1
        simp only [List.length_append, List.length_cons, List.length_nil] at this
        exact ⟨_, by simp only [List.length_append, List.length_cons, List.length_nil]; omega, _, _, rfl, h2, hN, f2, f5, f6, f7⟩
    · simp only [go_sem, r_block, f5, c1, reduceIte, Nat.reduceEqDiff, Nat.reduceAdd, Nat.reduceMul, Nat.reduceSub, Nat.reduceLT, Nat.reduceLeDiff, Nat.le_refl, Nat.zero_le, Nat.zero_add, Nat.add_zero, Nat.mul_one, splice_zero, Int.toNat_natCast, Int.natCast_nonneg, Int.reduceLE, Int.reduceLT, Int.reduceToNat, Int.reduceEq, Int.cast_ofNat_Int, ne_eq, not_true_eq_false, not_false_eq_true, imp_self, implies_true, true_implies, false_implies, and_self, List.length_map, List.length_drop]
      obtain rfl := hL.done (by omega)
      obtain ⟨lo', lw, q1, q2, q3, q4⟩ := h
      obtain rfl : lo' = lo := by
        have := q1.cell.symm.trans c1
        injection this with this
        injection this with this
        injection this
      exact aRet_view (r := lo') rfl _ σ (view_of (sv_of fun x o hx => .inl (q4 x o (ks x o hx)).1) (q1.lat.vw_same fun x hx => Classical.byContradiction fun hn => by
        obtain ⟨o, ho⟩ := Option.ne_none_iff_exists'.1 hn
        exact (q4 x o (ks x o ho)).2.1.2 hx)) ⟨rfl, rfl⟩
end
end Go.Proofs.Ythdfpankebjleaa
