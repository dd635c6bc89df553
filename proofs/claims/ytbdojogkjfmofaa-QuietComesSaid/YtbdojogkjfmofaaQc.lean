/-
  The law QuietDoes: one node's part and the document's, side by side.
  Conditions: none.
-/
import Derived.Test.YtbdojogkjfmofaaQb
import Derived.Test.YtbdojogkjfmofaaAvRow
set_option linter.unusedVariables false
set_option linter.unusedSimpArgs false
namespace Go.Proofs.Ytbdojogkjfmofaa
open Go Go.Av

/-- The two are alike, behind so many acts. -/
structure Alike (s : Qs) (r : Rs) (root : Bool) (n : Nat) : Prop where
  made : s.made = true
  root1 : s.root = root
  root2 : r.root = root
  busy : s.busy = r.busy
  by' : s.by' = r.by'
  debt : s.debt = r.debt
  ge : 0 ≤ s.debt
  le : s.debt ≤ n
  none : root = true → s.by' = nost

section
variable {s : Qs} {r : Rs} {root : Bool} {n : Nat}
theorem alike_new : Alike ⟨false, nost, 0, root, true⟩ ⟨root, false, nost, 0⟩ root n := ⟨rfl, rfl, rfl, rfl, rfl, rfl, Int.le_refl _, Int.natCast_nonneg n, fun _ => rfl⟩
theorem Alike.begin (h : Alike s r root n) (hn : n ≤ 2000) : s.begin.1 = r.begin.1 ∧ Alike s.begin.2 r.begin.2 root (n + 1) := by
  obtain ⟨busy, by', debt, ro, made⟩ := s
  obtain ⟨ro', busy', by'', debt'⟩ := r
  obtain ⟨h1, h2, h3, h4, h5, h6, h7, h8, h9⟩ := h
  simp only at h1 h2 h3 h4 h5 h6 h7 h8 h9
  subst h1 h2 h3 h4 h5 h6
  have hA : debt ≤ ((n + 1 : Nat) : Int) := by omega
  have hB : debt + 1 ≤ ((n + 1 : Nat) : Int) := by omega
  have hC : debt - 1 ≤ ((n + 1 : Nat) : Int) := by omega
  have hD : (0 : Int) ≤ ((n + 1 : Nat) : Int) := Int.natCast_nonneg _
  unfold Qs.begin Rs.begin
  cases ro' <;> cases busy <;> exact ⟨rfl, rfl, rfl, rfl, rfl, rfl, rfl, h7, hA, h9⟩
theorem Alike.got (h : Alike s r root n) (hn : n ≤ 2000) (f : ByteArray) : (s.got f).1 = (r.got f).1 ∧ Alike (s.got f).2 (r.got f).2 root (n + 1) := by
  obtain ⟨busy, by', debt, ro, made⟩ := s
  obtain ⟨ro', busy', by'', debt'⟩ := r
  obtain ⟨h1, h2, h3, h4, h5, h6, h7, h8, h9⟩ := h
  simp only at h1 h2 h3 h4 h5 h6 h7 h8 h9
  subst h1 h2 h3 h4 h5 h6
  have hA : debt ≤ ((n + 1 : Nat) : Int) := by omega
  have hB : debt + 1 ≤ ((n + 1 : Nat) : Int) := by omega
  have hC : debt - 1 ≤ ((n + 1 : Nat) : Int) := by omega
  have hD : (0 : Int) ≤ ((n + 1 : Nat) : Int) := Int.natCast_nonneg _
  unfold Qs.got Rs.got
  cases ro' <;> cases busy <;> refine ⟨rfl, rfl, rfl, rfl, rfl, rfl, rfl, h7, hA, ?_⟩ <;> first | exact h9 | (intro h; cases h)
theorem Alike.sent (h : Alike s r root n) (hn : n ≤ 2000) : s.sent.1 = r.sent.1 ∧ Alike s.sent.2 r.sent.2 root (n + 1) := by
  obtain ⟨busy, by', debt, ro, made⟩ := s
  obtain ⟨ro', busy', by'', debt'⟩ := r
  obtain ⟨h1, h2, h3, h4, h5, h6, h7, h8, h9⟩ := h
  simp only at h1 h2 h3 h4 h5 h6 h7 h8 h9
  subst h1 h2 h3 h4 h5 h6
  have e : IntKind.i64.wrap (debt + 1) = debt + 1 := wrap64 (by omega)
  cases busy
  · exact ⟨rfl, rfl, rfl, rfl, rfl, rfl, rfl, h7, by show debt ≤ ((n + 1 : Nat) : Int); omega, h9⟩
  · exact ⟨rfl, rfl, rfl, rfl, rfl, rfl, rfl, by show 0 ≤ IntKind.i64.wrap (debt + 1); omega, by show IntKind.i64.wrap (debt + 1) ≤ ((n + 1 : Nat) : Int); omega, h9⟩
theorem Alike.signal (h : Alike s r root n) (hn : n ≤ 2000) : s.signal.1 = r.signal.1 ∧ Alike s.signal.2 r.signal.2 root (n + 1) := by
  obtain ⟨busy, by', debt, ro, made⟩ := s
  obtain ⟨ro', busy', by'', debt'⟩ := r
  obtain ⟨h1, h2, h3, h4, h5, h6, h7, h8, h9⟩ := h
  simp only at h1 h2 h3 h4 h5 h6 h7 h8 h9
  subst h1 h2 h3 h4 h5 h6
  have e : IntKind.i64.wrap (debt - 1) = debt - 1 := wrap64 (by omega)
  by_cases h0 : debt = 0
  · have e1 : (⟨busy, by', debt, ro', true⟩ : Qs).signal = (220, ⟨busy, by', debt, ro', true⟩) := by simp [Qs.signal, h0]
    have e2 : (⟨ro', busy, by', debt⟩ : Rs).signal = (220, ⟨ro', busy, by', debt⟩) := by simp [Rs.signal, h0]
    rw [e1, e2]
    exact ⟨rfl, rfl, rfl, rfl, rfl, rfl, rfl, h7, by show debt ≤ ((n + 1 : Nat) : Int); omega, h9⟩
  · have e1 : (⟨busy, by', debt, ro', true⟩ : Qs).signal = (0, ⟨busy, by', debt - 1, ro', true⟩) := by simp [Qs.signal, h0, e]
    have e2 : (⟨ro', busy, by', debt⟩ : Rs).signal = (0, ⟨ro', busy, by', debt - 1⟩) := by
      unfold Rs.signal
      rw [if_neg (by simp only; omega)]
      simp only [e]
    rw [e1, e2]
    exact ⟨rfl, rfl, rfl, rfl, rfl, rfl, rfl, by show 0 ≤ debt - 1; omega, by show debt - 1 ≤ ((n + 1 : Nat) : Int); omega, h9⟩
theorem Alike.rest (h : Alike s r root n) (hn : n ≤ 2000) : s.rest.1 = r.rest.1 ∧ Alike s.rest.2 r.rest.2 root (n + 1) := by
  obtain ⟨busy, by', debt, ro, made⟩ := s
  obtain ⟨ro', busy', by'', debt'⟩ := r
  obtain ⟨h1, h2, h3, h4, h5, h6, h7, h8, h9⟩ := h
  simp only at h1 h2 h3 h4 h5 h6 h7 h8 h9
  subst h1 h2 h3 h4 h5 h6
  by_cases h0 : 0 < debt
  · have e1 : (⟨busy, by', debt, ro', true⟩ : Qs).rest = ((nost, false, false), ⟨busy, by', debt, ro', true⟩) := by simp [Qs.rest, h0]
    have e2 : (⟨ro', busy, by', debt⟩ : Rs).rest = ((nost, false, false), ⟨ro', busy, by', debt⟩) := by simp [Rs.rest, h0]
    rw [e1, e2]
    exact ⟨rfl, rfl, rfl, rfl, rfl, rfl, rfl, h7, by show debt ≤ ((n + 1 : Nat) : Int); omega, h9⟩
  · obtain rfl : debt = 0 := by omega
    cases busy
    · exact ⟨rfl, rfl, rfl, rfl, rfl, rfl, rfl, h7, by show 0 ≤ ((n + 1 : Nat) : Int); omega, h9⟩
    · cases ro'
      · exact ⟨rfl, rfl, rfl, rfl, rfl, rfl, rfl, Int.le_refl _, by show 0 ≤ ((n + 1 : Nat) : Int); omega, fun h => by cases h⟩
      · obtain rfl := h9 rfl
        exact ⟨rfl, rfl, rfl, rfl, rfl, rfl, rfl, Int.le_refl _, by show 0 ≤ ((n + 1 : Nat) : Int); omega, fun _ => rfl⟩
theorem Alike.free (h : Alike s r root n) : s.free = !r.busy := by simp [Qs.free, h.made, h.busy]
theorem Alike.owes (h : Alike s r root n) : s.owes = r.debt := by simp [Qs.owes, h.made, h.debt]
theorem Alike.who (h : Alike s r root n) : s.who = r.by' := by simp [Qs.who, h.made, h.by']
end

/-- What one act is read as. -/
def isAct (x : List AV) : Prop := ∃ k f, x = [int k, str f]

section
variable {σ : St}
set_option maxRecDepth 100000
theorem act_at {es : List (List AV)} (he : ∀ x ∈ es, isAct x) {i : Nat} (hi : i < es.length) : ∃ k f, es.getD i [] = [int k, str f] := by
  obtain ⟨k, f, h⟩ := he es[i] (List.getElem_mem hi)
  exact ⟨k, f, by simp [List.getD_eq_getElem?_getD, hi, h]⟩

theorem quietDoes_at {root : Bool} {es : List (List AV)} (he : ∀ x ∈ es, isAct x) : AT Try.prog 5 [boo root, .sl 2 es] σ fun r _ => r = boo true := by
  refine AT.of_body Try.func5 rfl (by decide) (by kernel_rfl) (by kernel_rfl) (Nat.le_of_ble_eq_true rfl) ?_
  simp only [go_sem, reduceIte, Nat.reduceEqDiff, Nat.reduceAdd, Nat.reduceMul, Nat.reduceSub, Nat.reduceLT, Nat.reduceLeDiff, Nat.le_refl, Nat.zero_le, Nat.zero_add, Nat.add_zero, Nat.mul_one, splice_zero, Int.toNat_natCast, Int.natCast_nonneg, Int.reduceLE, Int.reduceLT, Int.reduceToNat, Int.reduceEq, Int.cast_ofNat_Int, ne_eq, not_true_eq_false, not_false_eq_true, imp_self, implies_true, true_implies, false_implies, and_self]
  refine aIf_by (fun hbig => ?_) (fun hsm => ?_)
  · simp only [go_sem, reduceIte, Nat.reduceEqDiff, Nat.reduceAdd, Nat.reduceMul, Nat.reduceSub, Nat.reduceLT, Nat.reduceLeDiff, Nat.le_refl, Nat.zero_le, Nat.zero_add, Nat.add_zero, Nat.mul_one, splice_zero, Int.toNat_natCast, Int.natCast_nonneg, Int.reduceLE, Int.reduceLT, Int.reduceToNat, Int.reduceEq, Int.cast_ofNat_Int, ne_eq, not_true_eq_false, not_false_eq_true, imp_self, implies_true, true_implies, false_implies, and_self]
    refine live_at.mono ?_
    rintro _ _ ⟨rfl, rfl⟩
    simp only [go_sem, reduceIte, Nat.reduceEqDiff, Nat.reduceAdd, Nat.reduceMul, Nat.reduceSub, Nat.reduceLT, Nat.reduceLeDiff, Nat.le_refl, Nat.zero_le, Nat.zero_add, Nat.add_zero, Nat.mul_one, splice_zero, Int.toNat_natCast, Int.natCast_nonneg, Int.reduceLE, Int.reduceLT, Int.reduceToNat, Int.reduceEq, Int.cast_ofNat_Int, ne_eq, not_true_eq_false, not_false_eq_true, imp_self, implies_true, true_implies, false_implies, and_self]
    exact aRet_as (r := boo true) rfl rfl
  have hsm : es.length ≤ 2000 := by omega
  simp only [go_sem, reduceIte, Nat.reduceEqDiff, Nat.reduceAdd, Nat.reduceMul, Nat.reduceSub, Nat.reduceLT, Nat.reduceLeDiff, Nat.le_refl, Nat.zero_le, Nat.zero_add, Nat.add_zero, Nat.mul_one, splice_zero, Int.toNat_natCast, Int.natCast_nonneg, Int.reduceLE, Int.reduceLT, Int.reduceToNat, Int.reduceEq, Int.cast_ofNat_Int, ne_eq, not_true_eq_false, not_false_eq_true, imp_self, implies_true, true_implies, false_implies, and_self]
  refine new_at.mono ?_
  rintro _ _ ⟨x, hx, rfl, rfl⟩
  simp only [go_sem, reduceIte, Nat.reduceEqDiff, Nat.reduceAdd, Nat.reduceMul, Nat.reduceSub, Nat.reduceLT, Nat.reduceLeDiff, Nat.le_refl, Nat.zero_le, Nat.zero_add, Nat.add_zero, Nat.mul_one, splice_zero, Int.toNat_natCast, Int.natCast_nonneg, Int.reduceLE, Int.reduceLT, Int.reduceToNat, Int.reduceEq, Int.cast_ofNat_Int, ne_eq, not_true_eq_false, not_false_eq_true, imp_self, implies_true, true_implies, false_implies, and_self]
  refine aNew_intro fun y hy hyn => ?_
  have hxy : x ≠ y := hyn x _ set_same
  simp only [go_sem, reduceIte, Nat.reduceEqDiff, Nat.reduceAdd, Nat.reduceMul, Nat.reduceSub, Nat.reduceLT, Nat.reduceLeDiff, Nat.le_refl, Nat.zero_le, Nat.zero_add, Nat.add_zero, Nat.mul_one, splice_zero, Int.toNat_natCast, Int.natCast_nonneg, Int.reduceLE, Int.reduceLT, Int.reduceToNat, Int.reduceEq, Int.cast_ofNat_Int, ne_eq, not_true_eq_false, not_false_eq_true, imp_self, implies_true, true_implies, false_implies, and_self]
  rw [r_block]
  simp only [go_sem, reduceIte, Nat.reduceEqDiff, Nat.reduceAdd, Nat.reduceMul, Nat.reduceSub, Nat.reduceLT, Nat.reduceLeDiff, Nat.le_refl, Nat.zero_le, Nat.zero_add, Nat.add_zero, Nat.mul_one, splice_zero, Int.toNat_natCast, Int.natCast_nonneg, Int.reduceLE, Int.reduceLT, Int.reduceToNat, Int.reduceEq, Int.cast_ofNat_Int, ne_eq, not_true_eq_false, not_false_eq_true, imp_self, implies_true, true_implies, false_implies, and_self]
  refine ⟨fun m fr σ' => ∃ (i y : Nat) (s : Qs) (r : Rs), m = es.length - i ∧ i ≤ es.length ∧ x ≠ y ∧ Alike s r root i ∧ fr 0 = boo root ∧ fr 1 = .sl 2 es ∧ fr 5 = ptr x ∧ fr 6 = ptr y ∧ fr 7 = int i ∧ σ' x = some (qO s) ∧ σ' y = some (rO r),
    ⟨_, 0, y, _, _, rfl, by omega, hxy, alike_new, rfl, rfl, rfl, rfl, rfl, by rw [set_ne hxy, set_same], by rw [set_same]; rfl⟩, ?_⟩
  rintro m fr σ' ⟨i, y, s, r, rfl, hi, hxy, hal, h0, h1, h5, h6, h7, hsx, hsy⟩
  simp only [go_sem, h1, h7, reduceIte, Nat.reduceEqDiff, Nat.reduceAdd, Nat.reduceMul, Nat.reduceSub, Nat.reduceLT, Nat.reduceLeDiff, Nat.le_refl, Nat.zero_le, Nat.zero_add, Nat.add_zero, Nat.mul_one, splice_zero, Int.toNat_natCast, Int.natCast_nonneg, Int.reduceLE, Int.reduceLT, Int.reduceToNat, Int.reduceEq, Int.cast_ofNat_Int, ne_eq, not_true_eq_false, not_false_eq_true, imp_self, implies_true, true_implies, false_implies, and_self]
  refine aIf_by (fun hlt => ?_) (fun hge => ?_)
  · have hlt : i < es.length := by omega
    obtain ⟨k, f, hkf⟩ := act_at he hlt
    simp only [go_sem, reduceIte, Nat.reduceEqDiff, Nat.reduceAdd, Nat.reduceMul, Nat.reduceSub, Nat.reduceLT, Nat.reduceLeDiff, Nat.le_refl, Nat.zero_le, Nat.zero_add, Nat.add_zero, Nat.mul_one, splice_zero, Int.toNat_natCast, Int.natCast_nonneg, Int.reduceLE, Int.reduceLT, Int.reduceToNat, Int.reduceEq, Int.cast_ofNat_Int, ne_eq, not_true_eq_false, not_false_eq_true, imp_self, implies_true, true_implies, false_implies, and_self]
    rw [r_block]
    simp only [go_sem, h1, h7, hkf, reduceIte, Nat.reduceEqDiff, Nat.reduceAdd, Nat.reduceMul, Nat.reduceSub, Nat.reduceLT, Nat.reduceLeDiff, Nat.le_refl, Nat.zero_le, Nat.zero_add, Nat.add_zero, Nat.mul_one, splice_zero, Int.toNat_natCast, Int.natCast_nonneg, Int.reduceLE, Int.reduceLT, Int.reduceToNat, Int.reduceEq, Int.cast_ofNat_Int, ne_eq, not_true_eq_false, not_false_eq_true, imp_self, implies_true, true_implies, false_implies, and_self]
    refine ⟨by omega, ?_⟩
    refine aMeet (fun fr σ' => ∃ (y : Nat) (s : Qs) (r : Rs), x ≠ y ∧ Alike s r root (i + 1) ∧ fr 0 = boo root ∧ fr 1 = .sl 2 es ∧ fr 5 = ptr x ∧ fr 6 = ptr y ∧ fr 7 = int i ∧ fr 8 = boo true ∧ σ' x = some (qO s) ∧ σ' y = some (rO r)) ?_ ?_
    · rw [r_block]
      simp only [go_sem, reduceIte, Nat.reduceEqDiff, Nat.reduceAdd, Nat.reduceMul, Nat.reduceSub, Nat.reduceLT, Nat.reduceLeDiff, Nat.le_refl, Nat.zero_le, Nat.zero_add, Nat.add_zero, Nat.mul_one, splice_zero, Int.toNat_natCast, Int.natCast_nonneg, Int.reduceLE, Int.reduceLT, Int.reduceToNat, Int.reduceEq, Int.cast_ofNat_Int, ne_eq, not_true_eq_false, not_false_eq_true, imp_self, implies_true, true_implies, false_implies, and_self]
      refine aIf_by (fun hk => ?_) (fun hk => ?_)
      · simp only [go_sem, h5, reduceIte, Nat.reduceEqDiff, Nat.reduceAdd, Nat.reduceMul, Nat.reduceSub, Nat.reduceLT, Nat.reduceLeDiff, Nat.le_refl, Nat.zero_le, Nat.zero_add, Nat.add_zero, Nat.mul_one, splice_zero, Int.toNat_natCast, Int.natCast_nonneg, Int.reduceLE, Int.reduceLT, Int.reduceToNat, Int.reduceEq, Int.cast_ofNat_Int, ne_eq, not_true_eq_false, not_false_eq_true, imp_self, implies_true, true_implies, false_implies, and_self]
        refine (begin_at hsx).mono ?_
        rintro _ _ ⟨rfl, rfl⟩
        simp only [go_sem, h6, reduceIte, Nat.reduceEqDiff, Nat.reduceAdd, Nat.reduceMul, Nat.reduceSub, Nat.reduceLT, Nat.reduceLeDiff, Nat.le_refl, Nat.zero_le, Nat.zero_add, Nat.add_zero, Nat.mul_one, splice_zero, Int.toNat_natCast, Int.natCast_nonneg, Int.reduceLE, Int.reduceLT, Int.reduceToNat, Int.reduceEq, Int.cast_ofNat_Int, ne_eq, not_true_eq_false, not_false_eq_true, imp_self, implies_true, true_implies, false_implies, and_self]
        refine (rbegin_at (b := y) (s := r) (by rw [set_ne hxy.symm]; exact hsy)).mono ?_
        rintro _ _ ⟨rfl, rfl⟩
        obtain ⟨e, hal⟩ := hal.begin (by omega)
        simp only [go_sem, h0, h1, h5, h6, h7, reduceIte, Nat.reduceEqDiff, Nat.reduceAdd, Nat.reduceMul, Nat.reduceSub, Nat.reduceLT, Nat.reduceLeDiff, Nat.le_refl, Nat.zero_le, Nat.zero_add, Nat.add_zero, Nat.mul_one, splice_zero, Int.toNat_natCast, Int.natCast_nonneg, Int.reduceLE, Int.reduceLT, Int.reduceToNat, Int.reduceEq, Int.cast_ofNat_Int, ne_eq, not_true_eq_false, not_false_eq_true, imp_self, implies_true, true_implies, false_implies, and_self]
        exact ⟨y, _, _, hxy, hal, rfl, by simp [e], by rw [set_ne hxy, set_same], set_same⟩
      simp only [go_sem, reduceIte, Nat.reduceEqDiff, Nat.reduceAdd, Nat.reduceMul, Nat.reduceSub, Nat.reduceLT, Nat.reduceLeDiff, Nat.le_refl, Nat.zero_le, Nat.zero_add, Nat.add_zero, Nat.mul_one, splice_zero, Int.toNat_natCast, Int.natCast_nonneg, Int.reduceLE, Int.reduceLT, Int.reduceToNat, Int.reduceEq, Int.cast_ofNat_Int, ne_eq, not_true_eq_false, not_false_eq_true, imp_self, implies_true, true_implies, false_implies, and_self]
      refine aIf_by (fun hk => ?_) (fun hk => ?_)
      · simp only [go_sem, reduceIte, Nat.reduceEqDiff, Nat.reduceAdd, Nat.reduceMul, Nat.reduceSub, Nat.reduceLT, Nat.reduceLeDiff, Nat.le_refl, Nat.zero_le, Nat.zero_add, Nat.add_zero, Nat.mul_one, splice_zero, Int.toNat_natCast, Int.natCast_nonneg, Int.reduceLE, Int.reduceLT, Int.reduceToNat, Int.reduceEq, Int.cast_ofNat_Int, ne_eq, not_true_eq_false, not_false_eq_true, imp_self, implies_true, true_implies, false_implies, and_self]
        refine aDraw_plan [.rd 0 false, .rd 1 false, .rd 2 false, .rd 3 false, .rd 4 false, .rd 5 true, .rd 7 false, .rd 8 false, .rd 9 false, .rd 10 false, .rd 11 false, .rd 12 true, .ef 6 [12], .ef 13 [], .rd 14 false, .rd 15 false] (by kernel_rfl) (by kernel_rfl) (by kernel_rfl) ?_
        simp only [go_sem, h1, h5, h6, h7, hkf, reduceIte, Nat.reduceEqDiff, Nat.reduceAdd, Nat.reduceMul, Nat.reduceSub, Nat.reduceLT, Nat.reduceLeDiff, Nat.le_refl, Nat.zero_le, Nat.zero_add, Nat.add_zero, Nat.mul_one, splice_zero, Int.toNat_natCast, Int.natCast_nonneg, Int.reduceLE, Int.reduceLT, Int.reduceToNat, Int.reduceEq, Int.cast_ofNat_Int, ne_eq, not_true_eq_false, not_false_eq_true, imp_self, implies_true, true_implies, false_implies, and_self]
        refine ⟨by omega, by omega, ?_⟩
        refine (got_at hsx).mono ?_
        rintro _ _ ⟨rfl, rfl⟩
        simp only [go_sem, h1, h5, h6, h7, hkf, reduceIte, Nat.reduceEqDiff, Nat.reduceAdd, Nat.reduceMul, Nat.reduceSub, Nat.reduceLT, Nat.reduceLeDiff, Nat.le_refl, Nat.zero_le, Nat.zero_add, Nat.add_zero, Nat.mul_one, splice_zero, Int.toNat_natCast, Int.natCast_nonneg, Int.reduceLE, Int.reduceLT, Int.reduceToNat, Int.reduceEq, Int.cast_ofNat_Int, ne_eq, not_true_eq_false, not_false_eq_true, imp_self, implies_true, true_implies, false_implies, and_self]
        refine (rgot_at (b := y) (s := r) (by rw [set_ne hxy.symm]; exact hsy)).mono ?_
        rintro _ _ ⟨rfl, rfl⟩
        obtain ⟨e, hal⟩ := hal.got (by omega) f
        simp only [go_sem, h0, h1, h5, h6, h7, reduceIte, Nat.reduceEqDiff, Nat.reduceAdd, Nat.reduceMul, Nat.reduceSub, Nat.reduceLT, Nat.reduceLeDiff, Nat.le_refl, Nat.zero_le, Nat.zero_add, Nat.add_zero, Nat.mul_one, splice_zero, Int.toNat_natCast, Int.natCast_nonneg, Int.reduceLE, Int.reduceLT, Int.reduceToNat, Int.reduceEq, Int.cast_ofNat_Int, ne_eq, not_true_eq_false, not_false_eq_true, imp_self, implies_true, true_implies, false_implies, and_self]
        exact ⟨y, _, _, hxy, hal, rfl, by simp [e], by rw [set_ne hxy, set_same], set_same⟩
      simp only [go_sem, reduceIte, Nat.reduceEqDiff, Nat.reduceAdd, Nat.reduceMul, Nat.reduceSub, Nat.reduceLT, Nat.reduceLeDiff, Nat.le_refl, Nat.zero_le, Nat.zero_add, Nat.add_zero, Nat.mul_one, splice_zero, Int.toNat_natCast, Int.natCast_nonneg, Int.reduceLE, Int.reduceLT, Int.reduceToNat, Int.reduceEq, Int.cast_ofNat_Int, ne_eq, not_true_eq_false, not_false_eq_true, imp_self, implies_true, true_implies, false_implies, and_self]
      refine aIf_by (fun hk => ?_) (fun hk => ?_)
      · simp only [go_sem, h5, reduceIte, Nat.reduceEqDiff, Nat.reduceAdd, Nat.reduceMul, Nat.reduceSub, Nat.reduceLT, Nat.reduceLeDiff, Nat.le_refl, Nat.zero_le, Nat.zero_add, Nat.add_zero, Nat.mul_one, splice_zero, Int.toNat_natCast, Int.natCast_nonneg, Int.reduceLE, Int.reduceLT, Int.reduceToNat, Int.reduceEq, Int.cast_ofNat_Int, ne_eq, not_true_eq_false, not_false_eq_true, imp_self, implies_true, true_implies, false_implies, and_self]
        refine (sent_at hsx).mono ?_
        rintro _ _ ⟨rfl, rfl⟩
        simp only [go_sem, h6, reduceIte, Nat.reduceEqDiff, Nat.reduceAdd, Nat.reduceMul, Nat.reduceSub, Nat.reduceLT, Nat.reduceLeDiff, Nat.le_refl, Nat.zero_le, Nat.zero_add, Nat.add_zero, Nat.mul_one, splice_zero, Int.toNat_natCast, Int.natCast_nonneg, Int.reduceLE, Int.reduceLT, Int.reduceToNat, Int.reduceEq, Int.cast_ofNat_Int, ne_eq, not_true_eq_false, not_false_eq_true, imp_self, implies_true, true_implies, false_implies, and_self]
        refine (rsent_at (b := y) (s := r) (by rw [set_ne hxy.symm]; exact hsy)).mono ?_
        rintro _ _ ⟨rfl, rfl⟩
        obtain ⟨e, hal⟩ := hal.sent (by omega)
        simp only [go_sem, h0, h1, h5, h6, h7, reduceIte, Nat.reduceEqDiff, Nat.reduceAdd, Nat.reduceMul, Nat.reduceSub, Nat.reduceLT, Nat.reduceLeDiff, Nat.le_refl, Nat.zero_le, Nat.zero_add, Nat.add_zero, Nat.mul_one, splice_zero, Int.toNat_natCast, Int.natCast_nonneg, Int.reduceLE, Int.reduceLT, Int.reduceToNat, Int.reduceEq, Int.cast_ofNat_Int, ne_eq, not_true_eq_false, not_false_eq_true, imp_self, implies_true, true_implies, false_implies, and_self]
        exact ⟨y, _, _, hxy, hal, rfl, by simp [e], by rw [set_ne hxy, set_same], set_same⟩
      simp only [go_sem, reduceIte, Nat.reduceEqDiff, Nat.reduceAdd, Nat.reduceMul, Nat.reduceSub, Nat.reduceLT, Nat.reduceLeDiff, Nat.le_refl, Nat.zero_le, Nat.zero_add, Nat.add_zero, Nat.mul_one, splice_zero, Int.toNat_natCast, Int.natCast_nonneg, Int.reduceLE, Int.reduceLT, Int.reduceToNat, Int.reduceEq, Int.cast_ofNat_Int, ne_eq, not_true_eq_false, not_false_eq_true, imp_self, implies_true, true_implies, false_implies, and_self]
      refine aIf_by (fun hk => ?_) (fun hk => ?_)
      · simp only [go_sem, h5, reduceIte, Nat.reduceEqDiff, Nat.reduceAdd, Nat.reduceMul, Nat.reduceSub, Nat.reduceLT, Nat.reduceLeDiff, Nat.le_refl, Nat.zero_le, Nat.zero_add, Nat.add_zero, Nat.mul_one, splice_zero, Int.toNat_natCast, Int.natCast_nonneg, Int.reduceLE, Int.reduceLT, Int.reduceToNat, Int.reduceEq, Int.cast_ofNat_Int, ne_eq, not_true_eq_false, not_false_eq_true, imp_self, implies_true, true_implies, false_implies, and_self]
        refine (signal_at hsx).mono ?_
        rintro _ _ ⟨rfl, rfl⟩
        simp only [go_sem, h6, reduceIte, Nat.reduceEqDiff, Nat.reduceAdd, Nat.reduceMul, Nat.reduceSub, Nat.reduceLT, Nat.reduceLeDiff, Nat.le_refl, Nat.zero_le, Nat.zero_add, Nat.add_zero, Nat.mul_one, splice_zero, Int.toNat_natCast, Int.natCast_nonneg, Int.reduceLE, Int.reduceLT, Int.reduceToNat, Int.reduceEq, Int.cast_ofNat_Int, ne_eq, not_true_eq_false, not_false_eq_true, imp_self, implies_true, true_implies, false_implies, and_self]
        refine (rsignal_at (b := y) (s := r) (by rw [set_ne hxy.symm]; exact hsy)).mono ?_
        rintro _ _ ⟨rfl, rfl⟩
        obtain ⟨e, hal⟩ := hal.signal (by omega)
        simp only [go_sem, h0, h1, h5, h6, h7, reduceIte, Nat.reduceEqDiff, Nat.reduceAdd, Nat.reduceMul, Nat.reduceSub, Nat.reduceLT, Nat.reduceLeDiff, Nat.le_refl, Nat.zero_le, Nat.zero_add, Nat.add_zero, Nat.mul_one, splice_zero, Int.toNat_natCast, Int.natCast_nonneg, Int.reduceLE, Int.reduceLT, Int.reduceToNat, Int.reduceEq, Int.cast_ofNat_Int, ne_eq, not_true_eq_false, not_false_eq_true, imp_self, implies_true, true_implies, false_implies, and_self]
        exact ⟨y, _, _, hxy, hal, rfl, by simp [e], by rw [set_ne hxy, set_same], set_same⟩
      simp only [go_sem, reduceIte, Nat.reduceEqDiff, Nat.reduceAdd, Nat.reduceMul, Nat.reduceSub, Nat.reduceLT, Nat.reduceLeDiff, Nat.le_refl, Nat.zero_le, Nat.zero_add, Nat.add_zero, Nat.mul_one, splice_zero, Int.toNat_natCast, Int.natCast_nonneg, Int.reduceLE, Int.reduceLT, Int.reduceToNat, Int.reduceEq, Int.cast_ofNat_Int, ne_eq, not_true_eq_false, not_false_eq_true, imp_self, implies_true, true_implies, false_implies, and_self]
      refine aIf_by (fun hk => ?_) (fun hk => ?_)
      · simp only [go_sem, h5, reduceIte, Nat.reduceEqDiff, Nat.reduceAdd, Nat.reduceMul, Nat.reduceSub, Nat.reduceLT, Nat.reduceLeDiff, Nat.le_refl, Nat.zero_le, Nat.zero_add, Nat.add_zero, Nat.mul_one, splice_zero, Int.toNat_natCast, Int.natCast_nonneg, Int.reduceLE, Int.reduceLT, Int.reduceToNat, Int.reduceEq, Int.cast_ofNat_Int, ne_eq, not_true_eq_false, not_false_eq_true, imp_self, implies_true, true_implies, false_implies, and_self]
        refine (rest_at hsx).mono ?_
        rintro _ _ ⟨rfl, rfl⟩
        simp only [go_sem, h6, reduceIte, Nat.reduceEqDiff, Nat.reduceAdd, Nat.reduceMul, Nat.reduceSub, Nat.reduceLT, Nat.reduceLeDiff, Nat.le_refl, Nat.zero_le, Nat.zero_add, Nat.add_zero, Nat.mul_one, splice_zero, Int.toNat_natCast, Int.natCast_nonneg, Int.reduceLE, Int.reduceLT, Int.reduceToNat, Int.reduceEq, Int.cast_ofNat_Int, ne_eq, not_true_eq_false, not_false_eq_true, imp_self, implies_true, true_implies, false_implies, and_self]
        refine (rrest_at (b := y) (s := r) (by rw [set_ne hxy.symm]; exact hsy)).mono ?_
        rintro _ _ ⟨rfl, rfl⟩
        obtain ⟨e, hal⟩ := hal.rest (by omega)
        rw [e]
        simp only [go_sem, h0, h1, h5, h6, h7, reduceIte, Nat.reduceEqDiff, Nat.reduceAdd, Nat.reduceMul, Nat.reduceSub, Nat.reduceLT, Nat.reduceLeDiff, Nat.le_refl, Nat.zero_le, Nat.zero_add, Nat.add_zero, Nat.mul_one, splice_zero, Int.toNat_natCast, Int.natCast_nonneg, Int.reduceLE, Int.reduceLT, Int.reduceToNat, Int.reduceEq, Int.cast_ofNat_Int, ne_eq, not_true_eq_false, not_false_eq_true, imp_self, implies_true, true_implies, false_implies, and_self]
        have ok : aIf true (aIf true True True) True := by simp [aIf]
        exact ⟨y, _, _, hxy, hal, rfl, by rw [set_ne hxy, set_same], set_same⟩
      simp only [go_sem, reduceIte, Nat.reduceEqDiff, Nat.reduceAdd, Nat.reduceMul, Nat.reduceSub, Nat.reduceLT, Nat.reduceLeDiff, Nat.le_refl, Nat.zero_le, Nat.zero_add, Nat.add_zero, Nat.mul_one, splice_zero, Int.toNat_natCast, Int.natCast_nonneg, Int.reduceLE, Int.reduceLT, Int.reduceToNat, Int.reduceEq, Int.cast_ofNat_Int, ne_eq, not_true_eq_false, not_false_eq_true, imp_self, implies_true, true_implies, false_implies, and_self]
      refine aIf_by (fun hk => ?_) (fun hk => ?_)
      · simp only [go_sem, h5, reduceIte, Nat.reduceEqDiff, Nat.reduceAdd, Nat.reduceMul, Nat.reduceSub, Nat.reduceLT, Nat.reduceLeDiff, Nat.le_refl, Nat.zero_le, Nat.zero_add, Nat.add_zero, Nat.mul_one, splice_zero, Int.toNat_natCast, Int.natCast_nonneg, Int.reduceLE, Int.reduceLT, Int.reduceToNat, Int.reduceEq, Int.cast_ofNat_Int, ne_eq, not_true_eq_false, not_false_eq_true, imp_self, implies_true, true_implies, false_implies, and_self]
        refine (reset_at hsx).mono ?_
        rintro _ _ rfl
        simp only [go_sem, h0, reduceIte, Nat.reduceEqDiff, Nat.reduceAdd, Nat.reduceMul, Nat.reduceSub, Nat.reduceLT, Nat.reduceLeDiff, Nat.le_refl, Nat.zero_le, Nat.zero_add, Nat.add_zero, Nat.mul_one, splice_zero, Int.toNat_natCast, Int.natCast_nonneg, Int.reduceLE, Int.reduceLT, Int.reduceToNat, Int.reduceEq, Int.cast_ofNat_Int, ne_eq, not_true_eq_false, not_false_eq_true, imp_self, implies_true, true_implies, false_implies, and_self]
        refine aNew_intro fun y' hy' hyn' => ?_
        have hxy' : x ≠ y' := hyn' x _ set_same
        simp only [go_sem, h0, h1, h5, h6, h7, reduceIte, Nat.reduceEqDiff, Nat.reduceAdd, Nat.reduceMul, Nat.reduceSub, Nat.reduceLT, Nat.reduceLeDiff, Nat.le_refl, Nat.zero_le, Nat.zero_add, Nat.add_zero, Nat.mul_one, splice_zero, Int.toNat_natCast, Int.natCast_nonneg, Int.reduceLE, Int.reduceLT, Int.reduceToNat, Int.reduceEq, Int.cast_ofNat_Int, ne_eq, not_true_eq_false, not_false_eq_true, imp_self, implies_true, true_implies, false_implies, and_self]
        have e : s.reset = ⟨false, nost, 0, root, true⟩ := by
          have hm := hal.made
          have hr := hal.root1
          obtain ⟨busy, by', debt, ro, made⟩ := s
          simp only at hm hr
          subst hm hr
          rfl
        exact ⟨y', _, _, hxy', alike_new, rfl, by rw [set_ne hxy', set_same, e], by rw [set_same]; rfl⟩
      · simp only [go_sem, h0, h1, h5, h6, h7, reduceIte, Nat.reduceEqDiff, Nat.reduceAdd, Nat.reduceMul, Nat.reduceSub, Nat.reduceLT, Nat.reduceLeDiff, Nat.le_refl, Nat.zero_le, Nat.zero_add, Nat.add_zero, Nat.mul_one, splice_zero, Int.toNat_natCast, Int.natCast_nonneg, Int.reduceLE, Int.reduceLT, Int.reduceToNat, Int.reduceEq, Int.cast_ofNat_Int, ne_eq, not_true_eq_false, not_false_eq_true, imp_self, implies_true, true_implies, false_implies, and_self]
        exact ⟨y, s, r, hxy, { hal with le := by have := hal.le; omega }, rfl, hsx, hsy⟩
    · rintro fr σ' ⟨y, s, r, hxy, hal, h0, h1, h5, h6, h7, h8, hsx, hsy⟩
      simp only [go_sem, h8, reduceIte, Nat.reduceEqDiff, Nat.reduceAdd, Nat.reduceMul, Nat.reduceSub, Nat.reduceLT, Nat.reduceLeDiff, Nat.le_refl, Nat.zero_le, Nat.zero_add, Nat.add_zero, Nat.mul_one, splice_zero, Int.toNat_natCast, Int.natCast_nonneg, Int.reduceLE, Int.reduceLT, Int.reduceToNat, Int.reduceEq, Int.cast_ofNat_Int, ne_eq, not_true_eq_false, not_false_eq_true, imp_self, implies_true, true_implies, false_implies, and_self]
      refine aDraw_plan [.rd 0 false, .rd 1 false, .rd 2 false, .rd 3 false, .rd 5 false, .rd 6 false, .rd 7 false, .rd 8 true, .ef 4 [8], .rd 9 false, .rd 10 false, .rd 11 false, .rd 12 false, .rd 14 false, .rd 15 false, .rd 16 false, .rd 17 true, .ef 13 [17], .rd 18 false, .rd 19 false, .rd 20 false, .rd 21 false, .rd 23 false, .rd 24 false, .rd 25 false, .rd 26 true, .ef 22 [26], .rd 27 false, .rd 28 false] (by kernel_rfl) (by kernel_rfl) (by kernel_rfl) ?_
      have hsy' := hsy
      unfold rO at hsy'
      simp only [go_sem, h0, h1, h5, h6, h7, h8, hsy', reduceIte, Nat.reduceEqDiff, Nat.reduceAdd, Nat.reduceMul, Nat.reduceSub, Nat.reduceLT, Nat.reduceLeDiff, Nat.le_refl, Nat.zero_le, Nat.zero_add, Nat.add_zero, Nat.mul_one, splice_zero, Int.toNat_natCast, Int.natCast_nonneg, Int.reduceLE, Int.reduceLT, Int.reduceToNat, Int.reduceEq, Int.cast_ofNat_Int, ne_eq, not_true_eq_false, not_false_eq_true, imp_self, implies_true, true_implies, false_implies, and_self]
      refine (free_at hsx).mono ?_
      rintro _ _ ⟨rfl, rfl⟩
      rw [hal.free]
      simp only [go_sem, h0, h1, h5, h6, h7, h8, hsy', reduceIte, Nat.reduceEqDiff, Nat.reduceAdd, Nat.reduceMul, Nat.reduceSub, Nat.reduceLT, Nat.reduceLeDiff, Nat.le_refl, Nat.zero_le, Nat.zero_add, Nat.add_zero, Nat.mul_one, splice_zero, Int.toNat_natCast, Int.natCast_nonneg, Int.reduceLE, Int.reduceLT, Int.reduceToNat, Int.reduceEq, Int.cast_ofNat_Int, ne_eq, not_true_eq_false, not_false_eq_true, imp_self, implies_true, true_implies, false_implies, and_self]
      rw [show decide ((!r.busy) = r.busy) = false by cases r.busy <;> rfl]
      simp only [go_sem, h0, h1, h5, h6, h7, h8, hsy', reduceIte, Nat.reduceEqDiff, Nat.reduceAdd, Nat.reduceMul, Nat.reduceSub, Nat.reduceLT, Nat.reduceLeDiff, Nat.le_refl, Nat.zero_le, Nat.zero_add, Nat.add_zero, Nat.mul_one, splice_zero, Int.toNat_natCast, Int.natCast_nonneg, Int.reduceLE, Int.reduceLT, Int.reduceToNat, Int.reduceEq, Int.cast_ofNat_Int, ne_eq, not_true_eq_false, not_false_eq_true, imp_self, implies_true, true_implies, false_implies, and_self]
      refine (debt_at hsx).mono ?_
      rintro _ _ ⟨rfl, rfl⟩
      rw [hal.owes]
      simp only [go_sem, h0, h1, h5, h6, h7, h8, hsy', reduceIte, Nat.reduceEqDiff, Nat.reduceAdd, Nat.reduceMul, Nat.reduceSub, Nat.reduceLT, Nat.reduceLeDiff, Nat.le_refl, Nat.zero_le, Nat.zero_add, Nat.add_zero, Nat.mul_one, splice_zero, Int.toNat_natCast, Int.natCast_nonneg, Int.reduceLE, Int.reduceLT, Int.reduceToNat, Int.reduceEq, Int.cast_ofNat_Int, ne_eq, not_true_eq_false, not_false_eq_true, imp_self, implies_true, true_implies, false_implies, and_self]
      refine (by_at hsx).mono ?_
      rintro _ _ ⟨rfl, rfl⟩
      rw [hal.who]
      simp only [go_sem, h0, h1, h5, h6, h7, h8, hsy', reduceIte, Nat.reduceEqDiff, Nat.reduceAdd, Nat.reduceMul, Nat.reduceSub, Nat.reduceLT, Nat.reduceLeDiff, Nat.le_refl, Nat.zero_le, Nat.zero_add, Nat.add_zero, Nat.mul_one, splice_zero, Int.toNat_natCast, Int.natCast_nonneg, Int.reduceLE, Int.reduceLT, Int.reduceToNat, Int.reduceEq, Int.cast_ofNat_Int, ne_eq, not_true_eq_false, not_false_eq_true, imp_self, implies_true, true_implies, false_implies, and_self]
      exact ⟨es.length - (i + 1), by omega, i + 1, y, s, r, rfl, by omega, hxy, hal, rfl, by rw [next64 (by omega)], hsx, hsy⟩
  · simp only [go_sem, reduceIte, Nat.reduceEqDiff, Nat.reduceAdd, Nat.reduceMul, Nat.reduceSub, Nat.reduceLT, Nat.reduceLeDiff, Nat.le_refl, Nat.zero_le, Nat.zero_add, Nat.add_zero, Nat.mul_one, splice_zero, Int.toNat_natCast, Int.natCast_nonneg, Int.reduceLE, Int.reduceLT, Int.reduceToNat, Int.reduceEq, Int.cast_ofNat_Int, ne_eq, not_true_eq_false, not_false_eq_true, imp_self, implies_true, true_implies, false_implies, and_self]
    refine live_at.mono ?_
    rintro _ _ ⟨rfl, rfl⟩
    simp only [go_sem, reduceIte, Nat.reduceEqDiff, Nat.reduceAdd, Nat.reduceMul, Nat.reduceSub, Nat.reduceLT, Nat.reduceLeDiff, Nat.le_refl, Nat.zero_le, Nat.zero_add, Nat.add_zero, Nat.mul_one, splice_zero, Int.toNat_natCast, Int.natCast_nonneg, Int.reduceLE, Int.reduceLT, Int.reduceToNat, Int.reduceEq, Int.cast_ofNat_Int, ne_eq, not_true_eq_false, not_false_eq_true, imp_self, implies_true, true_implies, false_implies, and_self]
    exact aRet_as (r := boo true) rfl rfl
end

/-- A list of acts, as it is handed in. -/
theorem acts_of {a : AV} (h : TyA Try.prog 8 38 a) : ∃ es, a = .sl 2 es ∧ es.length * 24 ≤ 140737488351232 ∧ ∀ x ∈ es, isAct x := by
  obtain ⟨es, rfl, hl, he⟩ := tyA_sl Try.underlying38 h
  have hc : Try.prog.cellsOf 44 = 2 := by kernel_rfl
  have hb : Try.prog.bytesOf 44 = 24 := by kernel_rfl
  rw [hc]
  rw [hb] at hl
  refine ⟨es, rfl, hl, fun e hm => ?_⟩
  have h1 := ty_st Try.underlying44 (he e hm)
  obtain ⟨x, y, rfl, hx, y', z, rfl, hy, rfl⟩ := h1
  obtain ⟨k, rfl, _⟩ := ty_int Try.underlying3 hx
  obtain ⟨f, rfl, _⟩ := ty_str Try.underlying9 hy
  exact ⟨k, f, rfl⟩
end Go.Proofs.Ytbdojogkjfmofaa
