/-
  The law QuietComes, walked: when all arrives and all rest, fewer and fewer are engaged.
  Conditions: none.
-/
import Derived.Test.YtbdojogkjfmofaaQg
set_option linter.unusedVariables false
set_option linter.unusedSimpArgs false
namespace Go.Proofs.Ytbdojogkjfmofaa
open Go Go.Av

section
variable {S : Nat → Qs} {ws : List W} {d : Bool} {p dep : Nat → Nat}

/-- What is still to arrive, a message counted twice. -/
def wt (ws : List W) : Nat := ws.length + ws.countP fun w => !w.sig
def allSig (ws : List W) : Prop := ∀ w ∈ ws, w.sig = true
/-- How many are engaged. -/
def bc (S : Nat → Qs) : Nat := (if (S 0).busy then 1 else 0) + (if (S 1).busy then 1 else 0) + (if (S 2).busy then 1 else 0) + (if (S 3).busy then 1 else 0)

theorem wt_cut {j : Nat} (hj : j < ws.length) : wt ws = wt (ws.take j ++ ws.drop (j + 1)) + 1 + if (ws.getD j ⟨0, 0, false⟩).sig then 0 else 1 := by
  have h := ws_cut hj
  have hl : ws.length = (ws.take j ++ ws.drop (j + 1)).length + 1 := by simp; omega
  unfold wt
  rw [hl]
  have hc : ws.countP (fun w => !w.sig) = (ws.take j ++ ws.drop (j + 1)).countP (fun w => !w.sig) + if (ws.getD j ⟨0, 0, false⟩).sig then 0 else 1 := by
    conv => lhs; rw [h]
    rw [List.countP_append, List.countP_append, List.countP_cons]
    cases (ws.getD j ⟨0, 0, false⟩).sig <;> simp <;> omega
  omega
theorem arr_wt {j : Nat} (hj : j < ws.length) : wt (arr S ws j).2.2 < wt ws := by
  have h := wt_cut hj
  unfold arr
  cases hs : (ws.getD j ⟨0, 0, false⟩).sig with
  | true => rw [hs] at h; simp only [if_true] at h ⊢; omega
  | false =>
    rw [hs] at h
    simp only [Bool.false_eq_true, if_false] at h ⊢
    split
    · have : wt (ws.take j ++ ws.drop (j + 1) ++ [⟨(ws.getD j ⟨0, 0, false⟩).frm, (ws.getD j ⟨0, 0, false⟩).to, true⟩]) = wt (ws.take j ++ ws.drop (j + 1)) + 1 := by
        unfold wt
        rw [List.countP_append]
        simp
        omega
      omega
    · omega
theorem arr_sig {j : Nat} (hj : j < ws.length) (ha : allSig ws) : allSig (arr S ws j).2.2 ∧ ∀ i, ((arr S ws j).2.1 i).busy = (S i).busy := by
  have hs : (ws.getD j ⟨0, 0, false⟩).sig = true := by
    refine ha _ ?_
    rw [List.getD_eq_getElem?_getD, List.getElem?_eq_getElem hj]
    exact List.getElem_mem hj
  unfold arr
  rw [if_pos hs]
  refine ⟨fun w hw => ha w (mem_cut hw), fun i => ?_⟩
  simp only [upd]
  split
  · rename_i hi
    rw [hi]
    unfold Qs.signal
    repeat' split
    all_goals rfl
  · rfl
theorem bc_congr {S' : Nat → Qs} (h : ∀ i, (S' i).busy = (S i).busy) : bc S' = bc S := by
  unfold bc
  rw [h 0, h 1, h 2, h 3]
theorem bc_mono {S' : Nat → Qs} (h : ∀ i, (S' i).busy = true → (S i).busy = true) : bc S' ≤ bc S := by
  have f : ∀ i, (if (S' i).busy then 1 else (0 : Nat)) ≤ if (S i).busy then 1 else 0 := fun i => by
    cases h1 : (S' i).busy with
    | false => simp
    | true => rw [h i h1]; exact Nat.le_refl _
  have h0 := f 0
  have h1 := f 1
  have h2 := f 2
  have h3 := f 3
  unfold bc
  omega
theorem bc_less {S' : Nat → Qs} (h : ∀ i, (S' i).busy = true → (S i).busy = true) {l : Nat} (hl : l < 4) (h1 : (S l).busy = true) (h2 : (S' l).busy = false) : bc S' + 1 ≤ bc S := by
  have f : ∀ i, (if (S' i).busy then 1 else (0 : Nat)) ≤ if (S i).busy then 1 else 0 := fun i => by
    cases h1 : (S' i).busy with
    | false => simp
    | true => rw [h i h1]; exact Nat.le_refl _
  have g : (if (S' l).busy then 1 else (0 : Nat)) + 1 ≤ if (S l).busy then 1 else 0 := by simp [h1, h2]
  have h0 := f 0
  have h1 := f 1
  have h2 := f 2
  have h3 := f 3
  unfold bc
  rcases (by omega : l = 0 ∨ l = 1 ∨ l = 2 ∨ l = 3) with rfl | rfl | rfl | rfl <;> omega
theorem bc_le : bc S ≤ 4 := by
  have f : ∀ i, (if (S i).busy then 1 else (0 : Nat)) ≤ 1 := fun i => by cases (S i).busy <;> simp
  have h0 := f 0
  have h1 := f 1
  have h2 := f 2
  have h3 := f 3
  unfold bc
  omega
theorem bc_pos (h : (S 0).busy = true) : 1 ≤ bc S := by
  unfold bc
  rw [h]
  simp
  omega

/-- Somebody is engaged who has engaged nobody. -/
theorem Inv.leaf (h : Inv S [] d p dep) : ∀ m i, i < 4 → (S i).busy = true → dep 1 + dep 2 + dep 3 + dep 0 - dep i = m → ∃ l, l < 4 ∧ (S l).busy = true ∧ (S l).debt = 0 := by
  intro m
  induction m using Nat.strongRecOn with
  | _ m ih =>
    intro i hi hb hm
    by_cases h0 : (S i).debt = 0
    · exact ⟨i, hi, hb, h0⟩
    · have hd := h.debt i hi
      have hdue : due [] i = 0 := rfl
      rw [hdue] at hd
      have : ∃ j, j < 4 ∧ j ≠ 0 ∧ (S j).busy = true ∧ p j = i := by
        by_cases h1 : ((S 1).busy && p 1 == i) = true
        · simp only [Bool.and_eq_true, beq_iff_eq] at h1; exact ⟨1, by omega, by omega, h1.1, h1.2⟩
        by_cases h2 : ((S 2).busy && p 2 == i) = true
        · simp only [Bool.and_eq_true, beq_iff_eq] at h2; exact ⟨2, by omega, by omega, h2.1, h2.2⟩
        by_cases h3 : ((S 3).busy && p 3 == i) = true
        · simp only [Bool.and_eq_true, beq_iff_eq] at h3; exact ⟨3, by omega, by omega, h3.1, h3.2⟩
        exfalso
        apply h0
        rw [hd]
        unfold kids
        rw [if_neg h1, if_neg h2, if_neg h3]
        rfl
      obtain ⟨j, hj, hj0, hjb, hpj⟩ := this
      have hlt := (h.par j hj hj0 hjb).2.2
      rw [hpj] at hlt
      have hle : dep j ≤ dep 1 + dep 2 + dep 3 + dep 0 := by
        rcases (by omega : j = 1 ∨ j = 2 ∨ j = 3) with rfl | rfl | rfl <;> omega
      exact ih (dep 1 + dep 2 + dep 3 + dep 0 - dep j) (by omega) j hj hjb rfl

theorem rst_other {a b j : Nat} (h : j ≠ a) : (rst S ws d a b).1 j = S j := by
  unfold rst; exact upd_ne h
theorem rst_busy {a b j : Nat} (h : ((rst S ws d a b).1 j).busy = true) : (S j).busy = true := by
  by_cases hj : j = a
  · subst hj
    have e : (rst S ws d j b).1 j = (S j).rest.2 := upd_same
    rw [e] at h
    unfold Qs.rest at h
    split at h
    · exact h
    · cases h
  · rwa [rst_other hj] at h
theorem rst_leaf {a b : Nat} (hm : (S a).made = true) (hb : (S a).busy = true) (hd : (S a).debt = 0) : ((rst S ws d a b).1 a).busy = false := by
  have e : (rst S ws d a b).1 a = (S a).rest.2 := upd_same
  rw [e]
  simp [Qs.rest, hm, hb, hd]
theorem rst_sig {a b : Nat} (h : allSig ws) : allSig (rst S ws d a b).2.1 := by
  unfold rst
  simp only
  split
  · intro w hw
    rcases List.mem_append.1 hw with hw | hw
    · exact h w hw
    · obtain rfl := List.mem_singleton.1 hw
      rfl
  · exact h
end

section
variable {σ : St}
set_option maxRecDepth 100000

theorem quietComes_at {es : List (List AV)} (he : ∀ x ∈ es, isMove x) (hl : es.length ≤ 140737488351232) : AT Try.prog 4 [.sl 3 es] σ fun r _ => r = boo true := by
  refine AT.of_body Try.func4 rfl (by decide) (by kernel_rfl) (by kernel_rfl) (Nat.le_of_ble_eq_true rfl) ?_
  simp only [go_sem, r_block, reduceIte, Nat.reduceEqDiff, Nat.reduceAdd, Nat.reduceMul, Nat.reduceSub, Nat.reduceLT, Nat.reduceLeDiff, Nat.le_refl, Nat.zero_le, Nat.zero_add, Nat.add_zero, Nat.mul_one, splice_zero, Int.toNat_natCast, Int.natCast_nonneg, Int.reduceLE, Int.reduceLT, Int.reduceToNat, Int.reduceEq, Int.cast_ofNat_Int, ne_eq, not_true_eq_false, not_false_eq_true, imp_self, implies_true, true_implies, false_implies, and_self]
  refine beginNet_at.mono ?_
  rintro _ σ1 ⟨n, q, rfl, h1⟩
  obtain ⟨lv, ho, _⟩ := h1.obj
  simp only [go_sem, r_block, ho, reduceIte, Nat.reduceEqDiff, Nat.reduceAdd, Nat.reduceMul, Nat.reduceSub, Nat.reduceLT, Nat.reduceLeDiff, Nat.le_refl, Nat.zero_le, Nat.zero_add, Nat.add_zero, Nat.mul_one, splice_zero, Int.toNat_natCast, Int.natCast_nonneg, Int.reduceLE, Int.reduceLT, Int.reduceToNat, Int.reduceEq, Int.cast_ofNat_Int, ne_eq, not_true_eq_false, not_false_eq_true, imp_self, implies_true, true_implies, false_implies, and_self]
  refine (begin_at (h1.qs 0 (by omega))).mono ?_
  rintro _ σ2 ⟨rfl, hs⟩
  rw [show (⟨false, nost, 0, decide (0 = 0), true⟩ : Qs).begin = (0, ⟨true, nost, 0, true, true⟩) from rfl] at hs ⊢
  have hg := good_start h1
  rw [← hs] at hg
  simp only [go_sem, reduceIte, Nat.reduceEqDiff, Nat.reduceAdd, Nat.reduceMul, Nat.reduceSub, Nat.reduceLT, Nat.reduceLeDiff, Nat.le_refl, Nat.zero_le, Nat.zero_add, Nat.add_zero, Nat.mul_one, splice_zero, Int.toNat_natCast, Int.natCast_nonneg, Int.reduceLE, Int.reduceLT, Int.reduceToNat, Int.reduceEq, Int.cast_ofNat_Int, ne_eq, not_true_eq_false, not_false_eq_true, imp_self, implies_true, true_implies, false_implies, and_self]
  refine aMeet (fun fr σ' => fr 3 = ptr n ∧ ∃ d, Good σ' n q d 200) ?_ ?_
  · rw [r_block]
    simp only [go_sem, r_block, reduceIte, Nat.reduceEqDiff, Nat.reduceAdd, Nat.reduceMul, Nat.reduceSub, Nat.reduceLT, Nat.reduceLeDiff, Nat.le_refl, Nat.zero_le, Nat.zero_add, Nat.add_zero, Nat.mul_one, splice_zero, Int.toNat_natCast, Int.natCast_nonneg, Int.reduceLE, Int.reduceLT, Int.reduceToNat, Int.reduceEq, Int.cast_ofNat_Int, ne_eq, not_true_eq_false, not_false_eq_true, imp_self, implies_true, true_implies, false_implies, and_self]
    refine ⟨fun m fr σ' => ∃ (i : Nat) (d : Bool), m = es.length - i ∧ i ≤ es.length ∧ i ≤ 200 ∧ fr 0 = .sl 3 es ∧ fr 3 = ptr n ∧ fr 4 = int i ∧ Good σ' n q d i, ⟨_, 0, false, rfl, by omega, by omega, rfl, rfl, rfl, hg⟩, ?_⟩
    clear hg hs h1 ho
    rintro m fr σ' ⟨i, d, rfl, hi, hi3, h0, h3, h4, hg⟩
    simp only [go_sem, r_block, h0, h3, h4, reduceIte, Nat.reduceEqDiff, Nat.reduceAdd, Nat.reduceMul, Nat.reduceSub, Nat.reduceLT, Nat.reduceLeDiff, Nat.le_refl, Nat.zero_le, Nat.zero_add, Nat.add_zero, Nat.mul_one, splice_zero, Int.toNat_natCast, Int.natCast_nonneg, Int.reduceLE, Int.reduceLT, Int.reduceToNat, Int.reduceEq, Int.cast_ofNat_Int, ne_eq, not_true_eq_false, not_false_eq_true, imp_self, implies_true, true_implies, false_implies, and_self]
    by_cases hlt : i < es.length
    · obtain ⟨k, a, b, hkab⟩ := moveAt he hlt
      rw [show decide ((i : Int) < (es.length : Int)) = true by simp; omega]
      simp only [go_sem, r_block, h0, h3, h4, reduceIte, Nat.reduceEqDiff, Nat.reduceAdd, Nat.reduceMul, Nat.reduceSub, Nat.reduceLT, Nat.reduceLeDiff, Nat.le_refl, Nat.zero_le, Nat.zero_add, Nat.add_zero, Nat.mul_one, splice_zero, Int.toNat_natCast, Int.natCast_nonneg, Int.reduceLE, Int.reduceLT, Int.reduceToNat, Int.reduceEq, Int.cast_ofNat_Int, ne_eq, not_true_eq_false, not_false_eq_true, imp_self, implies_true, true_implies, false_implies, and_self]
      by_cases h300 : i < 200
      · rw [show decide ((i : Int) < 200) = true by simp; omega]
        obtain ⟨S, ws, p, dep, g1, g2, g3⟩ := hg
        obtain ⟨lv, ho, hL⟩ := g1.obj
        simp only [go_sem, r_block, h0, h3, h4, ho, reduceIte, Nat.reduceEqDiff, Nat.reduceAdd, Nat.reduceMul, Nat.reduceSub, Nat.reduceLT, Nat.reduceLeDiff, Nat.le_refl, Nat.zero_le, Nat.zero_add, Nat.add_zero, Nat.mul_one, splice_zero, Int.toNat_natCast, Int.natCast_nonneg, Int.reduceLE, Int.reduceLT, Int.reduceToNat, Int.reduceEq, Int.cast_ofNat_Int, ne_eq, not_true_eq_false, not_false_eq_true, imp_self, implies_true, true_implies, false_implies, and_self]
        cases d with
        | true =>
          simp only [go_sem, r_block, h0, h3, h4, ho, reduceIte, Nat.reduceEqDiff, Nat.reduceAdd, Nat.reduceMul, Nat.reduceSub, Nat.reduceLT, Nat.reduceLeDiff, Nat.le_refl, Nat.zero_le, Nat.zero_add, Nat.add_zero, Nat.mul_one, splice_zero, Int.toNat_natCast, Int.natCast_nonneg, Int.reduceLE, Int.reduceLT, Int.reduceToNat, Int.reduceEq, Int.cast_ofNat_Int, ne_eq, not_true_eq_false, not_false_eq_true, imp_self, implies_true, true_implies, false_implies, and_self]
          exact ⟨true, S, ws, p, dep, g1, g2, by omega⟩
        | false =>
          simp only [go_sem, r_block, h0, h3, h4, ho, hkab, reduceIte, Nat.reduceEqDiff, Nat.reduceAdd, Nat.reduceMul, Nat.reduceSub, Nat.reduceLT, Nat.reduceLeDiff, Nat.le_refl, Nat.zero_le, Nat.zero_add, Nat.add_zero, Nat.mul_one, splice_zero, Int.toNat_natCast, Int.natCast_nonneg, Int.reduceLE, Int.reduceLT, Int.reduceToNat, Int.reduceEq, Int.cast_ofNat_Int, ne_eq, not_true_eq_false, not_false_eq_true, imp_self, implies_true, true_implies, false_implies, and_self]
          refine ⟨by omega, ?_⟩
          refine (move_at ⟨S, ws, p, dep, g1, g2, g3⟩ (by omega)).mono ?_
          rintro _ σ3 ⟨rfl, d', hg'⟩
          simp only [go_sem, r_block, h0, h3, h4, reduceIte, Nat.reduceEqDiff, Nat.reduceAdd, Nat.reduceMul, Nat.reduceSub, Nat.reduceLT, Nat.reduceLeDiff, Nat.le_refl, Nat.zero_le, Nat.zero_add, Nat.add_zero, Nat.mul_one, splice_zero, Int.toNat_natCast, Int.natCast_nonneg, Int.reduceLE, Int.reduceLT, Int.reduceToNat, Int.reduceEq, Int.cast_ofNat_Int, ne_eq, not_true_eq_false, not_false_eq_true, imp_self, implies_true, true_implies, false_implies, and_self]
          exact ⟨es.length - (i + 1), by omega, i + 1, d', rfl, by omega, by omega, by rw [next64 (by omega)], hg'⟩
      · rw [show decide ((i : Int) < 200) = false by simp; omega]
        simp only [go_sem, r_block, h0, h3, h4, reduceIte, Nat.reduceEqDiff, Nat.reduceAdd, Nat.reduceMul, Nat.reduceSub, Nat.reduceLT, Nat.reduceLeDiff, Nat.le_refl, Nat.zero_le, Nat.zero_add, Nat.add_zero, Nat.mul_one, splice_zero, Int.toNat_natCast, Int.natCast_nonneg, Int.reduceLE, Int.reduceLT, Int.reduceToNat, Int.reduceEq, Int.cast_ofNat_Int, ne_eq, not_true_eq_false, not_false_eq_true, imp_self, implies_true, true_implies, false_implies, and_self]
        obtain ⟨S, ws, p, dep, g1, g2, g3⟩ := hg
        exact ⟨d, S, ws, p, dep, g1, g2, by omega⟩
    · rw [show decide ((i : Int) < (es.length : Int)) = false by simp; omega]
      simp only [go_sem, r_block, h0, h3, h4, reduceIte, Nat.reduceEqDiff, Nat.reduceAdd, Nat.reduceMul, Nat.reduceSub, Nat.reduceLT, Nat.reduceLeDiff, Nat.le_refl, Nat.zero_le, Nat.zero_add, Nat.add_zero, Nat.mul_one, splice_zero, Int.toNat_natCast, Int.natCast_nonneg, Int.reduceLE, Int.reduceLT, Int.reduceToNat, Int.reduceEq, Int.cast_ofNat_Int, ne_eq, not_true_eq_false, not_false_eq_true, imp_self, implies_true, true_implies, false_implies, and_self]
      obtain ⟨S, ws, p, dep, g1, g2, g3⟩ := hg
      exact ⟨d, S, ws, p, dep, g1, g2, by omega⟩
  · rintro fr σ' ⟨h3, d, hg⟩
    simp only [go_sem, r_block, reduceIte, Nat.reduceEqDiff, Nat.reduceAdd, Nat.reduceMul, Nat.reduceSub, Nat.reduceLT, Nat.reduceLeDiff, Nat.le_refl, Nat.zero_le, Nat.zero_add, Nat.add_zero, Nat.mul_one, splice_zero, Int.toNat_natCast, Int.natCast_nonneg, Int.reduceLE, Int.reduceLT, Int.reduceToNat, Int.reduceEq, Int.cast_ofNat_Int, ne_eq, not_true_eq_false, not_false_eq_true, imp_self, implies_true, true_implies, false_implies, and_self]
    refine ⟨fun m fr σ' => ∃ (i : Nat) (d : Bool) (S : Nat → Qs) (ws : List W) (p dep : Nat → Nat), m = 420 - i ∧ i ≤ 420 ∧ fr 3 = ptr n ∧ fr 5 = int i ∧ NetAt σ' n q S ws d ∧ Inv S ws d p dep ∧ ws.length ≤ 200 ∧ (1 ≤ i → allSig ws ∧ (d = false → bc S + i ≤ 5)), ?_, ?_⟩
    · obtain ⟨S, ws, p, dep, g1, g2, g3⟩ := hg
      exact ⟨_, 0, d, S, ws, p, dep, rfl, by omega, by simp only [go_sem, r_block, h3, reduceIte, Nat.reduceEqDiff, Nat.reduceAdd, Nat.reduceMul, Nat.reduceSub, Nat.reduceLT, Nat.reduceLeDiff, Nat.le_refl, Nat.zero_le, Nat.zero_add, Nat.add_zero, Nat.mul_one, splice_zero, Int.toNat_natCast, Int.natCast_nonneg, Int.reduceLE, Int.reduceLT, Int.reduceToNat, Int.reduceEq, Int.cast_ofNat_Int, ne_eq, not_true_eq_false, not_false_eq_true, imp_self, implies_true, true_implies, false_implies, and_self], rfl, g1, g2, g3, fun h => by omega⟩
    clear hg h3 hs h1 ho
    rintro m fr σ' ⟨i, d, S, ws, p, dep, rfl, hi, h3, h5, g1, g2, g3, g4⟩
    obtain ⟨lv, ho, hL⟩ := g1.obj
    cases d with
    | true =>
      obtain ⟨rfl, hq⟩ := g2.quiet (by have := g2.done; simpa using this)
      have hdn : ∀ b : Bool, decide ((i : Int) < 420) = b → aIf b True True := fun b _ => by cases b <;> simp [aIf]
      simp only [go_sem, h3, h5, ho, reduceIte, Nat.reduceEqDiff, Nat.reduceAdd, Nat.reduceMul, Nat.reduceSub, Nat.reduceLT, Nat.reduceLeDiff, Nat.le_refl, Nat.zero_le, Nat.zero_add, Nat.add_zero, Nat.mul_one, splice_zero, Int.toNat_natCast, Int.natCast_nonneg, Int.reduceLE, Int.reduceLT, Int.reduceToNat, Int.reduceEq, Int.cast_ofNat_Int, ne_eq, not_true_eq_false, not_false_eq_true, imp_self, implies_true, true_implies, false_implies, and_self]
      generalize decide ((i : Int) < 420) = b
      cases b with
      | true =>
        simp only [go_sem, h3, h5, ho, reduceIte, Nat.reduceEqDiff, Nat.reduceAdd, Nat.reduceMul, Nat.reduceSub, Nat.reduceLT, Nat.reduceLeDiff, Nat.le_refl, Nat.zero_le, Nat.zero_add, Nat.add_zero, Nat.mul_one, splice_zero, Int.toNat_natCast, Int.natCast_nonneg, Int.reduceLE, Int.reduceLT, Int.reduceToNat, Int.reduceEq, Int.cast_ofNat_Int, ne_eq, not_true_eq_false, not_false_eq_true, imp_self, implies_true, true_implies, false_implies, and_self]
        refine (quietNow_at g1 hq).mono ?_
        rintro _ _ ⟨rfl, rfl⟩
        simp only [go_sem, h3, h5, ho, reduceIte, Nat.reduceEqDiff, Nat.reduceAdd, Nat.reduceMul, Nat.reduceSub, Nat.reduceLT, Nat.reduceLeDiff, Nat.le_refl, Nat.zero_le, Nat.zero_add, Nat.add_zero, Nat.mul_one, splice_zero, Int.toNat_natCast, Int.natCast_nonneg, Int.reduceLE, Int.reduceLT, Int.reduceToNat, Int.reduceEq, Int.cast_ofNat_Int, ne_eq, not_true_eq_false, not_false_eq_true, imp_self, implies_true, true_implies, false_implies, and_self]
        refine live_at.mono ?_
        rintro _ _ ⟨rfl, rfl⟩
        simp only [go_sem, reduceIte, Nat.reduceEqDiff, Nat.reduceAdd, Nat.reduceMul, Nat.reduceSub, Nat.reduceLT, Nat.reduceLeDiff, Nat.le_refl, Nat.zero_le, Nat.zero_add, Nat.add_zero, Nat.mul_one, splice_zero, Int.toNat_natCast, Int.natCast_nonneg, Int.reduceLE, Int.reduceLT, Int.reduceToNat, Int.reduceEq, Int.cast_ofNat_Int, ne_eq, not_true_eq_false, not_false_eq_true, imp_self, implies_true, true_implies, false_implies, and_self]
        exact aRet_as (r := boo true) rfl rfl
      | false =>
        simp only [go_sem, h3, h5, ho, reduceIte, Nat.reduceEqDiff, Nat.reduceAdd, Nat.reduceMul, Nat.reduceSub, Nat.reduceLT, Nat.reduceLeDiff, Nat.le_refl, Nat.zero_le, Nat.zero_add, Nat.add_zero, Nat.mul_one, splice_zero, Int.toNat_natCast, Int.natCast_nonneg, Int.reduceLE, Int.reduceLT, Int.reduceToNat, Int.reduceEq, Int.cast_ofNat_Int, ne_eq, not_true_eq_false, not_false_eq_true, imp_self, implies_true, true_implies, false_implies, and_self]
        refine (quietNow_at g1 hq).mono ?_
        rintro _ _ ⟨rfl, rfl⟩
        simp only [go_sem, h3, h5, ho, reduceIte, Nat.reduceEqDiff, Nat.reduceAdd, Nat.reduceMul, Nat.reduceSub, Nat.reduceLT, Nat.reduceLeDiff, Nat.le_refl, Nat.zero_le, Nat.zero_add, Nat.add_zero, Nat.mul_one, splice_zero, Int.toNat_natCast, Int.natCast_nonneg, Int.reduceLE, Int.reduceLT, Int.reduceToNat, Int.reduceEq, Int.cast_ofNat_Int, ne_eq, not_true_eq_false, not_false_eq_true, imp_self, implies_true, true_implies, false_implies, and_self]
        refine live_at.mono ?_
        rintro _ _ ⟨rfl, rfl⟩
        simp only [go_sem, reduceIte, Nat.reduceEqDiff, Nat.reduceAdd, Nat.reduceMul, Nat.reduceSub, Nat.reduceLT, Nat.reduceLeDiff, Nat.le_refl, Nat.zero_le, Nat.zero_add, Nat.add_zero, Nat.mul_one, splice_zero, Int.toNat_natCast, Int.natCast_nonneg, Int.reduceLE, Int.reduceLT, Int.reduceToNat, Int.reduceEq, Int.cast_ofNat_Int, ne_eq, not_true_eq_false, not_false_eq_true, imp_self, implies_true, true_implies, false_implies, and_self]
        exact aRet_as (r := boo true) rfl rfl
    | false =>
      have hb0 : (S 0).busy = true := by have := g2.done; simpa using this
      have h4 : i ≤ 4 := by
        by_cases h0 : 1 ≤ i
        · have := (g4 h0).2 rfl
          have := bc_pos hb0
          omega
        · omega
      simp only [go_sem, h3, h5, ho, reduceIte, Nat.reduceEqDiff, Nat.reduceAdd, Nat.reduceMul, Nat.reduceSub, Nat.reduceLT, Nat.reduceLeDiff, Nat.le_refl, Nat.zero_le, Nat.zero_add, Nat.add_zero, Nat.mul_one, splice_zero, Int.toNat_natCast, Int.natCast_nonneg, Int.reduceLE, Int.reduceLT, Int.reduceToNat, Int.reduceEq, Int.cast_ofNat_Int, ne_eq, not_true_eq_false, not_false_eq_true, imp_self, implies_true, true_implies, false_implies, and_self]
      rw [show decide ((i : Int) < 420) = true by simp; omega]
      simp only [go_sem, h3, h5, ho, reduceIte, Nat.reduceEqDiff, Nat.reduceAdd, Nat.reduceMul, Nat.reduceSub, Nat.reduceLT, Nat.reduceLeDiff, Nat.le_refl, Nat.zero_le, Nat.zero_add, Nat.add_zero, Nat.mul_one, splice_zero, Int.toNat_natCast, Int.natCast_nonneg, Int.reduceLE, Int.reduceLT, Int.reduceToNat, Int.reduceEq, Int.cast_ofNat_Int, ne_eq, not_true_eq_false, not_false_eq_true, imp_self, implies_true, true_implies, false_implies, and_self]
      rw [r_block]
      simp only [go_sem, h3, h5, ho, reduceIte, Nat.reduceEqDiff, Nat.reduceAdd, Nat.reduceMul, Nat.reduceSub, Nat.reduceLT, Nat.reduceLeDiff, Nat.le_refl, Nat.zero_le, Nat.zero_add, Nat.add_zero, Nat.mul_one, splice_zero, Int.toNat_natCast, Int.natCast_nonneg, Int.reduceLE, Int.reduceLT, Int.reduceToNat, Int.reduceEq, Int.cast_ofNat_Int, ne_eq, not_true_eq_false, not_false_eq_true, imp_self, implies_true, true_implies, false_implies, and_self]
      refine aMeet (fun fr σ' => fr 3 = ptr n ∧ fr 5 = int i ∧ ∃ S p dep, NetAt σ' n q S [] false ∧ Inv S [] false p dep ∧ (1 ≤ i → bc S + i ≤ 5)) ?_ ?_
      · rw [r_block]
        simp only [go_sem, reduceIte, Nat.reduceEqDiff, Nat.reduceAdd, Nat.reduceMul, Nat.reduceSub, Nat.reduceLT, Nat.reduceLeDiff, Nat.le_refl, Nat.zero_le, Nat.zero_add, Nat.add_zero, Nat.mul_one, splice_zero, Int.toNat_natCast, Int.natCast_nonneg, Int.reduceLE, Int.reduceLT, Int.reduceToNat, Int.reduceEq, Int.cast_ofNat_Int, ne_eq, not_true_eq_false, not_false_eq_true, imp_self, implies_true, true_implies, false_implies, and_self]
        refine ⟨fun m fr σ' => ∃ S ws p dep, m = wt ws ∧ fr 3 = ptr n ∧ fr 5 = int i ∧ NetAt σ' n q S ws false ∧ Inv S ws false p dep ∧ ws.length ≤ 200 ∧ (1 ≤ i → allSig ws ∧ bc S + i ≤ 5), ⟨_, S, ws, p, dep, rfl, by simp only [go_sem, h3, reduceIte, Nat.reduceEqDiff, Nat.reduceAdd, Nat.reduceMul, Nat.reduceSub, Nat.reduceLT, Nat.reduceLeDiff, Nat.le_refl, Nat.zero_le, Nat.zero_add, Nat.add_zero, Nat.mul_one, splice_zero, Int.toNat_natCast, Int.natCast_nonneg, Int.reduceLE, Int.reduceLT, Int.reduceToNat, Int.reduceEq, Int.cast_ofNat_Int, ne_eq, not_true_eq_false, not_false_eq_true, imp_self, implies_true, true_implies, false_implies, and_self], by simp only [go_sem, h5, reduceIte, Nat.reduceEqDiff, Nat.reduceAdd, Nat.reduceMul, Nat.reduceSub, Nat.reduceLT, Nat.reduceLeDiff, Nat.le_refl, Nat.zero_le, Nat.zero_add, Nat.add_zero, Nat.mul_one, splice_zero, Int.toNat_natCast, Int.natCast_nonneg, Int.reduceLE, Int.reduceLT, Int.reduceToNat, Int.reduceEq, Int.cast_ofNat_Int, ne_eq, not_true_eq_false, not_false_eq_true, imp_self, implies_true, true_implies, false_implies, and_self], g1, g2, g3, fun h => ⟨(g4 h).1, (g4 h).2 rfl⟩⟩, ?_⟩
        clear h3 h5 g1 g2 g3 g4 hb0 ho hL
        rintro m fr σ' ⟨S, ws, p, dep, rfl, h3, h5, g1, g2, g3, g4⟩
        obtain ⟨lv, ho, hL⟩ := g1.obj
        have hlen : (ws.map W.enc).length = ws.length := by simp
        simp only [go_sem, h3, h5, ho, hL.len, hlen, reduceIte, Nat.reduceEqDiff, Nat.reduceAdd, Nat.reduceMul, Nat.reduceSub, Nat.reduceLT, Nat.reduceLeDiff, Nat.le_refl, Nat.zero_le, Nat.zero_add, Nat.add_zero, Nat.mul_one, splice_zero, Int.toNat_natCast, Int.natCast_nonneg, Int.reduceLE, Int.reduceLT, Int.reduceToNat, Int.reduceEq, Int.cast_ofNat_Int, ne_eq, not_true_eq_false, not_false_eq_true, imp_self, implies_true, true_implies, false_implies, and_self]
        refine aIf_by (fun hpos => ?_) (fun hz => ?_)
        · have hpos : 0 < ws.length := by omega
          have hne : ws ≠ [] := fun e => by simp [e] at hpos
          simp only [go_sem, r_block, h3, h5, ho, reduceIte, Nat.reduceEqDiff, Nat.reduceAdd, Nat.reduceMul, Nat.reduceSub, Nat.reduceLT, Nat.reduceLeDiff, Nat.le_refl, Nat.zero_le, Nat.zero_add, Nat.add_zero, Nat.mul_one, splice_zero, Int.toNat_natCast, Int.natCast_nonneg, Int.reduceLE, Int.reduceLT, Int.reduceToNat, Int.reduceEq, Int.cast_ofNat_Int, ne_eq, not_true_eq_false, not_false_eq_true, imp_self, implies_true, true_implies, false_implies, and_self]
          refine (arrive_at g1 (k := i) g2.wok (by omega)).mono ?_
          intro r σ2 hr
          rw [if_neg hne] at hr
          obtain ⟨rfl, k1⟩ := hr
          have hj := (pos_lt (k := (i : Int)) hpos).1
          have hlen := arr_len (S := S) hj
          have hwt := arr_wt (S := S) hj
          have hbz : 1 ≤ i → allSig (arr S ws (pos i ws.length)).2.2 ∧ bc (arr S ws (pos i ws.length)).2.1 + i ≤ 5 := fun h => by
            obtain ⟨s1, s2⟩ := arr_sig (S := S) hj (g4 h).1
            exact ⟨s1, by rw [bc_congr s2]; exact (g4 h).2⟩
          have hok : (arr S ws (pos i ws.length)).1 = true ∧ ∃ p' dep', Inv (arr S ws (pos i ws.length)).2.1 (arr S ws (pos i ws.length)).2.2 false p' dep' := by
            cases hsg : (ws.getD (pos i ws.length) ⟨0, 0, false⟩).sig with
            | true =>
              obtain ⟨e, h5⟩ := g2.arrSig hj hsg (by omega)
              exact ⟨e, p, dep, h5⟩
            | false => exact g2.arrMsg hj hsg
          obtain ⟨e, p', dep', k2⟩ := hok
          rw [e]
          simp only [go_sem, r_block, h3, h5, reduceIte, Nat.reduceEqDiff, Nat.reduceAdd, Nat.reduceMul, Nat.reduceSub, Nat.reduceLT, Nat.reduceLeDiff, Nat.le_refl, Nat.zero_le, Nat.zero_add, Nat.add_zero, Nat.mul_one, splice_zero, Int.toNat_natCast, Int.natCast_nonneg, Int.reduceLE, Int.reduceLT, Int.reduceToNat, Int.reduceEq, Int.cast_ofNat_Int, ne_eq, not_true_eq_false, not_false_eq_true, imp_self, implies_true, true_implies, false_implies, and_self]
          exact ⟨_, hwt, _, _, p', dep', rfl, k1, k2, by omega, hbz⟩
        · have : ws = [] := by
            cases ws with
            | nil => rfl
            | cons => simp at hz
          subst this
          simp only [go_sem, r_block, h3, h5, reduceIte, Nat.reduceEqDiff, Nat.reduceAdd, Nat.reduceMul, Nat.reduceSub, Nat.reduceLT, Nat.reduceLeDiff, Nat.le_refl, Nat.zero_le, Nat.zero_add, Nat.add_zero, Nat.mul_one, splice_zero, Int.toNat_natCast, Int.natCast_nonneg, Int.reduceLE, Int.reduceLT, Int.reduceToNat, Int.reduceEq, Int.cast_ofNat_Int, ne_eq, not_true_eq_false, not_false_eq_true, imp_self, implies_true, true_implies, false_implies, and_self]
          exact ⟨S, p, dep, g1, g2, fun h => (g4 h).2⟩
      · clear h3 h5 g1 g2 g3 g4 hb0 ho hL
        rintro fr σ' ⟨h3, h5, S, p, dep, g1, g2, g4⟩
        have hb0 : (S 0).busy = true := by have := g2.done; simpa using this
        obtain ⟨l, hl4, hlb, hld⟩ := g2.leaf _ 0 (by omega) hb0 rfl
        simp only [go_sem, h3, h5, reduceIte, Nat.reduceEqDiff, Nat.reduceAdd, Nat.reduceMul, Nat.reduceSub, Nat.reduceLT, Nat.reduceLeDiff, Nat.le_refl, Nat.zero_le, Nat.zero_add, Nat.add_zero, Nat.mul_one, splice_zero, Int.toNat_natCast, Int.natCast_nonneg, Int.reduceLE, Int.reduceLT, Int.reduceToNat, Int.reduceEq, Int.cast_ofNat_Int, ne_eq, not_true_eq_false, not_false_eq_true, imp_self, implies_true, true_implies, false_implies, and_self]
        rw [r_block]
        simp only [go_sem, reduceIte, Nat.reduceEqDiff, Nat.reduceAdd, Nat.reduceMul, Nat.reduceSub, Nat.reduceLT, Nat.reduceLeDiff, Nat.le_refl, Nat.zero_le, Nat.zero_add, Nat.add_zero, Nat.mul_one, splice_zero, Int.toNat_natCast, Int.natCast_nonneg, Int.reduceLE, Int.reduceLT, Int.reduceToNat, Int.reduceEq, Int.cast_ofNat_Int, ne_eq, not_true_eq_false, not_false_eq_true, imp_self, implies_true, true_implies, false_implies, and_self]
        refine ⟨fun m fr σ' => ∃ (a : Int) (S' : Nat → Qs) (ws : List W) (d : Bool), m = (a + 1).toNat ∧ -1 ≤ a ∧ a ≤ 3 ∧ fr 3 = ptr n ∧ fr 5 = int i ∧ fr 6 = int a ∧ NetAt σ' n q S' ws d ∧ Inv S' ws d p dep ∧ ws.length ≤ 3 - a ∧ allSig ws ∧
          (∀ j, (S' j).busy = true → (S j).busy = true) ∧ ((l : Int) ≤ a → S' l = S l) ∧ (a < l → (S' l).busy = false),
          ⟨_, 3, S, [], false, rfl, by omega, by omega, by simp only [go_sem, h3, reduceIte, Nat.reduceEqDiff, Nat.reduceAdd, Nat.reduceMul, Nat.reduceSub, Nat.reduceLT, Nat.reduceLeDiff, Nat.le_refl, Nat.zero_le, Nat.zero_add, Nat.add_zero, Nat.mul_one, splice_zero, Int.toNat_natCast, Int.natCast_nonneg, Int.reduceLE, Int.reduceLT, Int.reduceToNat, Int.reduceEq, Int.cast_ofNat_Int, ne_eq, not_true_eq_false, not_false_eq_true, imp_self, implies_true, true_implies, false_implies, and_self], by simp only [go_sem, h5, reduceIte, Nat.reduceEqDiff, Nat.reduceAdd, Nat.reduceMul, Nat.reduceSub, Nat.reduceLT, Nat.reduceLeDiff, Nat.le_refl, Nat.zero_le, Nat.zero_add, Nat.add_zero, Nat.mul_one, splice_zero, Int.toNat_natCast, Int.natCast_nonneg, Int.reduceLE, Int.reduceLT, Int.reduceToNat, Int.reduceEq, Int.cast_ofNat_Int, ne_eq, not_true_eq_false, not_false_eq_true, imp_self, implies_true, true_implies, false_implies, and_self], by simp only [go_sem, reduceIte, Nat.reduceEqDiff, Nat.reduceAdd, Nat.reduceMul, Nat.reduceSub, Nat.reduceLT, Nat.reduceLeDiff, Nat.le_refl, Nat.zero_le, Nat.zero_add, Nat.add_zero, Nat.mul_one, splice_zero, Int.toNat_natCast, Int.natCast_nonneg, Int.reduceLE, Int.reduceLT, Int.reduceToNat, Int.reduceEq, Int.cast_ofNat_Int, ne_eq, not_true_eq_false, not_false_eq_true, imp_self, implies_true, true_implies, false_implies, and_self], g1, g2, by simp, fun w hw => (by cases hw), fun j h => h, fun _ => rfl, fun h => (by omega)⟩, ?_⟩
        clear h3 h5
        rintro m fr σ' ⟨a, S', ws, d, rfl, ha1, ha3, h3, h5, h6, k1, k2, k3, k4, k5, k6, k7⟩
        obtain ⟨lv, ho, hL⟩ := k1.obj
        simp only [go_sem, h3, h5, h6, reduceIte, Nat.reduceEqDiff, Nat.reduceAdd, Nat.reduceMul, Nat.reduceSub, Nat.reduceLT, Nat.reduceLeDiff, Nat.le_refl, Nat.zero_le, Nat.zero_add, Nat.add_zero, Nat.mul_one, splice_zero, Int.toNat_natCast, Int.natCast_nonneg, Int.reduceLE, Int.reduceLT, Int.reduceToNat, Int.reduceEq, Int.cast_ofNat_Int, ne_eq, not_true_eq_false, not_false_eq_true, imp_self, implies_true, true_implies, false_implies, and_self]
        refine aIf_by (fun hge => ?_) (fun hlt => ?_)
        · obtain ⟨x, rfl⟩ : ∃ x : Nat, a = x := ⟨a.toNat, by omega⟩
          have hx : x < 4 := by omega
          obtain ⟨r1, r2, r3⟩ := k2.rest hx
          simp only [go_sem, r_block, h3, h5, h6, reduceIte, Nat.reduceEqDiff, Nat.reduceAdd, Nat.reduceMul, Nat.reduceSub, Nat.reduceLT, Nat.reduceLeDiff, Nat.le_refl, Nat.zero_le, Nat.zero_add, Nat.add_zero, Nat.mul_one, splice_zero, Int.toNat_natCast, Int.natCast_nonneg, Int.reduceLE, Int.reduceLT, Int.reduceToNat, Int.reduceEq, Int.cast_ofNat_Int, ne_eq, not_true_eq_false, not_false_eq_true, imp_self, implies_true, true_implies, false_implies, and_self]
          refine (netRest_at k1 hx (by omega) r1 r2).mono ?_
          rintro _ σ2 ⟨rfl, q1⟩
          simp only [go_sem, r_block, h3, h5, h6, reduceIte, Nat.reduceEqDiff, Nat.reduceAdd, Nat.reduceMul, Nat.reduceSub, Nat.reduceLT, Nat.reduceLeDiff, Nat.le_refl, Nat.zero_le, Nat.zero_add, Nat.add_zero, Nat.mul_one, splice_zero, Int.toNat_natCast, Int.natCast_nonneg, Int.reduceLE, Int.reduceLT, Int.reduceToNat, Int.reduceEq, Int.cast_ofNat_Int, ne_eq, not_true_eq_false, not_false_eq_true, imp_self, implies_true, true_implies, false_implies, and_self]
          rw [wrap64 (by omega)]
          have hlen := rst_len (S := S') (ws := ws) (d := d) (a := x) (b := p x)
          refine ⟨_, by omega, (x : Int) - 1, _, _, _, rfl, by omega, by omega, rfl, q1, r3, by omega, rst_sig k4, fun j hj => k5 j (rst_busy hj), fun hle => ?_, fun hlt => ?_⟩
          · rw [rst_other (by omega)]
            exact k6 (by omega)
          · by_cases hlx : l = x
            · subst hlx
              have e := k6 (by omega)
              exact rst_leaf (k2.made l hl4) (by rw [e]; exact hlb) (by rw [e]; exact hld)
            · rw [rst_other hlx]
              exact k7 (by omega)
        · have hless := bc_less (S' := S') k5 hl4 hlb (k7 (by omega))
          simp only [go_sem, r_block, h3, h5, h6, reduceIte, Nat.reduceEqDiff, Nat.reduceAdd, Nat.reduceMul, Nat.reduceSub, Nat.reduceLT, Nat.reduceLeDiff, Nat.le_refl, Nat.zero_le, Nat.zero_add, Nat.add_zero, Nat.mul_one, splice_zero, Int.toNat_natCast, Int.natCast_nonneg, Int.reduceLE, Int.reduceLT, Int.reduceToNat, Int.reduceEq, Int.cast_ofNat_Int, ne_eq, not_true_eq_false, not_false_eq_true, imp_self, implies_true, true_implies, false_implies, and_self]
          have h4 : bc S' + (i + 1) ≤ 5 := by
            by_cases h0 : 1 ≤ i
            · have := g4 h0
              omega
            · have := bc_le (S := S)
              omega
          exact ⟨420 - (i + 1), by omega, i + 1, d, S', ws, p, dep, rfl, by omega, by rw [next64 (by omega)], k1, k2, by omega, fun _ => ⟨k4, fun _ => h4⟩⟩
end
end Go.Proofs.Ytbdojogkjfmofaa
