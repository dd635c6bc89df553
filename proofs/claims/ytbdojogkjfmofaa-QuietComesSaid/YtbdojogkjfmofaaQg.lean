/-
  The law QuietSafe, walked.
  Conditions: none.
-/
import Derived.Test.YtbdojogkjfmofaaQf
set_option linter.unusedVariables false
set_option linter.unusedSimpArgs false
namespace Go.Proofs.Ytbdojogkjfmofaa
open Go Go.Av

/-- A net, of which the invariant holds, with at most L on their way. -/
def Good (σ : St) (n : Nat) (q : Nat → Nat) (d : Bool) (L : Nat) : Prop := ∃ S ws p dep, NetAt σ n q S ws d ∧ Inv S ws d p dep ∧ ws.length ≤ L

section
variable {σ : St} {n : Nat} {q : Nat → Nat} {d : Bool} {L : Nat}
set_option maxRecDepth 100000

theorem arr_len {S : Nat → Qs} {ws : List W} {j : Nat} (hj : j < ws.length) : (arr S ws j).2.2.length ≤ ws.length := by
  unfold arr
  split
  · simp; omega
  · simp only
    split <;> simp <;> omega
theorem rst_len {S : Nat → Qs} {ws : List W} {a b : Nat} : (rst S ws d a b).2.1.length ≤ ws.length + 1 := by
  unfold rst
  simp only
  split <;> simp

theorem Good.keep (h : Good σ n q d L) {σ' : St} (hs : ∀ x o, σ x = some o → σ' x = some o) : Good σ' n q d L := by
  obtain ⟨S, ws, p, dep, h1, h2, h3⟩ := h
  exact ⟨S, ws, p, dep, h1.keep hs, h2, h3⟩

theorem move_at (h : Good σ n q d L) (hL : L ≤ 1000) {k A B : Int} : AT Try.prog 10 [ptr n, .agg [int k, int A, int B]] σ fun r σ' => r = boo true ∧ ∃ d', Good σ' n q d' (L + 1) := by
  refine AT.of_body Try.func10 rfl (by decide) (by kernel_rfl) (by kernel_rfl) (Nat.le_of_ble_eq_true rfl) ?_
  simp only [go_sem, r_block, reduceIte, Nat.reduceEqDiff, Nat.reduceAdd, Nat.reduceMul, Nat.reduceSub, Nat.reduceLT, Nat.reduceLeDiff, Nat.le_refl, Nat.zero_le, Nat.zero_add, Nat.add_zero, Nat.mul_one, splice_zero, Int.toNat_natCast, Int.natCast_nonneg, Int.reduceLE, Int.reduceLT, Int.reduceToNat, Int.reduceEq, Int.cast_ofNat_Int, ne_eq, not_true_eq_false, not_false_eq_true, imp_self, implies_true, true_implies, false_implies, and_self]
  refine aNew_intro fun z hz hzn => ?_
  obtain ⟨σ1, hs⟩ : ∃ σ1, σ1 = σ.set z (.cells [int k, int A, int B]) := ⟨_, rfl⟩
  simp only [go_sem, r_block, reduceIte, Nat.reduceEqDiff, Nat.reduceAdd, Nat.reduceMul, Nat.reduceSub, Nat.reduceLT, Nat.reduceLeDiff, Nat.le_refl, Nat.zero_le, Nat.zero_add, Nat.add_zero, Nat.mul_one, splice_zero, Int.toNat_natCast, Int.natCast_nonneg, Int.reduceLE, Int.reduceLT, Int.reduceToNat, Int.reduceEq, Int.cast_ofNat_Int, ne_eq, not_true_eq_false, not_false_eq_true, imp_self, implies_true, true_implies, false_implies, and_self]
  rw [← hs]
  have hg := h.keep (σ' := σ1) fun x o hx => by rw [hs, set_ne (hzn x o hx)]; exact hx
  have hz1 : σ1 z = some (.cells [int k, int A, int B]) := by rw [hs, set_same]
  clear hs
  obtain ⟨a1, a2, a3, a4⟩ := pos_lt (k := A) (L := 4) (by omega)
  obtain ⟨b1, b2, b3, b4⟩ := pos_lt (k := B) (L := 4) (by omega)
  replace a2 : (A.tmod 4 + 4).tmod 4 = (pos A 4 : Int) := a2
  replace b2 : (B.tmod 4 + 4).tmod 4 = (pos B 4 : Int) := b2
  replace a3 : -(4 : Int) < A.tmod 4 := a3
  replace b3 : -(4 : Int) < B.tmod 4 := b3
  replace a4 : A.tmod 4 < 4 := a4
  replace b4 : B.tmod 4 < 4 := b4
  rw [wrap64 (x := A.tmod 4 + 4) (by omega), wrap64 (x := B.tmod 4 + 4) (by omega), a2, b2]
  obtain ⟨S, ws, p, dep, h1, h2, h3⟩ := hg
  refine aIf_by (fun hk => ?_) (fun hk => ?_)
  · simp only [go_sem, r_block, reduceIte, Nat.reduceEqDiff, Nat.reduceAdd, Nat.reduceMul, Nat.reduceSub, Nat.reduceLT, Nat.reduceLeDiff, Nat.le_refl, Nat.zero_le, Nat.zero_add, Nat.add_zero, Nat.mul_one, splice_zero, Int.toNat_natCast, Int.natCast_nonneg, Int.reduceLE, Int.reduceLT, Int.reduceToNat, Int.reduceEq, Int.cast_ofNat_Int, ne_eq, not_true_eq_false, not_false_eq_true, imp_self, implies_true, true_implies, false_implies, and_self]
    refine (send_at h1 a1 b1 (by omega)).mono ?_
    intro r σ2 hr
    simp only [go_sem, r_block, reduceIte, Nat.reduceEqDiff, Nat.reduceAdd, Nat.reduceMul, Nat.reduceSub, Nat.reduceLT, Nat.reduceLeDiff, Nat.le_refl, Nat.zero_le, Nat.zero_add, Nat.add_zero, Nat.mul_one, splice_zero, Int.toNat_natCast, Int.natCast_nonneg, Int.reduceLE, Int.reduceLT, Int.reduceToNat, Int.reduceEq, Int.cast_ofNat_Int, ne_eq, not_true_eq_false, not_false_eq_true, imp_self, implies_true, true_implies, false_implies, and_self]
    by_cases hc : (S (pos A 4)).free = true ∨ pos A 4 = pos B 4
    · rw [if_pos hc] at hr
      obtain ⟨rfl, h4⟩ := hr
      exact aRet_as (r := boo true) rfl ⟨rfl, _, S, ws, p, dep, h4, h2, by omega⟩
    · rw [if_neg hc] at hr
      obtain ⟨rfl, h4⟩ := hr
      have hc1 : (S (pos A 4)).free = false := by
        cases hf : (S (pos A 4)).free with
        | false => rfl
        | true => exact absurd (.inl hf) hc
      obtain ⟨e, h5⟩ := h2.send a1 b1 hc1 (by omega)
      exact aRet_as (r := boo _) rfl ⟨by rw [e]; rfl, _, _, _, p, dep, h4, h5, by simp; omega⟩
  simp only [go_sem, r_block, reduceIte, Nat.reduceEqDiff, Nat.reduceAdd, Nat.reduceMul, Nat.reduceSub, Nat.reduceLT, Nat.reduceLeDiff, Nat.le_refl, Nat.zero_le, Nat.zero_add, Nat.add_zero, Nat.mul_one, splice_zero, Int.toNat_natCast, Int.natCast_nonneg, Int.reduceLE, Int.reduceLT, Int.reduceToNat, Int.reduceEq, Int.cast_ofNat_Int, ne_eq, not_true_eq_false, not_false_eq_true, imp_self, implies_true, true_implies, false_implies, and_self]
  refine aIf_by (fun hk1 => ?_) (fun hk1 => ?_)
  · simp only [go_sem, r_block, hz1, reduceIte, Nat.reduceEqDiff, Nat.reduceAdd, Nat.reduceMul, Nat.reduceSub, Nat.reduceLT, Nat.reduceLeDiff, Nat.le_refl, Nat.zero_le, Nat.zero_add, Nat.add_zero, Nat.mul_one, splice_zero, Int.toNat_natCast, Int.natCast_nonneg, Int.reduceLE, Int.reduceLT, Int.reduceToNat, Int.reduceEq, Int.cast_ofNat_Int, ne_eq, not_true_eq_false, not_false_eq_true, imp_self, implies_true, true_implies, false_implies, and_self]
    refine (arrive_at h1 (k := B) h2.wok (by omega)).mono ?_
    intro r σ2 hr
    simp only [go_sem, r_block, reduceIte, Nat.reduceEqDiff, Nat.reduceAdd, Nat.reduceMul, Nat.reduceSub, Nat.reduceLT, Nat.reduceLeDiff, Nat.le_refl, Nat.zero_le, Nat.zero_add, Nat.add_zero, Nat.mul_one, splice_zero, Int.toNat_natCast, Int.natCast_nonneg, Int.reduceLE, Int.reduceLT, Int.reduceToNat, Int.reduceEq, Int.cast_ofNat_Int, ne_eq, not_true_eq_false, not_false_eq_true, imp_self, implies_true, true_implies, false_implies, and_self]
    by_cases hc : ws = []
    · rw [if_pos hc] at hr
      obtain ⟨rfl, h4⟩ := hr
      exact aRet_as (r := boo true) rfl ⟨rfl, _, S, ws, p, dep, h4, h2, by omega⟩
    · rw [if_neg hc] at hr
      obtain ⟨rfl, h4⟩ := hr
      have hpos : 0 < ws.length := by
        cases ws with
        | nil => exact absurd rfl hc
        | cons => simp
      have hj := (pos_lt (k := B) hpos).1
      have hlen := arr_len (S := S) hj
      cases hsg : (ws.getD (pos B ws.length) ⟨0, 0, false⟩).sig with
      | true =>
        obtain ⟨e, h5⟩ := h2.arrSig hj hsg (by omega)
        exact aRet_as (r := boo _) rfl ⟨by rw [e], _, _, _, p, dep, h4, h5, by omega⟩
      | false =>
        obtain ⟨e, p', dep', h5⟩ := h2.arrMsg hj hsg
        exact aRet_as (r := boo _) rfl ⟨by rw [e], _, _, _, p', dep', h4, h5, by omega⟩
  simp only [go_sem, r_block, reduceIte, Nat.reduceEqDiff, Nat.reduceAdd, Nat.reduceMul, Nat.reduceSub, Nat.reduceLT, Nat.reduceLeDiff, Nat.le_refl, Nat.zero_le, Nat.zero_add, Nat.add_zero, Nat.mul_one, splice_zero, Int.toNat_natCast, Int.natCast_nonneg, Int.reduceLE, Int.reduceLT, Int.reduceToNat, Int.reduceEq, Int.cast_ofNat_Int, ne_eq, not_true_eq_false, not_false_eq_true, imp_self, implies_true, true_implies, false_implies, and_self]
  refine aIf_by (fun hk2 => ?_) (fun hk2 => ?_)
  · simp only [go_sem, r_block, reduceIte, Nat.reduceEqDiff, Nat.reduceAdd, Nat.reduceMul, Nat.reduceSub, Nat.reduceLT, Nat.reduceLeDiff, Nat.le_refl, Nat.zero_le, Nat.zero_add, Nat.add_zero, Nat.mul_one, splice_zero, Int.toNat_natCast, Int.natCast_nonneg, Int.reduceLE, Int.reduceLT, Int.reduceToNat, Int.reduceEq, Int.cast_ofNat_Int, ne_eq, not_true_eq_false, not_false_eq_true, imp_self, implies_true, true_implies, false_implies, and_self]
    obtain ⟨r1, r2, r3⟩ := h2.rest a1
    refine (netRest_at h1 a1 (by omega) r1 r2).mono ?_
    rintro _ σ2 ⟨rfl, h4⟩
    simp only [go_sem, r_block, reduceIte, Nat.reduceEqDiff, Nat.reduceAdd, Nat.reduceMul, Nat.reduceSub, Nat.reduceLT, Nat.reduceLeDiff, Nat.le_refl, Nat.zero_le, Nat.zero_add, Nat.add_zero, Nat.mul_one, splice_zero, Int.toNat_natCast, Int.natCast_nonneg, Int.reduceLE, Int.reduceLT, Int.reduceToNat, Int.reduceEq, Int.cast_ofNat_Int, ne_eq, not_true_eq_false, not_false_eq_true, imp_self, implies_true, true_implies, false_implies, and_self]
    exact aRet_as (r := boo true) rfl ⟨rfl, _, _, _, p, dep, h4, r3, Nat.le_trans rst_len (by omega)⟩
  · simp only [go_sem, r_block, reduceIte, Nat.reduceEqDiff, Nat.reduceAdd, Nat.reduceMul, Nat.reduceSub, Nat.reduceLT, Nat.reduceLeDiff, Nat.le_refl, Nat.zero_le, Nat.zero_add, Nat.add_zero, Nat.mul_one, splice_zero, Int.toNat_natCast, Int.natCast_nonneg, Int.reduceLE, Int.reduceLT, Int.reduceToNat, Int.reduceEq, Int.cast_ofNat_Int, ne_eq, not_true_eq_false, not_false_eq_true, imp_self, implies_true, true_implies, false_implies, and_self]
    exact aRet_as (r := boo true) rfl ⟨rfl, _, S, ws, p, dep, h1, h2, by omega⟩

/-- Nothing on its way, nobody engaged: it says so. -/
theorem quietNow_at {S : Nat → Qs} (h : NetAt σ n q S [] d) (hf : ∀ i, i < 4 → (S i).free = true ∧ (S i).owes = 0) : AT Try.prog 11 [ptr n] σ fun r σ' => r = boo true ∧ σ' = σ := by
  refine AT.of_body Try.func11 rfl (by decide) (by kernel_rfl) (by kernel_rfl) (Nat.le_of_ble_eq_true rfl) ?_
  obtain ⟨lv, ho, hL⟩ := h.obj
  simp only [go_sem, r_block, reduceIte, Nat.reduceEqDiff, Nat.reduceAdd, Nat.reduceMul, Nat.reduceSub, Nat.reduceLT, Nat.reduceLeDiff, Nat.le_refl, Nat.zero_le, Nat.zero_add, Nat.add_zero, Nat.mul_one, splice_zero, Int.toNat_natCast, Int.natCast_nonneg, Int.reduceLE, Int.reduceLT, Int.reduceToNat, Int.reduceEq, Int.cast_ofNat_Int, ne_eq, not_true_eq_false, not_false_eq_true, imp_self, implies_true, true_implies, false_implies, and_self]
  refine ⟨fun m fr σ' => ∃ i : Nat, m = 4 - i ∧ i ≤ 4 ∧ fr 0 = ptr n ∧ fr 3 = int i ∧ σ' = σ, ⟨4, 0, rfl, by omega, rfl, rfl, rfl⟩, ?_⟩
  rintro m fr σ' ⟨i, rfl, hi, h0, h3, rfl⟩
  simp only [go_sem, r_block, h0, h3, reduceIte, Nat.reduceEqDiff, Nat.reduceAdd, Nat.reduceMul, Nat.reduceSub, Nat.reduceLT, Nat.reduceLeDiff, Nat.le_refl, Nat.zero_le, Nat.zero_add, Nat.add_zero, Nat.mul_one, splice_zero, Int.toNat_natCast, Int.natCast_nonneg, Int.reduceLE, Int.reduceLT, Int.reduceToNat, Int.reduceEq, Int.cast_ofNat_Int, ne_eq, not_true_eq_false, not_false_eq_true, imp_self, implies_true, true_implies, false_implies, and_self]
  refine aIf_by (fun hlt => ?_) (fun hge => ?_)
  · have hlt : i < 4 := by omega
    obtain ⟨f1, f2⟩ := hf i hlt
    have hq := nthq (q := q) (x := lv) (y := boo d) i hlt
    simp only [go_sem, r_block, h0, h3, ho, hq, reduceIte, Nat.reduceEqDiff, Nat.reduceAdd, Nat.reduceMul, Nat.reduceSub, Nat.reduceLT, Nat.reduceLeDiff, Nat.le_refl, Nat.zero_le, Nat.zero_add, Nat.add_zero, Nat.mul_one, splice_zero, Int.toNat_natCast, Int.natCast_nonneg, Int.reduceLE, Int.reduceLT, Int.reduceToNat, Int.reduceEq, Int.cast_ofNat_Int, ne_eq, not_true_eq_false, not_false_eq_true, imp_self, implies_true, true_implies, false_implies, and_self]
    refine ⟨by omega, by omega, ?_⟩
    refine (free_at (h.qs i hlt)).mono ?_
    rintro _ _ ⟨rfl, rfl⟩
    rw [f1]
    simp only [go_sem, r_block, h0, h3, ho, hq, reduceIte, Nat.reduceEqDiff, Nat.reduceAdd, Nat.reduceMul, Nat.reduceSub, Nat.reduceLT, Nat.reduceLeDiff, Nat.le_refl, Nat.zero_le, Nat.zero_add, Nat.add_zero, Nat.mul_one, splice_zero, Int.toNat_natCast, Int.natCast_nonneg, Int.reduceLE, Int.reduceLT, Int.reduceToNat, Int.reduceEq, Int.cast_ofNat_Int, ne_eq, not_true_eq_false, not_false_eq_true, imp_self, implies_true, true_implies, false_implies, and_self]
    refine ⟨by omega, by omega, ?_⟩
    refine (debt_at (h.qs i hlt)).mono ?_
    rintro _ _ ⟨rfl, rfl⟩
    rw [f2]
    simp only [go_sem, r_block, h0, h3, ho, hq, reduceIte, Nat.reduceEqDiff, Nat.reduceAdd, Nat.reduceMul, Nat.reduceSub, Nat.reduceLT, Nat.reduceLeDiff, Nat.le_refl, Nat.zero_le, Nat.zero_add, Nat.add_zero, Nat.mul_one, splice_zero, Int.toNat_natCast, Int.natCast_nonneg, Int.reduceLE, Int.reduceLT, Int.reduceToNat, Int.reduceEq, Int.cast_ofNat_Int, ne_eq, not_true_eq_false, not_false_eq_true, imp_self, implies_true, true_implies, false_implies, and_self]
    exact ⟨4 - (i + 1), by omega, i + 1, rfl, by omega, by rw [next64 (by omega)]⟩
  · simp only [go_sem, r_block, h0, ho, hL.len, reduceIte, Nat.reduceEqDiff, Nat.reduceAdd, Nat.reduceMul, Nat.reduceSub, Nat.reduceLT, Nat.reduceLeDiff, Nat.le_refl, Nat.zero_le, Nat.zero_add, Nat.add_zero, Nat.mul_one, splice_zero, Int.toNat_natCast, Int.natCast_nonneg, Int.reduceLE, Int.reduceLT, Int.reduceToNat, Int.reduceEq, Int.cast_ofNat_Int, ne_eq, not_true_eq_false, not_false_eq_true, imp_self, implies_true, true_implies, false_implies, and_self]
    exact aRet_as (r := boo true) rfl ⟨rfl, rfl⟩

/-- What one move is read as. -/
def isMove (x : List AV) : Prop := ∃ k a b, x = [int k, int a, int b]
theorem moveAt {es : List (List AV)} (he : ∀ x ∈ es, isMove x) {i : Nat} (hi : i < es.length) : ∃ k a b, es.getD i [] = [int k, int a, int b] := by
  obtain ⟨k, a, b, h⟩ := he es[i] (List.getElem_mem hi)
  exact ⟨k, a, b, by simp [List.getD_eq_getElem?_getD, hi, h]⟩

/-- The root is engaged at the beginning. -/
theorem good_start (h : NetAt σ n q (fun i => ⟨false, nost, 0, decide (i = 0), true⟩) [] false) : Good (σ.set (q 0) (qO ⟨true, nost, 0, true, true⟩)) n q false 0 := by
  refine ⟨_, [], fun _ => 0, fun _ => 0, h.setQ (by omega) _, ⟨fun i hi => ?_, fun i hi => ?_, fun w hw => (by cases hw), fun i hi h0 hb => ?_, fun i hi => ?_, fun i hi hb => ?_, ?_⟩, by simp⟩
  · unfold upd; split <;> rfl
  · unfold upd; split
    · rename_i hi'; subst hi'; rfl
    · rfl
  · rw [upd_ne h0] at hb; cases hb
  · unfold due kids
    simp [upd]
    split <;> rfl
  · unfold upd at hb ⊢
    split <;> rfl
  · simp [upd]

theorem quietSafe_at {es : List (List AV)} (he : ∀ x ∈ es, isMove x) (hl : es.length ≤ 140737488351232) : AT Try.prog 3 [.sl 3 es] σ fun r _ => r = boo true := by
  refine AT.of_body Try.func3 rfl (by decide) (by kernel_rfl) (by kernel_rfl) (Nat.le_of_ble_eq_true rfl) ?_
  simp only [go_sem, r_block, reduceIte, Nat.reduceEqDiff, Nat.reduceAdd, Nat.reduceMul, Nat.reduceSub, Nat.reduceLT, Nat.reduceLeDiff, Nat.le_refl, Nat.zero_le, Nat.zero_add, Nat.add_zero, Nat.mul_one, splice_zero, Int.toNat_natCast, Int.natCast_nonneg, Int.reduceLE, Int.reduceLT, Int.reduceToNat, Int.reduceEq, Int.cast_ofNat_Int, ne_eq, not_true_eq_false, not_false_eq_true, imp_self, implies_true, true_implies, false_implies, and_self]
  refine beginNet_at.mono ?_
  rintro _ σ1 ⟨n, q, rfl, h1⟩
  obtain ⟨lv, ho, _⟩ := h1.obj
  simp only [go_sem, r_block, ho, reduceIte, Nat.reduceEqDiff, Nat.reduceAdd, Nat.reduceMul, Nat.reduceSub, Nat.reduceLT, Nat.reduceLeDiff, Nat.le_refl, Nat.zero_le, Nat.zero_add, Nat.add_zero, Nat.mul_one, splice_zero, Int.toNat_natCast, Int.natCast_nonneg, Int.reduceLE, Int.reduceLT, Int.reduceToNat, Int.reduceEq, Int.cast_ofNat_Int, ne_eq, not_true_eq_false, not_false_eq_true, imp_self, implies_true, true_implies, false_implies, and_self]
  refine (begin_at (h1.qs 0 (by omega))).mono ?_
  rintro _ σ2 ⟨rfl, hs⟩
  rw [show (⟨false, nost, 0, decide (0 = 0), true⟩ : Qs).begin = (0, ⟨true, nost, 0, true, true⟩) from rfl] at hs ⊢
  have hg := good_start h1
  rw [← hs] at hg
  simp only [go_sem, r_block, reduceIte, Nat.reduceEqDiff, Nat.reduceAdd, Nat.reduceMul, Nat.reduceSub, Nat.reduceLT, Nat.reduceLeDiff, Nat.le_refl, Nat.zero_le, Nat.zero_add, Nat.add_zero, Nat.mul_one, splice_zero, Int.toNat_natCast, Int.natCast_nonneg, Int.reduceLE, Int.reduceLT, Int.reduceToNat, Int.reduceEq, Int.cast_ofNat_Int, ne_eq, not_true_eq_false, not_false_eq_true, imp_self, implies_true, true_implies, false_implies, and_self]
  refine ⟨fun m fr σ' => ∃ (i : Nat) (d : Bool), m = es.length - i ∧ i ≤ es.length ∧ i ≤ 300 ∧ fr 0 = .sl 3 es ∧ fr 3 = ptr n ∧ fr 4 = int i ∧ Good σ' n q d i, ⟨_, 0, false, rfl, by omega, by omega, rfl, rfl, rfl, hg⟩, ?_⟩
  clear hg hs h1 ho
  rintro m fr σ' ⟨i, d, rfl, hi, hi3, h0, h3, h4, hg⟩
  simp only [go_sem, r_block, h0, h3, h4, reduceIte, Nat.reduceEqDiff, Nat.reduceAdd, Nat.reduceMul, Nat.reduceSub, Nat.reduceLT, Nat.reduceLeDiff, Nat.le_refl, Nat.zero_le, Nat.zero_add, Nat.add_zero, Nat.mul_one, splice_zero, Int.toNat_natCast, Int.natCast_nonneg, Int.reduceLE, Int.reduceLT, Int.reduceToNat, Int.reduceEq, Int.cast_ofNat_Int, ne_eq, not_true_eq_false, not_false_eq_true, imp_self, implies_true, true_implies, false_implies, and_self]
  by_cases hlt : i < es.length
  · obtain ⟨k, a, b, hkab⟩ := moveAt he hlt
    rw [show decide ((i : Int) < (es.length : Int)) = true by simp; omega]
    simp only [go_sem, r_block, h0, h3, h4, reduceIte, Nat.reduceEqDiff, Nat.reduceAdd, Nat.reduceMul, Nat.reduceSub, Nat.reduceLT, Nat.reduceLeDiff, Nat.le_refl, Nat.zero_le, Nat.zero_add, Nat.add_zero, Nat.mul_one, splice_zero, Int.toNat_natCast, Int.natCast_nonneg, Int.reduceLE, Int.reduceLT, Int.reduceToNat, Int.reduceEq, Int.cast_ofNat_Int, ne_eq, not_true_eq_false, not_false_eq_true, imp_self, implies_true, true_implies, false_implies, and_self]
    by_cases h300 : i < 300
    · rw [show decide ((i : Int) < 300) = true by simp; omega]
      obtain ⟨S, ws, p, dep, g1, g2, g3⟩ := hg
      obtain ⟨lv, ho, hL⟩ := g1.obj
      simp only [go_sem, r_block, h0, h3, h4, ho, reduceIte, Nat.reduceEqDiff, Nat.reduceAdd, Nat.reduceMul, Nat.reduceSub, Nat.reduceLT, Nat.reduceLeDiff, Nat.le_refl, Nat.zero_le, Nat.zero_add, Nat.add_zero, Nat.mul_one, splice_zero, Int.toNat_natCast, Int.natCast_nonneg, Int.reduceLE, Int.reduceLT, Int.reduceToNat, Int.reduceEq, Int.cast_ofNat_Int, ne_eq, not_true_eq_false, not_false_eq_true, imp_self, implies_true, true_implies, false_implies, and_self]
      cases d with
      | true =>
        simp only [go_sem, r_block, h0, h3, h4, ho, reduceIte, Nat.reduceEqDiff, Nat.reduceAdd, Nat.reduceMul, Nat.reduceSub, Nat.reduceLT, Nat.reduceLeDiff, Nat.le_refl, Nat.zero_le, Nat.zero_add, Nat.add_zero, Nat.mul_one, splice_zero, Int.toNat_natCast, Int.natCast_nonneg, Int.reduceLE, Int.reduceLT, Int.reduceToNat, Int.reduceEq, Int.cast_ofNat_Int, ne_eq, not_true_eq_false, not_false_eq_true, imp_self, implies_true, true_implies, false_implies, and_self]
        refine live_at.mono ?_
        rintro _ _ ⟨rfl, rfl⟩
        simp only [go_sem, r_block, reduceIte, Nat.reduceEqDiff, Nat.reduceAdd, Nat.reduceMul, Nat.reduceSub, Nat.reduceLT, Nat.reduceLeDiff, Nat.le_refl, Nat.zero_le, Nat.zero_add, Nat.add_zero, Nat.mul_one, splice_zero, Int.toNat_natCast, Int.natCast_nonneg, Int.reduceLE, Int.reduceLT, Int.reduceToNat, Int.reduceEq, Int.cast_ofNat_Int, ne_eq, not_true_eq_false, not_false_eq_true, imp_self, implies_true, true_implies, false_implies, and_self]
        exact aRet_as (r := boo true) rfl rfl
      | false =>
        simp only [go_sem, r_block, h0, h3, h4, ho, hkab, reduceIte, Nat.reduceEqDiff, Nat.reduceAdd, Nat.reduceMul, Nat.reduceSub, Nat.reduceLT, Nat.reduceLeDiff, Nat.le_refl, Nat.zero_le, Nat.zero_add, Nat.add_zero, Nat.mul_one, splice_zero, Int.toNat_natCast, Int.natCast_nonneg, Int.reduceLE, Int.reduceLT, Int.reduceToNat, Int.reduceEq, Int.cast_ofNat_Int, ne_eq, not_true_eq_false, not_false_eq_true, imp_self, implies_true, true_implies, false_implies, and_self]
        refine ⟨by omega, ?_⟩
        refine (move_at ⟨S, ws, p, dep, g1, g2, g3⟩ (by omega)).mono ?_
        rintro _ σ3 ⟨rfl, d', hg'⟩
        obtain ⟨S, ws, p, dep, g1, g2, g3⟩ := hg'
        obtain ⟨lv, ho, hL⟩ := g1.obj
        simp only [go_sem, r_block, h0, h3, h4, ho, reduceIte, Nat.reduceEqDiff, Nat.reduceAdd, Nat.reduceMul, Nat.reduceSub, Nat.reduceLT, Nat.reduceLeDiff, Nat.le_refl, Nat.zero_le, Nat.zero_add, Nat.add_zero, Nat.mul_one, splice_zero, Int.toNat_natCast, Int.natCast_nonneg, Int.reduceLE, Int.reduceLT, Int.reduceToNat, Int.reduceEq, Int.cast_ofNat_Int, ne_eq, not_true_eq_false, not_false_eq_true, imp_self, implies_true, true_implies, false_implies, and_self]
        cases d' with
        | false =>
          simp only [go_sem, r_block, h0, h3, h4, ho, reduceIte, Nat.reduceEqDiff, Nat.reduceAdd, Nat.reduceMul, Nat.reduceSub, Nat.reduceLT, Nat.reduceLeDiff, Nat.le_refl, Nat.zero_le, Nat.zero_add, Nat.add_zero, Nat.mul_one, splice_zero, Int.toNat_natCast, Int.natCast_nonneg, Int.reduceLE, Int.reduceLT, Int.reduceToNat, Int.reduceEq, Int.cast_ofNat_Int, ne_eq, not_true_eq_false, not_false_eq_true, imp_self, implies_true, true_implies, false_implies, and_self]
          exact ⟨es.length - (i + 1), by omega, i + 1, false, rfl, by omega, by omega, by rw [next64 (by omega)], S, ws, p, dep, g1, g2, g3⟩
        | true =>
          obtain ⟨rfl, hq⟩ := g2.quiet (by have := g2.done; simpa using this)
          simp only [go_sem, r_block, h0, h3, h4, ho, reduceIte, Nat.reduceEqDiff, Nat.reduceAdd, Nat.reduceMul, Nat.reduceSub, Nat.reduceLT, Nat.reduceLeDiff, Nat.le_refl, Nat.zero_le, Nat.zero_add, Nat.add_zero, Nat.mul_one, splice_zero, Int.toNat_natCast, Int.natCast_nonneg, Int.reduceLE, Int.reduceLT, Int.reduceToNat, Int.reduceEq, Int.cast_ofNat_Int, ne_eq, not_true_eq_false, not_false_eq_true, imp_self, implies_true, true_implies, false_implies, and_self]
          refine (quietNow_at g1 hq).mono ?_
          rintro _ _ ⟨rfl, rfl⟩
          simp only [go_sem, r_block, h0, h3, h4, ho, reduceIte, Nat.reduceEqDiff, Nat.reduceAdd, Nat.reduceMul, Nat.reduceSub, Nat.reduceLT, Nat.reduceLeDiff, Nat.le_refl, Nat.zero_le, Nat.zero_add, Nat.add_zero, Nat.mul_one, splice_zero, Int.toNat_natCast, Int.natCast_nonneg, Int.reduceLE, Int.reduceLT, Int.reduceToNat, Int.reduceEq, Int.cast_ofNat_Int, ne_eq, not_true_eq_false, not_false_eq_true, imp_self, implies_true, true_implies, false_implies, and_self]
          exact ⟨es.length - (i + 1), by omega, i + 1, true, rfl, by omega, by omega, by rw [next64 (by omega)], S, [], p, dep, g1, g2, g3⟩
    · rw [show decide ((i : Int) < 300) = false by simp; omega]
      simp only [go_sem, r_block, h0, h3, h4, reduceIte, Nat.reduceEqDiff, Nat.reduceAdd, Nat.reduceMul, Nat.reduceSub, Nat.reduceLT, Nat.reduceLeDiff, Nat.le_refl, Nat.zero_le, Nat.zero_add, Nat.add_zero, Nat.mul_one, splice_zero, Int.toNat_natCast, Int.natCast_nonneg, Int.reduceLE, Int.reduceLT, Int.reduceToNat, Int.reduceEq, Int.cast_ofNat_Int, ne_eq, not_true_eq_false, not_false_eq_true, imp_self, implies_true, true_implies, false_implies, and_self]
      refine live_at.mono ?_
      rintro _ _ ⟨rfl, rfl⟩
      simp only [go_sem, r_block, reduceIte, Nat.reduceEqDiff, Nat.reduceAdd, Nat.reduceMul, Nat.reduceSub, Nat.reduceLT, Nat.reduceLeDiff, Nat.le_refl, Nat.zero_le, Nat.zero_add, Nat.add_zero, Nat.mul_one, splice_zero, Int.toNat_natCast, Int.natCast_nonneg, Int.reduceLE, Int.reduceLT, Int.reduceToNat, Int.reduceEq, Int.cast_ofNat_Int, ne_eq, not_true_eq_false, not_false_eq_true, imp_self, implies_true, true_implies, false_implies, and_self]
      exact aRet_as (r := boo true) rfl rfl
  · rw [show decide ((i : Int) < (es.length : Int)) = false by simp; omega]
    simp only [go_sem, r_block, h0, h3, h4, reduceIte, Nat.reduceEqDiff, Nat.reduceAdd, Nat.reduceMul, Nat.reduceSub, Nat.reduceLT, Nat.reduceLeDiff, Nat.le_refl, Nat.zero_le, Nat.zero_add, Nat.add_zero, Nat.mul_one, splice_zero, Int.toNat_natCast, Int.natCast_nonneg, Int.reduceLE, Int.reduceLT, Int.reduceToNat, Int.reduceEq, Int.cast_ofNat_Int, ne_eq, not_true_eq_false, not_false_eq_true, imp_self, implies_true, true_implies, false_implies, and_self]
    refine live_at.mono ?_
    rintro _ _ ⟨rfl, rfl⟩
    simp only [go_sem, r_block, reduceIte, Nat.reduceEqDiff, Nat.reduceAdd, Nat.reduceMul, Nat.reduceSub, Nat.reduceLT, Nat.reduceLeDiff, Nat.le_refl, Nat.zero_le, Nat.zero_add, Nat.add_zero, Nat.mul_one, splice_zero, Int.toNat_natCast, Int.natCast_nonneg, Int.reduceLE, Int.reduceLT, Int.reduceToNat, Int.reduceEq, Int.cast_ofNat_Int, ne_eq, not_true_eq_false, not_false_eq_true, imp_self, implies_true, true_implies, false_implies, and_self]
    exact aRet_as (r := boo true) rfl rfl
end

/-- A list of moves, as it is handed in. -/
theorem moves_of {a : AV} (h : TyA Try.prog 8 22 a) : ∃ es, a = .sl 3 es ∧ es.length ≤ 140737488351232 ∧ ∀ x ∈ es, isMove x := by
  obtain ⟨es, rfl, hl, he⟩ := tyA_sl Try.underlying22 h
  have hc : Try.prog.cellsOf 34 = 3 := by kernel_rfl
  have hb : Try.prog.bytesOf 34 = 24 := by kernel_rfl
  rw [hc]
  rw [hb] at hl
  refine ⟨es, rfl, by omega, fun e hm => ?_⟩
  have h1 := ty_st Try.underlying34 (he e hm)
  obtain ⟨x, y, rfl, hx, y', z, rfl, hy, z', u, rfl, hz, rfl⟩ := h1
  obtain ⟨k, rfl, _⟩ := ty_int Try.underlying3 hx
  obtain ⟨a, rfl, _⟩ := ty_int Try.underlying3 hy
  obtain ⟨b, rfl, _⟩ := ty_int Try.underlying3 hz
  exact ⟨k, a, b, rfl⟩
end Go.Proofs.Ytbdojogkjfmofaa
