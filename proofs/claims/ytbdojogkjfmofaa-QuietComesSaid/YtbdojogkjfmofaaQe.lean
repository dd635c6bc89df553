/-
  The net of four nodes (avowallaw24.net): what its functions compute.
  Conditions: none.
-/
import Derived.Test.YtbdojogkjfmofaaQc
import Derived.Test.YtbdojogkjfmofaaAvList
set_option linter.unusedVariables false
set_option linter.unusedSimpArgs false
namespace Go.Proofs.Ytbdojogkjfmofaa
open Go Go.Av

/-- A message, or a signal, on its way. -/
structure W where
  to : Nat
  frm : Nat
  sig : Bool
def W.enc (w : W) : List AV := [int w.to, int w.frm, boo w.sig]

def upd (S : Nat → Qs) (i : Nat) (s : Qs) : Nat → Qs := fun j => if j = i then s else S j

structure NetAt (σ : St) (n : Nat) (q : Nat → Nat) (S : Nat → Qs) (ws : List W) (d : Bool) : Prop where
  obj : ∃ lv, σ n = some (.cells [ptr (q 0), ptr (q 1), ptr (q 2), ptr (q 3), lv, boo d]) ∧ LAt 3 σ lv (ws.map W.enc)
  qs : ∀ i, i < 4 → σ (q i) = some (qO (S i))
  inj : ∀ i j, i < 4 → j < 4 → q i = q j → i = j

/-- A node's name. -/
def nm (i : Nat) : ByteArray := strOf [[.v (.int .u8 (97 + i))]]

section
variable {σ σ' : St} {n : Nat} {q : Nat → Nat} {S : Nat → Qs} {ws : List W} {d : Bool} {lv : AV}
set_option maxRecDepth 100000

theorem nth4 {a b c e x y : AV} : ∀ i, i < 4 → [a, b, c, e, x, y].getD i (.v undef) = [a, b, c, e].getD i (.v undef)
  | 0, _ => rfl
  | 1, _ => rfl
  | 2, _ => rfl
  | 3, _ => rfl
theorem nthq {x y : AV} : ∀ i, i < 4 → [ptr (q 0), ptr (q 1), ptr (q 2), ptr (q 3), x, y].getD i (.v undef) = ptr (q i)
  | 0, _ => rfl
  | 1, _ => rfl
  | 2, _ => rfl
  | 3, _ => rfl

theorem NetAt.ne (h : NetAt σ n q S ws d) {i : Nat} (hi : i < 4) : n ≠ q i := fun e => by
  obtain ⟨lv, h1, _⟩ := h.obj
  have h2 := h.qs i hi
  rw [← e, h1] at h2
  unfold qO at h2
  injection h2 with h2
  injection h2 with h2
  have := congrArg List.length h2
  simp at this
/-- Where all cells and the list's row are as they were. -/
theorem NetAt.keep (h : NetAt σ n q S ws d) (hs : ∀ x o, σ x = some o → σ' x = some o) : NetAt σ' n q S ws d := by
  obtain ⟨lv, h1, h2⟩ := h.obj
  exact ⟨⟨lv, hs _ _ h1, h2.keep fun x o hx _ => hs x o hx⟩, fun i hi => hs _ _ (h.qs i hi), h.inj⟩
theorem NetAt.setQ (h : NetAt σ n q S ws d) {i : Nat} (hi : i < 4) (s : Qs) : NetAt (σ.set (q i) (qO s)) n q (upd S i s) ws d := by
  obtain ⟨lv, h1, h2⟩ := h.obj
  refine ⟨⟨lv, by rw [set_ne (h.ne hi)]; exact h1, h2.keep fun x o hx ho => ?_⟩, fun j hj => ?_, h.inj⟩
  · have : x ≠ q i := fun e => by subst e; exact h2.not_own (h.qs i hi) ho
    rw [set_ne this]
    exact hx
  · unfold upd
    by_cases hji : j = i
    · subst hji; rw [set_same, if_pos rfl]
    · rw [set_ne (fun e => hji (h.inj j i hj hi e)), if_neg hji]; exact h.qs j hj
/-- Another list, another yes-or-no. -/
theorem NetAt.setN (h : NetAt σ n q S ws d) (hs : ∀ x cs, σ x = some (.cells cs) → σ' x = some (.cells cs)) {ws' : List W} {d' : Bool} (hl : LAt 3 σ' lv (ws'.map W.enc)) :
    NetAt (σ'.set n (.cells [ptr (q 0), ptr (q 1), ptr (q 2), ptr (q 3), lv, boo d'])) n q S ws' d' := by
  obtain ⟨lv0, h1, h2⟩ := h.obj
  have hn := hs _ _ h1
  refine ⟨⟨lv, by rw [set_same], hl.keep fun x o hx ho => ?_⟩, fun j hj => ?_, h.inj⟩
  · have : x ≠ n := fun e => by subst e; exact hl.not_own hn ho
    rw [set_ne this]
    exact hx
  · rw [set_ne (fun e => h.ne hj e.symm)]
    exact hs _ _ (h.qs j hj)

theorem name_at {i : Nat} (hi : i < 4) : AT Try.prog 32 [int i] σ fun r σ' => r = str (nm i) ∧ σ' = σ := by
  refine AT.of_body Try.func32 rfl (by decide) (by kernel_rfl) (by kernel_rfl) (Nat.le_of_ble_eq_true rfl) ?_
  simp only [go_sem, r_block, reduceIte, Nat.reduceEqDiff, Nat.reduceAdd, Nat.reduceMul, Nat.reduceSub, Nat.reduceLT, Nat.reduceLeDiff, Nat.le_refl, Nat.zero_le, Nat.zero_add, Nat.add_zero, Nat.mul_one, splice_zero, Int.toNat_natCast, Int.natCast_nonneg, Int.reduceLE, Int.reduceLT, Int.reduceToNat, Int.reduceEq, Int.cast_ofNat_Int, ne_eq, not_true_eq_false, not_false_eq_true, imp_self, implies_true, true_implies, false_implies, and_self]
  rw [wrap64 (by omega), wrap8 (by omega)]
  refine ⟨_, rfl, by simp [isByte], ?_⟩
  exact aRet_as (r := str (nm i)) rfl ⟨rfl, rfl⟩

theorem nm_inj : ∀ i j, i < 4 → j < 4 → nm i = nm j → i = j := fun i j hi hj h => by
  have key : ∀ a b : Fin 4, nm a = nm b → a = b := by decide
  exact congrArg Fin.val (key ⟨i, hi⟩ ⟨j, hj⟩ h)

theorem node_at {p : Nat} (hp : p < 4) : AT Try.prog 33 [str (nm p)] σ fun r σ' => r = int p ∧ σ' = σ := by
  refine AT.of_body Try.func33 rfl (by decide) (by kernel_rfl) (by kernel_rfl) (Nat.le_of_ble_eq_true rfl) ?_
  simp only [go_sem, r_block, reduceIte, Nat.reduceEqDiff, Nat.reduceAdd, Nat.reduceMul, Nat.reduceSub, Nat.reduceLT, Nat.reduceLeDiff, Nat.le_refl, Nat.zero_le, Nat.zero_add, Nat.add_zero, Nat.mul_one, splice_zero, Int.toNat_natCast, Int.natCast_nonneg, Int.reduceLE, Int.reduceLT, Int.reduceToNat, Int.reduceEq, Int.cast_ofNat_Int, ne_eq, not_true_eq_false, not_false_eq_true, imp_self, implies_true, true_implies, false_implies, and_self]
  refine ⟨fun m fr σ' => ∃ i : Nat, m = 4 - i ∧ i ≤ p ∧ fr 0 = str (nm p) ∧ fr 3 = int i ∧ σ' = σ, ⟨4, 0, rfl, by omega, rfl, rfl, rfl⟩, ?_⟩
  rintro m fr σ' ⟨i, rfl, hi, h0, h3, rfl⟩
  simp only [go_sem, r_block, h0, h3, reduceIte, Nat.reduceEqDiff, Nat.reduceAdd, Nat.reduceMul, Nat.reduceSub, Nat.reduceLT, Nat.reduceLeDiff, Nat.le_refl, Nat.zero_le, Nat.zero_add, Nat.add_zero, Nat.mul_one, splice_zero, Int.toNat_natCast, Int.natCast_nonneg, Int.reduceLE, Int.reduceLT, Int.reduceToNat, Int.reduceEq, Int.cast_ofNat_Int, ne_eq, not_true_eq_false, not_false_eq_true, imp_self, implies_true, true_implies, false_implies, and_self]
  rw [show decide ((i : Int) < 4) = true by simp; omega]
  simp only [go_sem, r_block, h0, h3, reduceIte, Nat.reduceEqDiff, Nat.reduceAdd, Nat.reduceMul, Nat.reduceSub, Nat.reduceLT, Nat.reduceLeDiff, Nat.le_refl, Nat.zero_le, Nat.zero_add, Nat.add_zero, Nat.mul_one, splice_zero, Int.toNat_natCast, Int.natCast_nonneg, Int.reduceLE, Int.reduceLT, Int.reduceToNat, Int.reduceEq, Int.cast_ofNat_Int, ne_eq, not_true_eq_false, not_false_eq_true, imp_self, implies_true, true_implies, false_implies, and_self]
  refine (name_at (by omega)).mono ?_
  rintro _ _ ⟨rfl, rfl⟩
  simp only [go_sem, r_block, h0, h3, reduceIte, Nat.reduceEqDiff, Nat.reduceAdd, Nat.reduceMul, Nat.reduceSub, Nat.reduceLT, Nat.reduceLeDiff, Nat.le_refl, Nat.zero_le, Nat.zero_add, Nat.add_zero, Nat.mul_one, splice_zero, Int.toNat_natCast, Int.natCast_nonneg, Int.reduceLE, Int.reduceLT, Int.reduceToNat, Int.reduceEq, Int.cast_ofNat_Int, ne_eq, not_true_eq_false, not_false_eq_true, imp_self, implies_true, true_implies, false_implies, and_self]
  refine aIf_by (fun e => ?_) (fun e => ?_)
  · obtain rfl := nm_inj _ _ (by omega) hp e
    simp only [go_sem, r_block, h0, h3, reduceIte, Nat.reduceEqDiff, Nat.reduceAdd, Nat.reduceMul, Nat.reduceSub, Nat.reduceLT, Nat.reduceLeDiff, Nat.le_refl, Nat.zero_le, Nat.zero_add, Nat.add_zero, Nat.mul_one, splice_zero, Int.toNat_natCast, Int.natCast_nonneg, Int.reduceLE, Int.reduceLT, Int.reduceToNat, Int.reduceEq, Int.cast_ofNat_Int, ne_eq, not_true_eq_false, not_false_eq_true, imp_self, implies_true, true_implies, false_implies, and_self]
    exact aRet_as (r := int i) rfl ⟨rfl, rfl⟩
  · simp only [go_sem, r_block, h0, h3, reduceIte, Nat.reduceEqDiff, Nat.reduceAdd, Nat.reduceMul, Nat.reduceSub, Nat.reduceLT, Nat.reduceLeDiff, Nat.le_refl, Nat.zero_le, Nat.zero_add, Nat.add_zero, Nat.mul_one, splice_zero, Int.toNat_natCast, Int.natCast_nonneg, Int.reduceLE, Int.reduceLT, Int.reduceToNat, Int.reduceEq, Int.cast_ofNat_Int, ne_eq, not_true_eq_false, not_false_eq_true, imp_self, implies_true, true_implies, false_implies, and_self]
    have : i ≠ p := fun h => e (by rw [h])
    exact ⟨4 - (i + 1), by omega, i + 1, rfl, by omega, by rw [next64 (by omega)]⟩

theorem beginNet_at : AT Try.prog 8 [] σ fun r σ' => ∃ n q, r = ptr n ∧ NetAt σ' n q (fun i => ⟨false, nost, 0, decide (i = 0), true⟩) [] false := by
  refine AT.of_body Try.func8 rfl (by decide) (by kernel_rfl) (by kernel_rfl) (Nat.le_of_ble_eq_true rfl) ?_
  simp only [go_sem, r_block, reduceIte, Nat.reduceEqDiff, Nat.reduceAdd, Nat.reduceMul, Nat.reduceSub, Nat.reduceLT, Nat.reduceLeDiff, Nat.le_refl, Nat.zero_le, Nat.zero_add, Nat.add_zero, Nat.mul_one, splice_zero, Int.toNat_natCast, Int.natCast_nonneg, Int.reduceLE, Int.reduceLT, Int.reduceToNat, Int.reduceEq, Int.cast_ofNat_Int, ne_eq, not_true_eq_false, not_false_eq_true, imp_self, implies_true, true_implies, false_implies, and_self]
  refine aNew_intro fun n hn _ => ?_
  simp only [go_sem, r_block, reduceIte, Nat.reduceEqDiff, Nat.reduceAdd, Nat.reduceMul, Nat.reduceSub, Nat.reduceLT, Nat.reduceLeDiff, Nat.le_refl, Nat.zero_le, Nat.zero_add, Nat.add_zero, Nat.mul_one, splice_zero, Int.toNat_natCast, Int.natCast_nonneg, Int.reduceLE, Int.reduceLT, Int.reduceToNat, Int.reduceEq, Int.cast_ofNat_Int, ne_eq, not_true_eq_false, not_false_eq_true, imp_self, implies_true, true_implies, false_implies, and_self]
  refine aLoop_few 5 ?_
  simp only [go_sem, r_block, reduceIte, Nat.reduceEqDiff, Nat.reduceAdd, Nat.reduceMul, Nat.reduceSub, Nat.reduceLT, Nat.reduceLeDiff, Nat.le_refl, Nat.zero_le, Nat.zero_add, Nat.add_zero, Nat.mul_one, splice_zero, Int.toNat_natCast, Int.natCast_nonneg, Int.reduceLE, Int.reduceLT, Int.reduceToNat, Int.reduceEq, Int.cast_ofNat_Int, ne_eq, not_true_eq_false, not_false_eq_true, imp_self, implies_true, true_implies, false_implies, and_self]
  obtain ⟨σ0, hs⟩ : ∃ σ0, σ0 = σ.set n (.cells [.v (.pointer none), .v (.pointer none), .v (.pointer none), .v (.pointer none), .v (.slice none 0 0), .v (.bool false)]) := ⟨_, rfl⟩
  rw [← hs]
  have hN : σ0 n = some (.cells [.v (.pointer none), .v (.pointer none), .v (.pointer none), .v (.pointer none), .v (.slice none 0 0), .v (.bool false)]) := by rw [hs, set_same]
  clear hs
  refine aDraw_plan [.rd 0 false, .rd 1 false, .rd 2 false, .rd 3 false, .rd 5 false, .rd 6 false, .ef 4 [], .rd 7 false, .ef 8 []] (by kernel_rfl) (by kernel_rfl) (by kernel_rfl) ?_
  simp only [go_sem, r_block, reduceIte, Nat.reduceEqDiff, Nat.reduceAdd, Nat.reduceMul, Nat.reduceSub, Nat.reduceLT, Nat.reduceLeDiff, Nat.le_refl, Nat.zero_le, Nat.zero_add, Nat.add_zero, Nat.mul_one, splice_zero, Int.toNat_natCast, Int.natCast_nonneg, Int.reduceLE, Int.reduceLT, Int.reduceToNat, Int.reduceEq, Int.cast_ofNat_Int, ne_eq, not_true_eq_false, not_false_eq_true, imp_self, implies_true, true_implies, false_implies, and_self]
  refine new_at.mono ?_
  rintro _ σ1' ⟨x0, hx0, rfl, hs⟩
  have hn0 : n ≠ x0 := fun e => by subst e; rw [hN] at hx0; cases hx0
  have hN := (show σ1' n = σ0 n by rw [hs, set_ne hn0]).trans hN
  have hq0 : σ1' x0 = some (qO ⟨false, nost, 0, true, true⟩) := by rw [hs, set_same]
  clear hs
  simp only [go_sem, r_block, hN, reduceIte, Nat.reduceEqDiff, Nat.reduceAdd, Nat.reduceMul, Nat.reduceSub, Nat.reduceLT, Nat.reduceLeDiff, Nat.le_refl, Nat.zero_le, Nat.zero_add, Nat.add_zero, Nat.mul_one, splice_zero, Int.toNat_natCast, Int.natCast_nonneg, Int.reduceLE, Int.reduceLT, Int.reduceToNat, Int.reduceEq, Int.cast_ofNat_Int, ne_eq, not_true_eq_false, not_false_eq_true, imp_self, implies_true, true_implies, false_implies, and_self]
  obtain ⟨σ1, hs⟩ : ∃ σ1, σ1 = σ1'.set n (.cells [ptr x0, .v (.pointer none), .v (.pointer none), .v (.pointer none), .v (.slice none 0 0), .v (.bool false)]) := ⟨_, rfl⟩
  rw [← hs]
  rw [show IntKind.i64.wrap (0 + 1) = 1 from rfl]
  simp only [go_sem, r_block, hN, reduceIte, Nat.reduceEqDiff, Nat.reduceAdd, Nat.reduceMul, Nat.reduceSub, Nat.reduceLT, Nat.reduceLeDiff, Nat.le_refl, Nat.zero_le, Nat.zero_add, Nat.add_zero, Nat.mul_one, splice_zero, Int.toNat_natCast, Int.natCast_nonneg, Int.reduceLE, Int.reduceLT, Int.reduceToNat, Int.reduceEq, Int.cast_ofNat_Int, ne_eq, not_true_eq_false, not_false_eq_true, imp_self, implies_true, true_implies, false_implies, and_self]
  have hN : σ1 n = some (.cells [ptr x0, .v (.pointer none), .v (.pointer none), .v (.pointer none), .v (.slice none 0 0), .v (.bool false)]) := by rw [hs, set_same]
  have hq0 := (show σ1 x0 = σ1' x0 by rw [hs, set_ne (Ne.symm hn0)]).trans hq0
  clear hs
  refine aDraw_plan [.rd 0 false, .rd 1 false, .rd 2 false, .rd 3 false, .rd 5 false, .rd 6 false, .ef 4 [], .rd 7 false, .ef 8 []] (by kernel_rfl) (by kernel_rfl) (by kernel_rfl) ?_
  simp only [go_sem, r_block, reduceIte, Nat.reduceEqDiff, Nat.reduceAdd, Nat.reduceMul, Nat.reduceSub, Nat.reduceLT, Nat.reduceLeDiff, Nat.le_refl, Nat.zero_le, Nat.zero_add, Nat.add_zero, Nat.mul_one, splice_zero, Int.toNat_natCast, Int.natCast_nonneg, Int.reduceLE, Int.reduceLT, Int.reduceToNat, Int.reduceEq, Int.cast_ofNat_Int, ne_eq, not_true_eq_false, not_false_eq_true, imp_self, implies_true, true_implies, false_implies, and_self]
  refine new_at.mono ?_
  rintro _ σ2' ⟨x1, hx1, rfl, hs⟩
  have hn1 : n ≠ x1 := fun e => by subst e; rw [hN] at hx1; cases hx1
  have hN := (show σ2' n = σ1 n by rw [hs, set_ne hn1]).trans hN
  have hq1 : σ2' x1 = some (qO ⟨false, nost, 0, false, true⟩) := by rw [hs, set_same]
  have hd01 : x0 ≠ x1 := fun e => by rw [← e, hq0] at hx1; cases hx1
  have hq0 := (show σ2' x0 = σ1 x0 by rw [hs, set_ne hd01]).trans hq0
  clear hs
  simp only [go_sem, r_block, hN, reduceIte, Nat.reduceEqDiff, Nat.reduceAdd, Nat.reduceMul, Nat.reduceSub, Nat.reduceLT, Nat.reduceLeDiff, Nat.le_refl, Nat.zero_le, Nat.zero_add, Nat.add_zero, Nat.mul_one, splice_zero, Int.toNat_natCast, Int.natCast_nonneg, Int.reduceLE, Int.reduceLT, Int.reduceToNat, Int.reduceEq, Int.cast_ofNat_Int, ne_eq, not_true_eq_false, not_false_eq_true, imp_self, implies_true, true_implies, false_implies, and_self]
  obtain ⟨σ2, hs⟩ : ∃ σ2, σ2 = σ2'.set n (.cells [ptr x0, ptr x1, .v (.pointer none), .v (.pointer none), .v (.slice none 0 0), .v (.bool false)]) := ⟨_, rfl⟩
  rw [← hs]
  rw [show IntKind.i64.wrap (1 + 1) = 2 from rfl]
  simp only [go_sem, r_block, hN, reduceIte, Nat.reduceEqDiff, Nat.reduceAdd, Nat.reduceMul, Nat.reduceSub, Nat.reduceLT, Nat.reduceLeDiff, Nat.le_refl, Nat.zero_le, Nat.zero_add, Nat.add_zero, Nat.mul_one, splice_zero, Int.toNat_natCast, Int.natCast_nonneg, Int.reduceLE, Int.reduceLT, Int.reduceToNat, Int.reduceEq, Int.cast_ofNat_Int, ne_eq, not_true_eq_false, not_false_eq_true, imp_self, implies_true, true_implies, false_implies, and_self]
  have hN : σ2 n = some (.cells [ptr x0, ptr x1, .v (.pointer none), .v (.pointer none), .v (.slice none 0 0), .v (.bool false)]) := by rw [hs, set_same]
  have hq0 := (show σ2 x0 = σ2' x0 by rw [hs, set_ne (Ne.symm hn0)]).trans hq0
  have hq1 := (show σ2 x1 = σ2' x1 by rw [hs, set_ne (Ne.symm hn1)]).trans hq1
  clear hs
  refine aDraw_plan [.rd 0 false, .rd 1 false, .rd 2 false, .rd 3 false, .rd 5 false, .rd 6 false, .ef 4 [], .rd 7 false, .ef 8 []] (by kernel_rfl) (by kernel_rfl) (by kernel_rfl) ?_
  simp only [go_sem, r_block, reduceIte, Nat.reduceEqDiff, Nat.reduceAdd, Nat.reduceMul, Nat.reduceSub, Nat.reduceLT, Nat.reduceLeDiff, Nat.le_refl, Nat.zero_le, Nat.zero_add, Nat.add_zero, Nat.mul_one, splice_zero, Int.toNat_natCast, Int.natCast_nonneg, Int.reduceLE, Int.reduceLT, Int.reduceToNat, Int.reduceEq, Int.cast_ofNat_Int, ne_eq, not_true_eq_false, not_false_eq_true, imp_self, implies_true, true_implies, false_implies, and_self]
  refine new_at.mono ?_
  rintro _ σ3' ⟨x2, hx2, rfl, hs⟩
  have hn2 : n ≠ x2 := fun e => by subst e; rw [hN] at hx2; cases hx2
  have hN := (show σ3' n = σ2 n by rw [hs, set_ne hn2]).trans hN
  have hq2 : σ3' x2 = some (qO ⟨false, nost, 0, false, true⟩) := by rw [hs, set_same]
  have hd02 : x0 ≠ x2 := fun e => by rw [← e, hq0] at hx2; cases hx2
  have hq0 := (show σ3' x0 = σ2 x0 by rw [hs, set_ne hd02]).trans hq0
  have hd12 : x1 ≠ x2 := fun e => by rw [← e, hq1] at hx2; cases hx2
  have hq1 := (show σ3' x1 = σ2 x1 by rw [hs, set_ne hd12]).trans hq1
  clear hs
  simp only [go_sem, r_block, hN, reduceIte, Nat.reduceEqDiff, Nat.reduceAdd, Nat.reduceMul, Nat.reduceSub, Nat.reduceLT, Nat.reduceLeDiff, Nat.le_refl, Nat.zero_le, Nat.zero_add, Nat.add_zero, Nat.mul_one, splice_zero, Int.toNat_natCast, Int.natCast_nonneg, Int.reduceLE, Int.reduceLT, Int.reduceToNat, Int.reduceEq, Int.cast_ofNat_Int, ne_eq, not_true_eq_false, not_false_eq_true, imp_self, implies_true, true_implies, false_implies, and_self]
  obtain ⟨σ3, hs⟩ : ∃ σ3, σ3 = σ3'.set n (.cells [ptr x0, ptr x1, ptr x2, .v (.pointer none), .v (.slice none 0 0), .v (.bool false)]) := ⟨_, rfl⟩
  rw [← hs]
  rw [show IntKind.i64.wrap (2 + 1) = 3 from rfl]
  simp only [go_sem, r_block, hN, reduceIte, Nat.reduceEqDiff, Nat.reduceAdd, Nat.reduceMul, Nat.reduceSub, Nat.reduceLT, Nat.reduceLeDiff, Nat.le_refl, Nat.zero_le, Nat.zero_add, Nat.add_zero, Nat.mul_one, splice_zero, Int.toNat_natCast, Int.natCast_nonneg, Int.reduceLE, Int.reduceLT, Int.reduceToNat, Int.reduceEq, Int.cast_ofNat_Int, ne_eq, not_true_eq_false, not_false_eq_true, imp_self, implies_true, true_implies, false_implies, and_self]
  have hN : σ3 n = some (.cells [ptr x0, ptr x1, ptr x2, .v (.pointer none), .v (.slice none 0 0), .v (.bool false)]) := by rw [hs, set_same]
  have hq0 := (show σ3 x0 = σ3' x0 by rw [hs, set_ne (Ne.symm hn0)]).trans hq0
  have hq1 := (show σ3 x1 = σ3' x1 by rw [hs, set_ne (Ne.symm hn1)]).trans hq1
  have hq2 := (show σ3 x2 = σ3' x2 by rw [hs, set_ne (Ne.symm hn2)]).trans hq2
  clear hs
  refine aDraw_plan [.rd 0 false, .rd 1 false, .rd 2 false, .rd 3 false, .rd 5 false, .rd 6 false, .ef 4 [], .rd 7 false, .ef 8 []] (by kernel_rfl) (by kernel_rfl) (by kernel_rfl) ?_
  simp only [go_sem, r_block, reduceIte, Nat.reduceEqDiff, Nat.reduceAdd, Nat.reduceMul, Nat.reduceSub, Nat.reduceLT, Nat.reduceLeDiff, Nat.le_refl, Nat.zero_le, Nat.zero_add, Nat.add_zero, Nat.mul_one, splice_zero, Int.toNat_natCast, Int.natCast_nonneg, Int.reduceLE, Int.reduceLT, Int.reduceToNat, Int.reduceEq, Int.cast_ofNat_Int, ne_eq, not_true_eq_false, not_false_eq_true, imp_self, implies_true, true_implies, false_implies, and_self]
  refine new_at.mono ?_
  rintro _ σ4' ⟨x3, hx3, rfl, hs⟩
  have hn3 : n ≠ x3 := fun e => by subst e; rw [hN] at hx3; cases hx3
  have hN := (show σ4' n = σ3 n by rw [hs, set_ne hn3]).trans hN
  have hq3 : σ4' x3 = some (qO ⟨false, nost, 0, false, true⟩) := by rw [hs, set_same]
  have hd03 : x0 ≠ x3 := fun e => by rw [← e, hq0] at hx3; cases hx3
  have hq0 := (show σ4' x0 = σ3 x0 by rw [hs, set_ne hd03]).trans hq0
  have hd13 : x1 ≠ x3 := fun e => by rw [← e, hq1] at hx3; cases hx3
  have hq1 := (show σ4' x1 = σ3 x1 by rw [hs, set_ne hd13]).trans hq1
  have hd23 : x2 ≠ x3 := fun e => by rw [← e, hq2] at hx3; cases hx3
  have hq2 := (show σ4' x2 = σ3 x2 by rw [hs, set_ne hd23]).trans hq2
  clear hs
  simp only [go_sem, r_block, hN, reduceIte, Nat.reduceEqDiff, Nat.reduceAdd, Nat.reduceMul, Nat.reduceSub, Nat.reduceLT, Nat.reduceLeDiff, Nat.le_refl, Nat.zero_le, Nat.zero_add, Nat.add_zero, Nat.mul_one, splice_zero, Int.toNat_natCast, Int.natCast_nonneg, Int.reduceLE, Int.reduceLT, Int.reduceToNat, Int.reduceEq, Int.cast_ofNat_Int, ne_eq, not_true_eq_false, not_false_eq_true, imp_self, implies_true, true_implies, false_implies, and_self]
  obtain ⟨σ4, hs⟩ : ∃ σ4, σ4 = σ4'.set n (.cells [ptr x0, ptr x1, ptr x2, ptr x3, .v (.slice none 0 0), .v (.bool false)]) := ⟨_, rfl⟩
  rw [← hs]
  rw [show IntKind.i64.wrap (3 + 1) = 4 from rfl]
  simp only [go_sem, r_block, hN, reduceIte, Nat.reduceEqDiff, Nat.reduceAdd, Nat.reduceMul, Nat.reduceSub, Nat.reduceLT, Nat.reduceLeDiff, Nat.le_refl, Nat.zero_le, Nat.zero_add, Nat.add_zero, Nat.mul_one, splice_zero, Int.toNat_natCast, Int.natCast_nonneg, Int.reduceLE, Int.reduceLT, Int.reduceToNat, Int.reduceEq, Int.cast_ofNat_Int, ne_eq, not_true_eq_false, not_false_eq_true, imp_self, implies_true, true_implies, false_implies, and_self]
  have hN : σ4 n = some (.cells [ptr x0, ptr x1, ptr x2, ptr x3, .v (.slice none 0 0), .v (.bool false)]) := by rw [hs, set_same]
  have hq0 := (show σ4 x0 = σ4' x0 by rw [hs, set_ne (Ne.symm hn0)]).trans hq0
  have hq1 := (show σ4 x1 = σ4' x1 by rw [hs, set_ne (Ne.symm hn1)]).trans hq1
  have hq2 := (show σ4 x2 = σ4' x2 by rw [hs, set_ne (Ne.symm hn2)]).trans hq2
  have hq3 := (show σ4 x3 = σ4' x3 by rw [hs, set_ne (Ne.symm hn3)]).trans hq3
  clear hs
  refine aRet_as (r := ptr n) rfl ⟨n, fun i => [x0, x1, x2, x3].getD i 0, rfl, ⟨_, hN, .none⟩, fun i hi => ?_, fun i j hi hj e => ?_⟩
  · match i, hi with
    | 0, _ => exact hq0
    | 1, _ => exact hq1
    | 2, _ => exact hq2
    | 3, _ => exact hq3
  · match i, hi, j, hj, e with
    | 0, _, 0, _, e => exact rfl
    | 0, _, 1, _, e => exact absurd e hd01
    | 0, _, 2, _, e => exact absurd e hd02
    | 0, _, 3, _, e => exact absurd e hd03
    | 1, _, 0, _, e => exact absurd e.symm hd01
    | 1, _, 1, _, e => exact rfl
    | 1, _, 2, _, e => exact absurd e hd12
    | 1, _, 3, _, e => exact absurd e hd13
    | 2, _, 0, _, e => exact absurd e.symm hd02
    | 2, _, 1, _, e => exact absurd e.symm hd12
    | 2, _, 2, _, e => exact rfl
    | 2, _, 3, _, e => exact absurd e hd23
    | 3, _, 0, _, e => exact absurd e.symm hd03
    | 3, _, 1, _, e => exact absurd e.symm hd13
    | 3, _, 2, _, e => exact absurd e.symm hd23
    | 3, _, 3, _, e => exact rfl

theorem send_at (h : NetAt σ n q S ws d) {a b : Nat} (ha : a < 4) (hb : b < 4) (hl : (ws.length + 1) * 24 ≤ 140737488355328) :
    AT Try.prog 31 [ptr n, int a, int b] σ fun r σ' => if (S a).free = true ∨ a = b then r = boo true ∧ NetAt σ' n q S ws d
      else r = boo (decide ((S a).sent.1 = 0)) ∧ NetAt σ' n q (upd S a (S a).sent.2) (ws ++ [⟨b, a, false⟩]) d := by
  refine AT.of_body Try.func31 rfl (by decide) (by kernel_rfl) (by kernel_rfl) (Nat.le_of_ble_eq_true rfl) ?_
  obtain ⟨lv, ho, hL⟩ := h.obj
  simp only [go_sem, r_block, ho, reduceIte, Nat.reduceEqDiff, Nat.reduceAdd, Nat.reduceMul, Nat.reduceSub, Nat.reduceLT, Nat.reduceLeDiff, Nat.le_refl, Nat.zero_le, Nat.zero_add, Nat.add_zero, Nat.mul_one, splice_zero, Int.toNat_natCast, Int.natCast_nonneg, Int.reduceLE, Int.reduceLT, Int.reduceToNat, Int.reduceEq, Int.cast_ofNat_Int, ne_eq, not_true_eq_false, not_false_eq_true, imp_self, implies_true, true_implies, false_implies, and_self]
  refine ⟨by omega, by omega, ?_⟩
  rw [nthq a ha]
  refine (free_at (h.qs a ha)).mono ?_
  rintro _ _ ⟨rfl, rfl⟩
  simp only [go_sem, r_block, reduceIte, Nat.reduceEqDiff, Nat.reduceAdd, Nat.reduceMul, Nat.reduceSub, Nat.reduceLT, Nat.reduceLeDiff, Nat.le_refl, Nat.zero_le, Nat.zero_add, Nat.add_zero, Nat.mul_one, splice_zero, Int.toNat_natCast, Int.natCast_nonneg, Int.reduceLE, Int.reduceLT, Int.reduceToNat, Int.reduceEq, Int.cast_ofNat_Int, ne_eq, not_true_eq_false, not_false_eq_true, imp_self, implies_true, true_implies, false_implies, and_self]
  refine aIf_bool (fun hf => ?_) (fun hf => ?_)
  · rw [hf]
    simp only [go_sem, r_block, reduceIte, Nat.reduceEqDiff, Nat.reduceAdd, Nat.reduceMul, Nat.reduceSub, Nat.reduceLT, Nat.reduceLeDiff, Nat.le_refl, Nat.zero_le, Nat.zero_add, Nat.add_zero, Nat.mul_one, splice_zero, Int.toNat_natCast, Int.natCast_nonneg, Int.reduceLE, Int.reduceLT, Int.reduceToNat, Int.reduceEq, Int.cast_ofNat_Int, ne_eq, not_true_eq_false, not_false_eq_true, imp_self, implies_true, true_implies, false_implies, and_self]
    exact aRet_as (r := boo true) rfl (by rw [if_pos (by simp)]; exact ⟨rfl, h⟩)
  rw [hf]
  simp only [go_sem, r_block, reduceIte, Nat.reduceEqDiff, Nat.reduceAdd, Nat.reduceMul, Nat.reduceSub, Nat.reduceLT, Nat.reduceLeDiff, Nat.le_refl, Nat.zero_le, Nat.zero_add, Nat.add_zero, Nat.mul_one, splice_zero, Int.toNat_natCast, Int.natCast_nonneg, Int.reduceLE, Int.reduceLT, Int.reduceToNat, Int.reduceEq, Int.cast_ofNat_Int, ne_eq, not_true_eq_false, not_false_eq_true, imp_self, implies_true, true_implies, false_implies, and_self]
  refine aIf_by (fun hab => ?_) (fun hab => ?_)
  · simp only [go_sem, r_block, reduceIte, Nat.reduceEqDiff, Nat.reduceAdd, Nat.reduceMul, Nat.reduceSub, Nat.reduceLT, Nat.reduceLeDiff, Nat.le_refl, Nat.zero_le, Nat.zero_add, Nat.add_zero, Nat.mul_one, splice_zero, Int.toNat_natCast, Int.natCast_nonneg, Int.reduceLE, Int.reduceLT, Int.reduceToNat, Int.reduceEq, Int.cast_ofNat_Int, ne_eq, not_true_eq_false, not_false_eq_true, imp_self, implies_true, true_implies, false_implies, and_self]
    exact aRet_as (r := boo true) rfl (by rw [if_pos (by right; omega)]; exact ⟨rfl, h⟩)
  simp only [go_sem, r_block, ho, hL.cells, hL.one, reduceIte, Nat.reduceEqDiff, Nat.reduceAdd, Nat.reduceMul, Nat.reduceSub, Nat.reduceLT, Nat.reduceLeDiff, Nat.le_refl, Nat.zero_le, Nat.zero_add, Nat.add_zero, Nat.mul_one, splice_zero, Int.toNat_natCast, Int.natCast_nonneg, Int.reduceLE, Int.reduceLT, Int.reduceToNat, Int.reduceEq, Int.cast_ofNat_Int, ne_eq, not_true_eq_false, not_false_eq_true, imp_self, implies_true, true_implies, false_implies, and_self]
  rename_i σ
  refine aApp_by (ys := [W.enc ⟨b, a, false⟩]) rfl (by omega) (by omega) rfl (hL.app (by simpa using hl) fun lv1 σ1 hL1 hk1 => ?_)
  have kc : ∀ x cs, σ x = some (.cells cs) → σ1 x = some (.cells cs) := fun x cs hx => (hk1 x _ hx (hL.not_own hx)).1
  have hL1 : LAt 3 σ1 lv1 ((ws ++ [W.mk b a false]).map W.enc) := by simpa using hL1
  have h1 := h.setN (ws' := ws ++ [⟨b, a, false⟩]) (d' := d) kc hL1
  have ho1 := kc _ _ ho
  simp only [go_sem, r_block, ho1, hL1.cells, hL1.one, reduceIte, Nat.reduceEqDiff, Nat.reduceAdd, Nat.reduceMul, Nat.reduceSub, Nat.reduceLT, Nat.reduceLeDiff, Nat.le_refl, Nat.zero_le, Nat.zero_add, Nat.add_zero, Nat.mul_one, splice_zero, Int.toNat_natCast, Int.natCast_nonneg, Int.reduceLE, Int.reduceLT, Int.reduceToNat, Int.reduceEq, Int.cast_ofNat_Int, ne_eq, not_true_eq_false, not_false_eq_true, imp_self, implies_true, true_implies, false_implies, and_self]
  refine ⟨by omega, by omega, ?_⟩
  rw [nthq a ha]
  refine (sent_at (h1.qs a ha)).mono ?_
  rintro _ _ ⟨rfl, rfl⟩
  simp only [go_sem, r_block, reduceIte, Nat.reduceEqDiff, Nat.reduceAdd, Nat.reduceMul, Nat.reduceSub, Nat.reduceLT, Nat.reduceLeDiff, Nat.le_refl, Nat.zero_le, Nat.zero_add, Nat.add_zero, Nat.mul_one, splice_zero, Int.toNat_natCast, Int.natCast_nonneg, Int.reduceLE, Int.reduceLT, Int.reduceToNat, Int.reduceEq, Int.cast_ofNat_Int, ne_eq, not_true_eq_false, not_false_eq_true, imp_self, implies_true, true_implies, false_implies, and_self]
  exact aRet_as (r := boo (decide ((S a).sent.1 = 0))) rfl (by rw [if_neg (by simp; omega)]; exact ⟨rfl, h1.setQ ha _⟩)

/-- What is on its way, less the j-th; what comes of it. -/
def arr (S : Nat → Qs) (ws : List W) (j : Nat) : Bool × (Nat → Qs) × List W :=
  if (ws.getD j ⟨0, 0, false⟩).sig then (decide ((S (ws.getD j ⟨0, 0, false⟩).to).signal.1 = 0), upd S (ws.getD j ⟨0, 0, false⟩).to (S (ws.getD j ⟨0, 0, false⟩).to).signal.2, ws.take j ++ ws.drop (j + 1))
  else (true, upd S (ws.getD j ⟨0, 0, false⟩).to ((S (ws.getD j ⟨0, 0, false⟩).to).got (nm (ws.getD j ⟨0, 0, false⟩).frm)).2,
    if ((S (ws.getD j ⟨0, 0, false⟩).to).got (nm (ws.getD j ⟨0, 0, false⟩).frm)).1 then ws.take j ++ ws.drop (j + 1) ++ [⟨(ws.getD j ⟨0, 0, false⟩).frm, (ws.getD j ⟨0, 0, false⟩).to, true⟩] else ws.take j ++ ws.drop (j + 1))
/-- Which one. -/
def pos (k : Int) (L : Nat) : Nat := ((k.tmod L + L).tmod L).toNat
theorem pos_lt {k : Int} {L : Nat} (hL : 0 < L) : pos k L < L ∧ ((k.tmod L + L).tmod L) = (pos k L : Int) ∧ -(L : Int) < k.tmod L ∧ k.tmod L < L := by
  have hl : (0 : Int) < L := by omega
  have h1 := Int.tmod_lt_of_pos k hl
  have h2 := Int.lt_tmod_of_pos k hl
  have h3 : 0 ≤ k.tmod L + L := by omega
  have h4 := Int.tmod_nonneg (L : Int) h3
  have h5 := Int.tmod_lt_of_pos (k.tmod L + L) hl
  refine ⟨?_, ?_, h2, h1⟩ <;> unfold pos <;> omega

theorem encs_getD {j : Nat} (hj : j < ws.length) : (ws.map W.enc).getD j [] = W.enc (ws.getD j ⟨0, 0, false⟩) := by
  simp [List.getD_eq_getElem?_getD, hj]

theorem arrive_at (h : NetAt σ n q S ws d) {k : Int} (hw : ∀ w ∈ ws, w.to < 4 ∧ w.frm < 4) (hl : ws.length ≤ 100000) :
    AT Try.prog 13 [ptr n, int k] σ fun r σ' => if ws = [] then r = boo true ∧ NetAt σ' n q S ws d
      else r = boo (arr S ws (pos k ws.length)).1 ∧ NetAt σ' n q (arr S ws (pos k ws.length)).2.1 (arr S ws (pos k ws.length)).2.2 d := by
  refine AT.of_body Try.func13 rfl (by decide) (by kernel_rfl) (by kernel_rfl) (Nat.le_of_ble_eq_true rfl) ?_
  obtain ⟨lv, ho, hL⟩ := h.obj
  simp only [go_sem, r_block, ho, hL.len, reduceIte, Nat.reduceEqDiff, Nat.reduceAdd, Nat.reduceMul, Nat.reduceSub, Nat.reduceLT, Nat.reduceLeDiff, Nat.le_refl, Nat.zero_le, Nat.zero_add, Nat.add_zero, Nat.mul_one, splice_zero, Int.toNat_natCast, Int.natCast_nonneg, Int.reduceLE, Int.reduceLT, Int.reduceToNat, Int.reduceEq, Int.cast_ofNat_Int, ne_eq, not_true_eq_false, not_false_eq_true, imp_self, implies_true, true_implies, false_implies, and_self]
  refine aIf_by (fun h0 => ?_) (fun h0 => ?_)
  · simp only [go_sem, r_block, reduceIte, Nat.reduceEqDiff, Nat.reduceAdd, Nat.reduceMul, Nat.reduceSub, Nat.reduceLT, Nat.reduceLeDiff, Nat.le_refl, Nat.zero_le, Nat.zero_add, Nat.add_zero, Nat.mul_one, splice_zero, Int.toNat_natCast, Int.natCast_nonneg, Int.reduceLE, Int.reduceLT, Int.reduceToNat, Int.reduceEq, Int.cast_ofNat_Int, ne_eq, not_true_eq_false, not_false_eq_true, imp_self, implies_true, true_implies, false_implies, and_self]
    have : ws = [] := by simpa using h0
    exact aRet_as (r := boo true) rfl (by rw [if_pos this]; exact ⟨rfl, h⟩)
  have hne : ws ≠ [] := fun e => h0 (by simp [e])
  have hlen : (ws.map W.enc).length = ws.length := by simp
  have hpos : 0 < ws.length := by simp at h0; cases ws with
    | nil => exact absurd rfl hne
    | cons => simp
  simp only [go_sem, r_block, reduceIte, Nat.reduceEqDiff, Nat.reduceAdd, Nat.reduceMul, Nat.reduceSub, Nat.reduceLT, Nat.reduceLeDiff, Nat.le_refl, Nat.zero_le, Nat.zero_add, Nat.add_zero, Nat.mul_one, splice_zero, Int.toNat_natCast, Int.natCast_nonneg, Int.reduceLE, Int.reduceLT, Int.reduceToNat, Int.reduceEq, Int.cast_ofNat_Int, ne_eq, not_true_eq_false, not_false_eq_true, imp_self, implies_true, true_implies, false_implies, and_self]
  refine aDraw_plan [.rd 0 false, .rd 1 false, .rd 2 false, .rd 3 false, .rd 4 true, .rd 5 false, .rd 6 false, .rd 7 false, .rd 8 false, .rd 9 false, .rd 10 true, .rd 11 false, .rd 12 false, .rd 13 false, .rd 14 false, .rd 15 false, .rd 16 true, .rd 17 false, .rd 18 false, .rd 19 false] (by kernel_rfl) (by kernel_rfl) (by kernel_rfl) ?_
  simp only [go_sem, r_block, ho, hL.len, hlen, reduceIte, Nat.reduceEqDiff, Nat.reduceAdd, Nat.reduceMul, Nat.reduceSub, Nat.reduceLT, Nat.reduceLeDiff, Nat.le_refl, Nat.zero_le, Nat.zero_add, Nat.add_zero, Nat.mul_one, splice_zero, Int.toNat_natCast, Int.natCast_nonneg, Int.reduceLE, Int.reduceLT, Int.reduceToNat, Int.reduceEq, Int.cast_ofNat_Int, ne_eq, not_true_eq_false, not_false_eq_true, imp_self, implies_true, true_implies, false_implies, and_self]
  refine ⟨by omega, by omega, ?_⟩
  obtain ⟨hj, ej, b1, b2⟩ := pos_lt (k := k) hpos
  rw [wrap64 (by omega), ej]
  obtain ⟨j, hjd⟩ : ∃ j, j = pos k ws.length := ⟨_, rfl⟩
  rw [← hjd]
  rw [← hjd] at hj
  refine hL.iadr (by omega) (by rw [hlen]; omega) fun p hp => ?_
  simp only [go_sem, r_block, reduceIte, Nat.reduceEqDiff, Nat.reduceAdd, Nat.reduceMul, Nat.reduceSub, Nat.reduceLT, Nat.reduceLeDiff, Nat.le_refl, Nat.zero_le, Nat.zero_add, Nat.add_zero, Nat.mul_one, splice_zero, Int.toNat_natCast, Int.natCast_nonneg, Int.reduceLE, Int.reduceLT, Int.reduceToNat, Int.reduceEq, Int.cast_ofNat_Int, ne_eq, not_true_eq_false, not_false_eq_true, imp_self, implies_true, true_implies, false_implies, and_self]
  refine hp _ _ _ ?_
  rw [Int.toNat_natCast, encs_getD hj]
  obtain ⟨w, hwd⟩ : ∃ w, w = ws.getD j ⟨0, 0, false⟩ := ⟨_, rfl⟩
  have hwm : w ∈ ws := by
    rw [hwd, List.getD_eq_getElem?_getD, List.getElem?_eq_getElem hj]
    exact List.getElem_mem hj
  obtain ⟨wt, wf⟩ := hw w hwm
  rw [← hwd]
  unfold W.enc
  simp only [go_sem, r_block, reduceIte, Nat.reduceEqDiff, Nat.reduceAdd, Nat.reduceMul, Nat.reduceSub, Nat.reduceLT, Nat.reduceLeDiff, Nat.le_refl, Nat.zero_le, Nat.zero_add, Nat.add_zero, Nat.mul_one, splice_zero, Int.toNat_natCast, Int.natCast_nonneg, Int.reduceLE, Int.reduceLT, Int.reduceToNat, Int.reduceEq, Int.cast_ofNat_Int, ne_eq, not_true_eq_false, not_false_eq_true, imp_self, implies_true, true_implies, false_implies, and_self]
  refine aNew_intro fun z hz hzn => ?_
  simp only [go_sem, r_block, reduceIte, Nat.reduceEqDiff, Nat.reduceAdd, Nat.reduceMul, Nat.reduceSub, Nat.reduceLT, Nat.reduceLeDiff, Nat.le_refl, Nat.zero_le, Nat.zero_add, Nat.add_zero, Nat.mul_one, splice_zero, Int.toNat_natCast, Int.natCast_nonneg, Int.reduceLE, Int.reduceLT, Int.reduceToNat, Int.reduceEq, Int.cast_ofNat_Int, ne_eq, not_true_eq_false, not_false_eq_true, imp_self, implies_true, true_implies, false_implies, and_self]
  obtain ⟨σ1, hs⟩ : ∃ σ1, σ1 = σ.set z (.cells [int w.to, int w.frm, boo w.sig]) := ⟨_, rfl⟩
  rw [← hs]
  have sub : ∀ x o, σ x = some o → σ1 x = some o := fun x o hx => by rw [hs, set_ne (hzn x o hx)]; exact hx
  have h1 := h.keep sub
  have ho1 := sub _ _ ho
  have hL1 : LAt 3 σ1 lv (ws.map W.enc) := hL.keep fun x o hx _ => sub x o hx
  have hz1 : σ1 z = some (.cells [int w.to, int w.frm, boo w.sig]) := by rw [hs, set_same]
  have hzq : ∀ i, i < 4 → z ≠ q i := fun i hi e => by have := h.qs i hi; rw [← e, hz] at this; cases this
  have hzN : z ≠ n := fun e => by rw [← e, hz] at ho; cases ho
  clear hs
  simp only [go_sem, r_block, ho1, reduceIte, Nat.reduceEqDiff, Nat.reduceAdd, Nat.reduceMul, Nat.reduceSub, Nat.reduceLT, Nat.reduceLeDiff, Nat.le_refl, Nat.zero_le, Nat.zero_add, Nat.add_zero, Nat.mul_one, splice_zero, Int.toNat_natCast, Int.natCast_nonneg, Int.reduceLE, Int.reduceLT, Int.reduceToNat, Int.reduceEq, Int.cast_ofNat_Int, ne_eq, not_true_eq_false, not_false_eq_true, imp_self, implies_true, true_implies, false_implies, and_self]
  refine hL1.upto (by omega) (by rw [hlen]; omega) fun x hx => ?_
  simp only [go_sem, r_block, reduceIte, Nat.reduceEqDiff, Nat.reduceAdd, Nat.reduceMul, Nat.reduceSub, Nat.reduceLT, Nat.reduceLeDiff, Nat.le_refl, Nat.zero_le, Nat.zero_add, Nat.add_zero, Nat.mul_one, splice_zero, Int.toNat_natCast, Int.natCast_nonneg, Int.reduceLE, Int.reduceLT, Int.reduceToNat, Int.reduceEq, Int.cast_ofNat_Int, ne_eq, not_true_eq_false, not_false_eq_true, imp_self, implies_true, true_implies, false_implies, and_self]
  refine aApp_by (hx _ _ hL1) (by omega) (by omega) rfl (LAt.full.app (by simp; omega) fun lv2 σ2 hR2 hk2 => ?_)
  have hk2 : ∀ x o, σ1 x = some o → σ2 x = some o ∧ ¬ Own lv2 x := fun x o hx => hk2 x o hx (fun ⟨_, _, h⟩ => by cases h)
  have h2 := h1.keep fun x o hx => (hk2 x o hx).1
  have ho2 := (hk2 _ _ ho1).1
  have hz2 := (hk2 _ _ hz1).1
  have hL2 : LAt 3 σ2 lv (ws.map W.enc) := hL1.keep fun x o hx _ => (hk2 x o hx).1
  rw [List.nil_append, Int.toNat_natCast] at hR2
  simp only [go_sem, r_block, ho2, reduceIte, Nat.reduceEqDiff, Nat.reduceAdd, Nat.reduceMul, Nat.reduceSub, Nat.reduceLT, Nat.reduceLeDiff, Nat.le_refl, Nat.zero_le, Nat.zero_add, Nat.add_zero, Nat.mul_one, splice_zero, Int.toNat_natCast, Int.natCast_nonneg, Int.reduceLE, Int.reduceLT, Int.reduceToNat, Int.reduceEq, Int.cast_ofNat_Int, ne_eq, not_true_eq_false, not_false_eq_true, imp_self, implies_true, true_implies, false_implies, and_self]
  rw [next64 (by omega)]
  refine hL2.from (by omega) (by omega) (by rw [hlen]; omega) fun y hy => ?_
  simp only [go_sem, r_block, reduceIte, Nat.reduceEqDiff, Nat.reduceAdd, Nat.reduceMul, Nat.reduceSub, Nat.reduceLT, Nat.reduceLeDiff, Nat.le_refl, Nat.zero_le, Nat.zero_add, Nat.add_zero, Nat.mul_one, splice_zero, Int.toNat_natCast, Int.natCast_nonneg, Int.reduceLE, Int.reduceLT, Int.reduceToNat, Int.reduceEq, Int.cast_ofNat_Int, ne_eq, not_true_eq_false, not_false_eq_true, imp_self, implies_true, true_implies, false_implies, and_self]
  refine aApp_by (hy _ _ hL2) (by omega) (by omega) rfl (hR2.app (by simp; omega) fun lv3 σ3 hR3 hk3 => ?_)
  have kc : ∀ x cs, σ2 x = some (.cells cs) → σ3 x = some (.cells cs) := fun x cs hx => (hk3 x _ hx (hR2.not_own hx)).1
  have ho3 := kc _ _ ho2
  have hz3 := kc _ _ hz2
  rw [Int.toNat_natCast] at hR3
  have hR3 : LAt 3 σ3 lv3 ((ws.take j ++ ws.drop (j + 1)).map W.enc) := by simpa [List.map_take, List.map_drop] using hR3
  have h4 := h2.setN (ws' := ws.take j ++ ws.drop (j + 1)) (d' := d) kc hR3
  simp only [go_sem, r_block, ho3, hR3.cells, hR3.one, reduceIte, Nat.reduceEqDiff, Nat.reduceAdd, Nat.reduceMul, Nat.reduceSub, Nat.reduceLT, Nat.reduceLeDiff, Nat.le_refl, Nat.zero_le, Nat.zero_add, Nat.add_zero, Nat.mul_one, splice_zero, Int.toNat_natCast, Int.natCast_nonneg, Int.reduceLE, Int.reduceLT, Int.reduceToNat, Int.reduceEq, Int.cast_ofNat_Int, ne_eq, not_true_eq_false, not_false_eq_true, imp_self, implies_true, true_implies, false_implies, and_self]
  obtain ⟨σ4, hs⟩ : ∃ σ4, σ4 = σ3.set n (.cells [ptr (q 0), ptr (q 1), ptr (q 2), ptr (q 3), lv3, boo d]) := ⟨_, rfl⟩
  rw [← hs] at h4
  have hz4 : σ4 z = some (.cells [int w.to, int w.frm, boo w.sig]) := by rw [hs, set_ne hzN]; exact hz3
  have ho4 : σ4 n = some (.cells [ptr (q 0), ptr (q 1), ptr (q 2), ptr (q 3), lv3, boo d]) := by rw [hs, set_same]
  have hL4 : LAt 3 σ4 lv3 ((ws.take j ++ ws.drop (j + 1)).map W.enc) := hR3.keep fun x o hx ho' => by
    have : x ≠ n := fun e => by subst e; exact hR3.not_own ho3 ho'
    rw [hs, set_ne this]
    exact hx
  rw [← hs]
  clear hs
  simp only [go_sem, r_block, hz4, reduceIte, Nat.reduceEqDiff, Nat.reduceAdd, Nat.reduceMul, Nat.reduceSub, Nat.reduceLT, Nat.reduceLeDiff, Nat.le_refl, Nat.zero_le, Nat.zero_add, Nat.add_zero, Nat.mul_one, splice_zero, Int.toNat_natCast, Int.natCast_nonneg, Int.reduceLE, Int.reduceLT, Int.reduceToNat, Int.reduceEq, Int.cast_ofNat_Int, ne_eq, not_true_eq_false, not_false_eq_true, imp_self, implies_true, true_implies, false_implies, and_self]
  have hq := nthq (q := q) (x := lv3) (y := boo d) w.to wt
  refine aIf_bool (fun hsig => ?_) (fun hsig => ?_)
  · simp only [go_sem, r_block, reduceIte, Nat.reduceEqDiff, Nat.reduceAdd, Nat.reduceMul, Nat.reduceSub, Nat.reduceLT, Nat.reduceLeDiff, Nat.le_refl, Nat.zero_le, Nat.zero_add, Nat.add_zero, Nat.mul_one, splice_zero, Int.toNat_natCast, Int.natCast_nonneg, Int.reduceLE, Int.reduceLT, Int.reduceToNat, Int.reduceEq, Int.cast_ofNat_Int, ne_eq, not_true_eq_false, not_false_eq_true, imp_self, implies_true, true_implies, false_implies, and_self]
    refine aDraw_plan [.rd 0 false, .rd 1 false, .rd 2 true, .rd 3 false, .rd 4 false, .rd 5 false, .rd 6 true, .ef 7 [], .rd 8 false, .rd 9 false] (by kernel_rfl) (by kernel_rfl) (by kernel_rfl) ?_
    simp only [go_sem, r_block, hz4, ho4, hq, reduceIte, Nat.reduceEqDiff, Nat.reduceAdd, Nat.reduceMul, Nat.reduceSub, Nat.reduceLT, Nat.reduceLeDiff, Nat.le_refl, Nat.zero_le, Nat.zero_add, Nat.add_zero, Nat.mul_one, splice_zero, Int.toNat_natCast, Int.natCast_nonneg, Int.reduceLE, Int.reduceLT, Int.reduceToNat, Int.reduceEq, Int.cast_ofNat_Int, ne_eq, not_true_eq_false, not_false_eq_true, imp_self, implies_true, true_implies, false_implies, and_self]
    refine ⟨by omega, by omega, ?_⟩
    refine (signal_at (h4.qs _ wt)).mono ?_
    rintro _ _ ⟨rfl, rfl⟩
    simp only [go_sem, r_block, reduceIte, Nat.reduceEqDiff, Nat.reduceAdd, Nat.reduceMul, Nat.reduceSub, Nat.reduceLT, Nat.reduceLeDiff, Nat.le_refl, Nat.zero_le, Nat.zero_add, Nat.add_zero, Nat.mul_one, splice_zero, Int.toNat_natCast, Int.natCast_nonneg, Int.reduceLE, Int.reduceLT, Int.reduceToNat, Int.reduceEq, Int.cast_ofNat_Int, ne_eq, not_true_eq_false, not_false_eq_true, imp_self, implies_true, true_implies, false_implies, and_self]
    refine aRet_as (r := boo (decide ((S w.to).signal.1 = 0))) rfl ?_
    rw [if_neg hne]
    unfold arr
    rw [← hwd, if_pos hsig]
    exact ⟨rfl, h4.setQ wt _⟩
  · simp only [go_sem, r_block, reduceIte, Nat.reduceEqDiff, Nat.reduceAdd, Nat.reduceMul, Nat.reduceSub, Nat.reduceLT, Nat.reduceLeDiff, Nat.le_refl, Nat.zero_le, Nat.zero_add, Nat.add_zero, Nat.mul_one, splice_zero, Int.toNat_natCast, Int.natCast_nonneg, Int.reduceLE, Int.reduceLT, Int.reduceToNat, Int.reduceEq, Int.cast_ofNat_Int, ne_eq, not_true_eq_false, not_false_eq_true, imp_self, implies_true, true_implies, false_implies, and_self]
    refine aDraw_plan [.rd 0 false, .rd 1 false, .rd 2 true, .rd 3 false, .rd 4 false, .rd 5 false, .rd 6 true, .rd 7 false, .rd 8 true, .ef 9 [2, 6], .ef 10 []] (by kernel_rfl) (by kernel_rfl) (by kernel_rfl) ?_
    simp only [go_sem, r_block, hz4, ho4, hq, reduceIte, Nat.reduceEqDiff, Nat.reduceAdd, Nat.reduceMul, Nat.reduceSub, Nat.reduceLT, Nat.reduceLeDiff, Nat.le_refl, Nat.zero_le, Nat.zero_add, Nat.add_zero, Nat.mul_one, splice_zero, Int.toNat_natCast, Int.natCast_nonneg, Int.reduceLE, Int.reduceLT, Int.reduceToNat, Int.reduceEq, Int.cast_ofNat_Int, ne_eq, not_true_eq_false, not_false_eq_true, imp_self, implies_true, true_implies, false_implies, and_self]
    refine ⟨by omega, by omega, ?_⟩
    refine (name_at wf).mono ?_
    rintro _ _ ⟨rfl, rfl⟩
    simp only [go_sem, r_block, hz4, ho4, hq, reduceIte, Nat.reduceEqDiff, Nat.reduceAdd, Nat.reduceMul, Nat.reduceSub, Nat.reduceLT, Nat.reduceLeDiff, Nat.le_refl, Nat.zero_le, Nat.zero_add, Nat.add_zero, Nat.mul_one, splice_zero, Int.toNat_natCast, Int.natCast_nonneg, Int.reduceLE, Int.reduceLT, Int.reduceToNat, Int.reduceEq, Int.cast_ofNat_Int, ne_eq, not_true_eq_false, not_false_eq_true, imp_self, implies_true, true_implies, false_implies, and_self]
    refine ⟨fun k hk => ⟨by omega, hk⟩, ?_⟩
    refine (got_at (h4.qs _ wt)).mono ?_
    rintro _ σ5 ⟨rfl, hs⟩
    have h5 := h4.setQ wt ((S w.to).got (nm w.frm)).2
    rw [← hs] at h5
    have hz5 : σ5 z = some (.cells [int w.to, int w.frm, boo w.sig]) := by rw [hs, set_ne (hzq _ wt)]; exact hz4
    have ho5 : σ5 n = some (.cells [ptr (q 0), ptr (q 1), ptr (q 2), ptr (q 3), lv3, boo d]) := by rw [hs, set_ne (h4.ne wt)]; exact ho4
    have hL5 : LAt 3 σ5 lv3 ((ws.take j ++ ws.drop (j + 1)).map W.enc) := hL4.keep fun x o hx ho' => by
      have : x ≠ q w.to := fun e => by subst e; exact hL4.not_own (h4.qs _ wt) ho'
      rw [hs, set_ne this]
      exact hx
    clear hs
    simp only [go_sem, r_block, reduceIte, Nat.reduceEqDiff, Nat.reduceAdd, Nat.reduceMul, Nat.reduceSub, Nat.reduceLT, Nat.reduceLeDiff, Nat.le_refl, Nat.zero_le, Nat.zero_add, Nat.add_zero, Nat.mul_one, splice_zero, Int.toNat_natCast, Int.natCast_nonneg, Int.reduceLE, Int.reduceLT, Int.reduceToNat, Int.reduceEq, Int.cast_ofNat_Int, ne_eq, not_true_eq_false, not_false_eq_true, imp_self, implies_true, true_implies, false_implies, and_self]
    refine aIf_bool (fun hg => ?_) (fun hg => ?_)
    · simp only [go_sem, r_block, reduceIte, Nat.reduceEqDiff, Nat.reduceAdd, Nat.reduceMul, Nat.reduceSub, Nat.reduceLT, Nat.reduceLeDiff, Nat.le_refl, Nat.zero_le, Nat.zero_add, Nat.add_zero, Nat.mul_one, splice_zero, Int.toNat_natCast, Int.natCast_nonneg, Int.reduceLE, Int.reduceLT, Int.reduceToNat, Int.reduceEq, Int.cast_ofNat_Int, ne_eq, not_true_eq_false, not_false_eq_true, imp_self, implies_true, true_implies, false_implies, and_self]
      refine aDraw_plan [.rd 0 false, .rd 1 false, .rd 2 false, .rd 3 false, .rd 4 true, .rd 5 false, .rd 6 true, .rd 7 false, .rd 8 true, .rd 9 false, .rd 10 false, .ef 11 [], .rd 12 false, .rd 13 false, .ef 14 []] (by kernel_rfl) (by kernel_rfl) (by kernel_rfl) ?_
      simp only [go_sem, r_block, hz5, ho5, reduceIte, Nat.reduceEqDiff, Nat.reduceAdd, Nat.reduceMul, Nat.reduceSub, Nat.reduceLT, Nat.reduceLeDiff, Nat.le_refl, Nat.zero_le, Nat.zero_add, Nat.add_zero, Nat.mul_one, splice_zero, Int.toNat_natCast, Int.natCast_nonneg, Int.reduceLE, Int.reduceLT, Int.reduceToNat, Int.reduceEq, Int.cast_ofNat_Int, ne_eq, not_true_eq_false, not_false_eq_true, imp_self, implies_true, true_implies, false_implies, and_self]
      refine aApp_by (ys := [W.enc ⟨w.frm, w.to, true⟩]) rfl (by omega) (by omega) rfl (hL5.app (by simp; omega) fun lv6 σ6 hL6 hk6 => ?_)
      have kc : ∀ x cs, σ5 x = some (.cells cs) → σ6 x = some (.cells cs) := fun x cs hx => (hk6 x _ hx (hL5.not_own hx)).1
      have hL6 : LAt 3 σ6 lv6 ((ws.take j ++ ws.drop (j + 1) ++ [W.mk w.frm w.to true]).map W.enc) := by simpa using hL6
      have h6 := h5.setN (ws' := ws.take j ++ ws.drop (j + 1) ++ [W.mk w.frm w.to true]) (d' := d) kc hL6
      have ho6 := kc _ _ ho5
      simp only [go_sem, r_block, ho6, hL6.cells, hL6.one, reduceIte, Nat.reduceEqDiff, Nat.reduceAdd, Nat.reduceMul, Nat.reduceSub, Nat.reduceLT, Nat.reduceLeDiff, Nat.le_refl, Nat.zero_le, Nat.zero_add, Nat.add_zero, Nat.mul_one, splice_zero, Int.toNat_natCast, Int.natCast_nonneg, Int.reduceLE, Int.reduceLT, Int.reduceToNat, Int.reduceEq, Int.cast_ofNat_Int, ne_eq, not_true_eq_false, not_false_eq_true, imp_self, implies_true, true_implies, false_implies, and_self]
      refine aRet_as (r := boo true) rfl ?_
      rw [if_neg hne]
      unfold arr
      rw [← hwd, if_neg (by simp [hsig]), if_pos hg]
      exact ⟨rfl, h6⟩
    · simp only [go_sem, r_block, reduceIte, Nat.reduceEqDiff, Nat.reduceAdd, Nat.reduceMul, Nat.reduceSub, Nat.reduceLT, Nat.reduceLeDiff, Nat.le_refl, Nat.zero_le, Nat.zero_add, Nat.add_zero, Nat.mul_one, splice_zero, Int.toNat_natCast, Int.natCast_nonneg, Int.reduceLE, Int.reduceLT, Int.reduceToNat, Int.reduceEq, Int.cast_ofNat_Int, ne_eq, not_true_eq_false, not_false_eq_true, imp_self, implies_true, true_implies, false_implies, and_self]
      refine aRet_as (r := boo true) rfl ?_
      rw [if_neg hne]
      unfold arr
      rw [← hwd, if_neg (by simp [hsig]), if_neg (by simp [hg])]
      exact ⟨rfl, h5⟩

/-- A node rests: what comes of it; b: its place, if its name is one. -/
def rst (S : Nat → Qs) (ws : List W) (d : Bool) (a b : Nat) : (Nat → Qs) × List W × Bool :=
  (upd S a (S a).rest.2, if (S a).rest.1.2.1 then ws ++ [⟨b, a, true⟩] else ws, d || (S a).rest.1.2.2)

theorem netRest_at (h : NetAt σ n q S ws d) {a b : Nat} (ha : a < 4) (hl : ws.length ≤ 100000) (hb : (S a).rest.1.2.1 = true → b < 4 ∧ (S a).rest.1.1 = nm b ∧ (S a).rest.1.2.2 = false) (hd : (S a).rest.1.2.2 = true → a = 0) :
    AT Try.prog 14 [ptr n, int a] σ fun r σ' => r = boo true ∧ NetAt σ' n q (rst S ws d a b).1 (rst S ws d a b).2.1 (rst S ws d a b).2.2 := by
  refine AT.of_body Try.func14 rfl (by decide) (by kernel_rfl) (by kernel_rfl) (Nat.le_of_ble_eq_true rfl) ?_
  obtain ⟨lv, ho, hL⟩ := h.obj
  have hq := nthq (q := q) (x := lv) (y := boo d) a ha
  simp only [go_sem, r_block, ho, hq, reduceIte, Nat.reduceEqDiff, Nat.reduceAdd, Nat.reduceMul, Nat.reduceSub, Nat.reduceLT, Nat.reduceLeDiff, Nat.le_refl, Nat.zero_le, Nat.zero_add, Nat.add_zero, Nat.mul_one, splice_zero, Int.toNat_natCast, Int.natCast_nonneg, Int.reduceLE, Int.reduceLT, Int.reduceToNat, Int.reduceEq, Int.cast_ofNat_Int, ne_eq, not_true_eq_false, not_false_eq_true, imp_self, implies_true, true_implies, false_implies, and_self]
  refine ⟨by omega, by omega, ?_⟩
  refine (rest_at (h.qs a ha)).mono ?_
  rintro _ σ1 ⟨rfl, hs⟩
  have h1 := h.setQ ha (S a).rest.2
  rw [← hs] at h1
  have ho1 : σ1 n = some (.cells [ptr (q 0), ptr (q 1), ptr (q 2), ptr (q 3), lv, boo d]) := by rw [hs, set_ne (h.ne ha)]; exact ho
  have hL1 : LAt 3 σ1 lv (ws.map W.enc) := hL.keep fun x o hx ho' => by
    have : x ≠ q a := fun e => by subst e; exact hL.not_own (h.qs _ ha) ho'
    rw [hs, set_ne this]
    exact hx
  clear hs
  simp only [go_sem, r_block, reduceIte, Nat.reduceEqDiff, Nat.reduceAdd, Nat.reduceMul, Nat.reduceSub, Nat.reduceLT, Nat.reduceLeDiff, Nat.le_refl, Nat.zero_le, Nat.zero_add, Nat.add_zero, Nat.mul_one, splice_zero, Int.toNat_natCast, Int.natCast_nonneg, Int.reduceLE, Int.reduceLT, Int.reduceToNat, Int.reduceEq, Int.cast_ofNat_Int, ne_eq, not_true_eq_false, not_false_eq_true, imp_self, implies_true, true_implies, false_implies, and_self]
  cases d
  · refine aIf_bool (fun hg => ?_) (fun hg => ?_)
    · obtain ⟨hb4, hnm, hdf⟩ := hb hg
      rw [hnm, hdf]
      simp only [go_sem, r_block, reduceIte, Nat.reduceEqDiff, Nat.reduceAdd, Nat.reduceMul, Nat.reduceSub, Nat.reduceLT, Nat.reduceLeDiff, Nat.le_refl, Nat.zero_le, Nat.zero_add, Nat.add_zero, Nat.mul_one, splice_zero, Int.toNat_natCast, Int.natCast_nonneg, Int.reduceLE, Int.reduceLT, Int.reduceToNat, Int.reduceEq, Int.cast_ofNat_Int, ne_eq, not_true_eq_false, not_false_eq_true, imp_self, implies_true, true_implies, false_implies, and_self]
      refine (node_at hb4).mono ?_
      rintro _ σ1' ⟨rfl, rfl⟩
      simp only [go_sem, r_block, reduceIte, Nat.reduceEqDiff, Nat.reduceAdd, Nat.reduceMul, Nat.reduceSub, Nat.reduceLT, Nat.reduceLeDiff, Nat.le_refl, Nat.zero_le, Nat.zero_add, Nat.add_zero, Nat.mul_one, splice_zero, Int.toNat_natCast, Int.natCast_nonneg, Int.reduceLE, Int.reduceLT, Int.reduceToNat, Int.reduceEq, Int.cast_ofNat_Int, ne_eq, not_true_eq_false, not_false_eq_true, imp_self, implies_true, true_implies, false_implies, and_self]
      rw [show decide ((b : Int) < 0) = false by simp]
      simp only [go_sem, r_block, ho1, reduceIte, Nat.reduceEqDiff, Nat.reduceAdd, Nat.reduceMul, Nat.reduceSub, Nat.reduceLT, Nat.reduceLeDiff, Nat.le_refl, Nat.zero_le, Nat.zero_add, Nat.add_zero, Nat.mul_one, splice_zero, Int.toNat_natCast, Int.natCast_nonneg, Int.reduceLE, Int.reduceLT, Int.reduceToNat, Int.reduceEq, Int.cast_ofNat_Int, ne_eq, not_true_eq_false, not_false_eq_true, imp_self, implies_true, true_implies, false_implies, and_self]
      refine aApp_by (ys := [W.enc ⟨b, a, true⟩]) rfl (by omega) (by omega) rfl (hL1.app (by simp; omega) fun lv2 σ2 hL2 hk2 => ?_)
      have kc : ∀ x cs, σ1' x = some (.cells cs) → σ2 x = some (.cells cs) := fun x cs hx => (hk2 x _ hx (hL1.not_own hx)).1
      have hL2 : LAt 3 σ2 lv2 ((ws ++ [W.mk b a true]).map W.enc) := by simpa using hL2
      have h2 := h1.setN (ws' := ws ++ [W.mk b a true]) (d' := false) kc hL2
      have ho2 := kc _ _ ho1
      simp only [go_sem, r_block, ho2, hL2.cells, hL2.one, reduceIte, Nat.reduceEqDiff, Nat.reduceAdd, Nat.reduceMul, Nat.reduceSub, Nat.reduceLT, Nat.reduceLeDiff, Nat.le_refl, Nat.zero_le, Nat.zero_add, Nat.add_zero, Nat.mul_one, splice_zero, Int.toNat_natCast, Int.natCast_nonneg, Int.reduceLE, Int.reduceLT, Int.reduceToNat, Int.reduceEq, Int.cast_ofNat_Int, ne_eq, not_true_eq_false, not_false_eq_true, imp_self, implies_true, true_implies, false_implies, and_self]
      refine aRet_as (r := boo true) rfl ⟨rfl, ?_⟩
      unfold rst
      rw [hdf, if_pos hg]
      exact h2
    · have h2 := h1.setN (σ' := σ1) (ws' := ws) (d' := false || (S a).rest.1.2.2) (fun x cs hx => hx) hL1
      simp only [go_sem, r_block, ho1, reduceIte, Nat.reduceEqDiff, Nat.reduceAdd, Nat.reduceMul, Nat.reduceSub, Nat.reduceLT, Nat.reduceLeDiff, Nat.le_refl, Nat.zero_le, Nat.zero_add, Nat.add_zero, Nat.mul_one, splice_zero, Int.toNat_natCast, Int.natCast_nonneg, Int.reduceLE, Int.reduceLT, Int.reduceToNat, Int.reduceEq, Int.cast_ofNat_Int, ne_eq, not_true_eq_false, not_false_eq_true, imp_self, implies_true, true_implies, false_implies, and_self]
      generalize hdon : (S a).rest.1.2.2 = don at h2 hd
      cases don
      · simp only [go_sem, r_block, ho1, reduceIte, Nat.reduceEqDiff, Nat.reduceAdd, Nat.reduceMul, Nat.reduceSub, Nat.reduceLT, Nat.reduceLeDiff, Nat.le_refl, Nat.zero_le, Nat.zero_add, Nat.add_zero, Nat.mul_one, splice_zero, Int.toNat_natCast, Int.natCast_nonneg, Int.reduceLE, Int.reduceLT, Int.reduceToNat, Int.reduceEq, Int.cast_ofNat_Int, ne_eq, not_true_eq_false, not_false_eq_true, imp_self, implies_true, true_implies, false_implies, and_self]
        refine aRet_as (r := boo true) rfl ⟨rfl, ?_⟩
        unfold rst
        rw [hdon, if_neg (by simp [hg])]
        exact h2
      · obtain rfl := hd rfl
        simp only [go_sem, r_block, ho1, reduceIte, Nat.reduceEqDiff, Nat.reduceAdd, Nat.reduceMul, Nat.reduceSub, Nat.reduceLT, Nat.reduceLeDiff, Nat.le_refl, Nat.zero_le, Nat.zero_add, Nat.add_zero, Nat.mul_one, splice_zero, Int.toNat_natCast, Int.natCast_nonneg, Int.reduceLE, Int.reduceLT, Int.reduceToNat, Int.reduceEq, Int.cast_ofNat_Int, ne_eq, not_true_eq_false, not_false_eq_true, imp_self, implies_true, true_implies, false_implies, and_self]
        refine aRet_as (r := boo true) rfl ⟨rfl, ?_⟩
        unfold rst
        rw [hdon, if_neg (by simp [hg])]
        exact h2
  · refine aIf_bool (fun hg => ?_) (fun hg => ?_)
    · obtain ⟨hb4, hnm, hdf⟩ := hb hg
      rw [hnm, hdf]
      simp only [go_sem, r_block, reduceIte, Nat.reduceEqDiff, Nat.reduceAdd, Nat.reduceMul, Nat.reduceSub, Nat.reduceLT, Nat.reduceLeDiff, Nat.le_refl, Nat.zero_le, Nat.zero_add, Nat.add_zero, Nat.mul_one, splice_zero, Int.toNat_natCast, Int.natCast_nonneg, Int.reduceLE, Int.reduceLT, Int.reduceToNat, Int.reduceEq, Int.cast_ofNat_Int, ne_eq, not_true_eq_false, not_false_eq_true, imp_self, implies_true, true_implies, false_implies, and_self]
      refine (node_at hb4).mono ?_
      rintro _ σ1' ⟨rfl, rfl⟩
      simp only [go_sem, r_block, reduceIte, Nat.reduceEqDiff, Nat.reduceAdd, Nat.reduceMul, Nat.reduceSub, Nat.reduceLT, Nat.reduceLeDiff, Nat.le_refl, Nat.zero_le, Nat.zero_add, Nat.add_zero, Nat.mul_one, splice_zero, Int.toNat_natCast, Int.natCast_nonneg, Int.reduceLE, Int.reduceLT, Int.reduceToNat, Int.reduceEq, Int.cast_ofNat_Int, ne_eq, not_true_eq_false, not_false_eq_true, imp_self, implies_true, true_implies, false_implies, and_self]
      rw [show decide ((b : Int) < 0) = false by simp]
      simp only [go_sem, r_block, ho1, reduceIte, Nat.reduceEqDiff, Nat.reduceAdd, Nat.reduceMul, Nat.reduceSub, Nat.reduceLT, Nat.reduceLeDiff, Nat.le_refl, Nat.zero_le, Nat.zero_add, Nat.add_zero, Nat.mul_one, splice_zero, Int.toNat_natCast, Int.natCast_nonneg, Int.reduceLE, Int.reduceLT, Int.reduceToNat, Int.reduceEq, Int.cast_ofNat_Int, ne_eq, not_true_eq_false, not_false_eq_true, imp_self, implies_true, true_implies, false_implies, and_self]
      refine aApp_by (ys := [W.enc ⟨b, a, true⟩]) rfl (by omega) (by omega) rfl (hL1.app (by simp; omega) fun lv2 σ2 hL2 hk2 => ?_)
      have kc : ∀ x cs, σ1' x = some (.cells cs) → σ2 x = some (.cells cs) := fun x cs hx => (hk2 x _ hx (hL1.not_own hx)).1
      have hL2 : LAt 3 σ2 lv2 ((ws ++ [W.mk b a true]).map W.enc) := by simpa using hL2
      have h2 := h1.setN (ws' := ws ++ [W.mk b a true]) (d' := true) kc hL2
      have ho2 := kc _ _ ho1
      simp only [go_sem, r_block, ho2, hL2.cells, hL2.one, reduceIte, Nat.reduceEqDiff, Nat.reduceAdd, Nat.reduceMul, Nat.reduceSub, Nat.reduceLT, Nat.reduceLeDiff, Nat.le_refl, Nat.zero_le, Nat.zero_add, Nat.add_zero, Nat.mul_one, splice_zero, Int.toNat_natCast, Int.natCast_nonneg, Int.reduceLE, Int.reduceLT, Int.reduceToNat, Int.reduceEq, Int.cast_ofNat_Int, ne_eq, not_true_eq_false, not_false_eq_true, imp_self, implies_true, true_implies, false_implies, and_self]
      refine aRet_as (r := boo true) rfl ⟨rfl, ?_⟩
      unfold rst
      rw [hdf, if_pos hg]
      exact h2
    · have h2 := h1.setN (σ' := σ1) (ws' := ws) (d' := true || (S a).rest.1.2.2) (fun x cs hx => hx) hL1
      simp only [go_sem, r_block, ho1, reduceIte, Nat.reduceEqDiff, Nat.reduceAdd, Nat.reduceMul, Nat.reduceSub, Nat.reduceLT, Nat.reduceLeDiff, Nat.le_refl, Nat.zero_le, Nat.zero_add, Nat.add_zero, Nat.mul_one, splice_zero, Int.toNat_natCast, Int.natCast_nonneg, Int.reduceLE, Int.reduceLT, Int.reduceToNat, Int.reduceEq, Int.cast_ofNat_Int, ne_eq, not_true_eq_false, not_false_eq_true, imp_self, implies_true, true_implies, false_implies, and_self]
      generalize hdon : (S a).rest.1.2.2 = don at h2 hd
      cases don
      · simp only [go_sem, r_block, ho1, reduceIte, Nat.reduceEqDiff, Nat.reduceAdd, Nat.reduceMul, Nat.reduceSub, Nat.reduceLT, Nat.reduceLeDiff, Nat.le_refl, Nat.zero_le, Nat.zero_add, Nat.add_zero, Nat.mul_one, splice_zero, Int.toNat_natCast, Int.natCast_nonneg, Int.reduceLE, Int.reduceLT, Int.reduceToNat, Int.reduceEq, Int.cast_ofNat_Int, ne_eq, not_true_eq_false, not_false_eq_true, imp_self, implies_true, true_implies, false_implies, and_self]
        refine aRet_as (r := boo true) rfl ⟨rfl, ?_⟩
        unfold rst
        rw [hdon, if_neg (by simp [hg])]
        exact h2
      · obtain rfl := hd rfl
        simp only [go_sem, r_block, ho1, reduceIte, Nat.reduceEqDiff, Nat.reduceAdd, Nat.reduceMul, Nat.reduceSub, Nat.reduceLT, Nat.reduceLeDiff, Nat.le_refl, Nat.zero_le, Nat.zero_add, Nat.add_zero, Nat.mul_one, splice_zero, Int.toNat_natCast, Int.natCast_nonneg, Int.reduceLE, Int.reduceLT, Int.reduceToNat, Int.reduceEq, Int.cast_ofNat_Int, ne_eq, not_true_eq_false, not_false_eq_true, imp_self, implies_true, true_implies, false_implies, and_self]
        refine aRet_as (r := boo true) rfl ⟨rfl, ?_⟩
        unfold rst
        rw [hdon, if_neg (by simp [hg])]
        exact h2
end
end Go.Proofs.Ytbdojogkjfmofaa
