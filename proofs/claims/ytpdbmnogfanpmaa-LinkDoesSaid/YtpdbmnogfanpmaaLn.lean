/-
  The document's own end (avowalref23.Link): Tick.
  Conditions: none.
-/
import Derived.Test.YtpdbmnogfanpmaaLm
set_option linter.unusedVariables false
set_option linter.unusedSimpArgs false
namespace Go.Proofs.Ytpdbmnogfanpmaa
open Go Go.Av

def Rs.abs (R : Rs) : Ls := ⟨R.L.drop R.gone, R.gone, R.came, R.kept, R.owes⟩

section
variable {σ σ' : St} {r : Nat} {R R' R'' : Rs}
set_option maxRecDepth 100000
set_option maxHeartbeats 1000000

theorem rtick_at (h : RAt σ r R) (hl : R.L.length ≤ 1000000) (hg : R.gone ≤ R.L.length) : AT Try.prog 24 [ptr r] σ fun v σ' => v = .sl 40 (R.abs.tick.1.map Frm.cs) ∧ RAt σ' r { R with owes := false } ∧ Fro σ σ' r R { R with owes := false } := by
  refine AT.of_body Try.func24 rfl (by decide) (by kernel_rfl) (by kernel_rfl) (Nat.le_of_ble_eq_true rfl) ?_
  have h' := h.ob
  unfold rC at h'
  have hwl : R.abs.wait.length = R.L.length - R.gone := by simp [Rs.abs]
  have fin := h.set (R' := { R with owes := false }) rfl rfl rfl rfl
  simp only [go_sem, h', reduceIte, Nat.reduceEqDiff, Nat.reduceAdd, Nat.reduceMul, Nat.reduceSub, Nat.reduceLT, Nat.reduceLeDiff, Nat.le_refl, Nat.zero_le, Nat.zero_add, Nat.add_zero, Nat.mul_one, splice_zero, Int.toNat_natCast, Int.natCast_nonneg, Int.reduceLE, Int.reduceLT, Int.reduceToNat, Int.reduceEq, Int.cast_ofNat_Int, ne_eq, not_true_eq_false, not_false_eq_true, imp_self, implies_true, true_implies, false_implies, and_self, List.length_map, List.length_drop]
  refine aMeet (fun fr σ' => ∃ lv, fr 0 = ptr r ∧ fr 3 = lv ∧ LAt 40 σ' lv ((R.abs.frames 8).map Frm.cs) ∧ Grow σ σ' lv) ?_ ?_
  · simp only [go_sem, r_block, reduceIte, Nat.reduceEqDiff, Nat.reduceAdd, Nat.reduceMul, Nat.reduceSub, Nat.reduceLT, Nat.reduceLeDiff, Nat.le_refl, Nat.zero_le, Nat.zero_add, Nat.add_zero, Nat.mul_one, splice_zero, Int.toNat_natCast, Int.natCast_nonneg, Int.reduceLE, Int.reduceLT, Int.reduceToNat, Int.reduceEq, Int.cast_ofNat_Int, ne_eq, not_true_eq_false, not_false_eq_true, imp_self, implies_true, true_implies, false_implies, and_self, List.length_map, List.length_drop]
    refine ⟨fun k fr σ' => ∃ (j : Nat) (lv : AV), k = 8 - j ∧ j ≤ min R.abs.wait.length 8 ∧ fr 0 = ptr r ∧ fr 3 = lv ∧ fr 4 = int (R.gone + j : Nat) ∧ LAt 40 σ' lv ((R.abs.frames j).map Frm.cs) ∧ Grow σ σ' lv, ⟨8, 0, _, rfl, by omega, rfl, rfl, rfl, .none, .nil⟩, ?_⟩
    rintro k fr σ1 ⟨j, lv, rfl, hj, f0, f3, f4, hL, hG⟩
    have hb := hG.sub _ _ h'
    have h1 : RAt σ1 r R := h.keep fun x o hx _ => hG.sub _ _ hx
    have done : min R.abs.wait.length 8 ≤ j → R.abs.frames j = R.abs.frames 8 := fun e => by
      have e : j = min R.abs.wait.length 8 := by omega
      unfold Ls.frames
      rw [e, show R.abs.wait.take (min R.abs.wait.length 8) = R.abs.wait.take 8 by
        rcases Nat.le_total R.abs.wait.length 8 with h | h
        · rw [Nat.min_eq_left h, List.take_of_length_le (Nat.le_refl _), List.take_of_length_le h]
        · rw [Nat.min_eq_right h]]
    simp only [go_sem, f0, f3, f4, hb, h1.l.len, reduceIte, Nat.reduceEqDiff, Nat.reduceAdd, Nat.reduceMul, Nat.reduceSub, Nat.reduceLT, Nat.reduceLeDiff, Nat.le_refl, Nat.zero_le, Nat.zero_add, Nat.add_zero, Nat.mul_one, splice_zero, Int.toNat_natCast, Int.natCast_nonneg, Int.reduceLE, Int.reduceLT, Int.reduceToNat, Int.reduceEq, Int.cast_ofNat_Int, ne_eq, not_true_eq_false, not_false_eq_true, imp_self, implies_true, true_implies, false_implies, and_self, List.length_map, List.length_drop]
    refine aIf_by (fun k1 => ?_) (fun k1 => ?_)
    · simp only [go_sem, f0, f3, f4, hb, decide_eq_true k1, reduceIte, Nat.reduceEqDiff, Nat.reduceAdd, Nat.reduceMul, Nat.reduceSub, Nat.reduceLT, Nat.reduceLeDiff, Nat.le_refl, Nat.zero_le, Nat.zero_add, Nat.add_zero, Nat.mul_one, splice_zero, Int.toNat_natCast, Int.natCast_nonneg, Int.reduceLE, Int.reduceLT, Int.reduceToNat, Int.reduceEq, Int.cast_ofNat_Int, ne_eq, not_true_eq_false, not_false_eq_true, imp_self, implies_true, true_implies, false_implies, and_self, List.length_map, List.length_drop]
      rw [wrap64 (by omega)]
      refine aIf_by (fun k2 => ?_) (fun k2 => ?_)
      · have hjw : j < R.abs.wait.length := by omega
        have hjL : R.gone + j < R.L.length := by omega
        have ew : R.abs.wait[j] = R.L[R.gone + j] := by simp [Rs.abs]
        have eg : (R.L.map Itm.cs).getD ((R.gone + j : Nat) : Int).toNat [] = R.abs.wait[j].cs := by
          rw [ew, Int.toNat_natCast]; simp [List.getD_eq_getElem?_getD, hjL]
        simp only [go_sem, r_block, reduceIte, Nat.reduceEqDiff, Nat.reduceAdd, Nat.reduceMul, Nat.reduceSub, Nat.reduceLT, Nat.reduceLeDiff, Nat.le_refl, Nat.zero_le, Nat.zero_add, Nat.add_zero, Nat.mul_one, splice_zero, Int.toNat_natCast, Int.natCast_nonneg, Int.reduceLE, Int.reduceLT, Int.reduceToNat, Int.reduceEq, Int.cast_ofNat_Int, ne_eq, not_true_eq_false, not_false_eq_true, imp_self, implies_true, true_implies, false_implies, and_self, List.length_map, List.length_drop]
        refine aDraw_plan [.rd 0 false, .rd 1 false, .rd 2 false, .rd 3 false, .rd 4 false, .rd 5 false, .rd 6 true, .rd 7 false, .rd 8 false, .rd 9 false, .rd 10 true, .rd 11 false, .rd 12 false, .rd 13 true, .rd 14 false, .rd 15 false, .ef 16 [], .rd 17 false] (by kernel_rfl) (by kernel_rfl) (by kernel_rfl) ?_
        simp only [go_sem, r_block, f0, f3, f4, hb, reduceIte, Nat.reduceEqDiff, Nat.reduceAdd, Nat.reduceMul, Nat.reduceSub, Nat.reduceLT, Nat.reduceLeDiff, Nat.le_refl, Nat.zero_le, Nat.zero_add, Nat.add_zero, Nat.mul_one, splice_zero, Int.toNat_natCast, Int.natCast_nonneg, Int.reduceLE, Int.reduceLT, Int.reduceToNat, Int.reduceEq, Int.cast_ofNat_Int, ne_eq, not_true_eq_false, not_false_eq_true, imp_self, implies_true, true_implies, false_implies, and_self, List.length_map, List.length_drop]
        rw [next64 (by omega)]
        refine h1.l.iadr (by omega) (by simp; omega) fun p hp => ?_
        simp only [go_sem, r_block, f0, f3, f4, hb, reduceIte, Nat.reduceEqDiff, Nat.reduceAdd, Nat.reduceMul, Nat.reduceSub, Nat.reduceLT, Nat.reduceLeDiff, Nat.le_refl, Nat.zero_le, Nat.zero_add, Nat.add_zero, Nat.mul_one, splice_zero, Int.toNat_natCast, Int.natCast_nonneg, Int.reduceLE, Int.reduceLT, Int.reduceToNat, Int.reduceEq, Int.cast_ofNat_Int, ne_eq, not_true_eq_false, not_false_eq_true, imp_self, implies_true, true_implies, false_implies, and_self, List.length_map, List.length_drop]
        refine hp _ _ _ ⟨by rw [eg, Itm.len]; exact Nat.le_refl _, ?_⟩
        rw [eg, Itm.take]
        simp only [go_sem, r_block, f0, f3, f4, hb, Itm.len, Itm.one, zl2_len, zl2_drop, reduceIte, Nat.reduceEqDiff, Nat.reduceAdd, Nat.reduceMul, Nat.reduceSub, Nat.reduceLT, Nat.reduceLeDiff, Nat.le_refl, Nat.zero_le, Nat.zero_add, Nat.add_zero, Nat.mul_one, splice_zero, Int.toNat_natCast, Int.natCast_nonneg, Int.reduceLE, Int.reduceLT, Int.reduceToNat, Int.reduceEq, Int.cast_ofNat_Int, ne_eq, not_true_eq_false, not_false_eq_true, imp_self, implies_true, true_implies, false_implies, and_self, List.length_map, List.length_drop]
        refine aApp_by (ys := [Frm.cs ⟨R.abs.gone + j + 1, R.abs.came, R.abs.wait[j]⟩]) rfl (by decide) (by decide) zl2_one (hL.app (by simp [frames_len]; omega) fun lv' σ4 hL4 hs4 => ?_)
        have hG4 := hG.step hs4
        simp only [go_sem, r_block, f0, f3, f4, reduceIte, Nat.reduceEqDiff, Nat.reduceAdd, Nat.reduceMul, Nat.reduceSub, Nat.reduceLT, Nat.reduceLeDiff, Nat.le_refl, Nat.zero_le, Nat.zero_add, Nat.add_zero, Nat.mul_one, splice_zero, Int.toNat_natCast, Int.natCast_nonneg, Int.reduceLE, Int.reduceLT, Int.reduceToNat, Int.reduceEq, Int.cast_ofNat_Int, ne_eq, not_true_eq_false, not_false_eq_true, imp_self, implies_true, true_implies, false_implies, and_self, List.length_map, List.length_drop]
        rw [next64 (by omega)]
        exact ⟨8 - (j + 1), by omega, j + 1, lv', rfl, by omega, rfl, rfl, by rw [frames_succ hjw, List.map_append]; exact hL4, hG4⟩
      · simp only [go_sem, reduceIte, Nat.reduceEqDiff, Nat.reduceAdd, Nat.reduceMul, Nat.reduceSub, Nat.reduceLT, Nat.reduceLeDiff, Nat.le_refl, Nat.zero_le, Nat.zero_add, Nat.add_zero, Nat.mul_one, splice_zero, Int.toNat_natCast, Int.natCast_nonneg, Int.reduceLE, Int.reduceLT, Int.reduceToNat, Int.reduceEq, Int.cast_ofNat_Int, ne_eq, not_true_eq_false, not_false_eq_true, imp_self, implies_true, true_implies, false_implies, and_self, List.length_map, List.length_drop]
        exact ⟨lv, f0, f3, by rw [← done (by omega)]; exact hL, hG⟩
    · simp only [go_sem, f0, f3, f4, hb, decide_eq_false k1, reduceIte, Nat.reduceEqDiff, Nat.reduceAdd, Nat.reduceMul, Nat.reduceSub, Nat.reduceLT, Nat.reduceLeDiff, Nat.le_refl, Nat.zero_le, Nat.zero_add, Nat.add_zero, Nat.mul_one, splice_zero, Int.toNat_natCast, Int.natCast_nonneg, Int.reduceLE, Int.reduceLT, Int.reduceToNat, Int.reduceEq, Int.cast_ofNat_Int, ne_eq, not_true_eq_false, not_false_eq_true, imp_self, implies_true, true_implies, false_implies, and_self, List.length_map, List.length_drop]
      exact ⟨lv, rfl, by rw [← done (by omega)]; exact hL, hG⟩
  rintro fr σ1 ⟨lv, f0, f3, hL, hG⟩
  have hb := hG.sub _ _ h'
  have hnb : ∀ x, Own lv x → x ≠ r := fun x hx e => by subst e; exact hL.not_own hb hx
  simp only [go_sem, f0, f3, reduceIte, Nat.reduceEqDiff, Nat.reduceAdd, Nat.reduceMul, Nat.reduceSub, Nat.reduceLT, Nat.reduceLeDiff, Nat.le_refl, Nat.zero_le, Nat.zero_add, Nat.add_zero, Nat.mul_one, splice_zero, Int.toNat_natCast, Int.natCast_nonneg, Int.reduceLE, Int.reduceLT, Int.reduceToNat, Int.reduceEq, Int.cast_ofNat_Int, ne_eq, not_true_eq_false, not_false_eq_true, imp_self, implies_true, true_implies, false_implies, and_self, List.length_map, List.length_drop]
  rw [hL.len]
  simp only [go_sem, f0, f3, hb, reduceIte, Nat.reduceEqDiff, Nat.reduceAdd, Nat.reduceMul, Nat.reduceSub, Nat.reduceLT, Nat.reduceLeDiff, Nat.le_refl, Nat.zero_le, Nat.zero_add, Nat.add_zero, Nat.mul_one, splice_zero, Int.toNat_natCast, Int.natCast_nonneg, Int.reduceLE, Int.reduceLT, Int.reduceToNat, Int.reduceEq, Int.cast_ofNat_Int, ne_eq, not_true_eq_false, not_false_eq_true, imp_self, implies_true, true_implies, false_implies, and_self, List.length_map, List.length_drop]
  have he : R.abs.wait = [] ↔ R.abs.frames 8 = [] := by
    constructor
    · intro e; unfold Ls.frames; rw [e]; simp
    · intro e
      have := congrArg List.length e
      rw [frames_len] at this
      exact List.eq_nil_of_length_eq_zero (by simp at this; simpa using this)
  have hout : ∀ (σ2 : St) (lv2 : AV) (b : Bool), σ2 r = some (.cells [R.lv, int R.gone, int R.came, R.kv, boo R.owes]) → (∀ x o, σ x = some o → σ2 x = some o) → SV (σ2.set r (.cells (rC { R with owes := false }))) (σ.set r (.cells (rC { R with owes := false }))) := fun σ2 lv2 b h2 hs =>
    sv_set set_same (vws_refl _) fun x p hx hp => by rw [set_ne hx]; exact hs _ _ hp
  refine aIf_by (fun h0 => ?_) (fun h0 => ?_)
  · have hz : R.abs.frames 8 = [] := List.eq_nil_of_length_eq_zero (by simpa using h0)
    have hw := he.2 hz
    simp only [go_sem, f0, f3, hb, decide_eq_true h0, reduceIte, Nat.reduceEqDiff, Nat.reduceAdd, Nat.reduceMul, Nat.reduceSub, Nat.reduceLT, Nat.reduceLeDiff, Nat.le_refl, Nat.zero_le, Nat.zero_add, Nat.add_zero, Nat.mul_one, splice_zero, Int.toNat_natCast, Int.natCast_nonneg, Int.reduceLE, Int.reduceLT, Int.reduceToNat, Int.reduceEq, Int.cast_ofNat_Int, ne_eq, not_true_eq_false, not_false_eq_true, imp_self, implies_true, true_implies, false_implies, and_self, List.length_map, List.length_drop]
    refine aIf_bool (fun ho => ?_) (fun ho => ?_)
    · simp only [go_sem, f0, f3, hb, reduceIte, Nat.reduceEqDiff, Nat.reduceAdd, Nat.reduceMul, Nat.reduceSub, Nat.reduceLT, Nat.reduceLeDiff, Nat.le_refl, Nat.zero_le, Nat.zero_add, Nat.add_zero, Nat.mul_one, splice_zero, Int.toNat_natCast, Int.natCast_nonneg, Int.reduceLE, Int.reduceLT, Int.reduceToNat, Int.reduceEq, Int.cast_ofNat_Int, ne_eq, not_true_eq_false, not_false_eq_true, imp_self, implies_true, true_implies, false_implies, and_self, List.length_map, List.length_drop]
      have hz0 : splice (zl2.map AV.v) 1 [int R.came] = int 0 :: int R.came :: int 0 :: int 0 :: str nost :: str nost :: str nost :: .v (.slice none 0 0) :: u8s (List.replicate 32 0) := rfl
      have hz1 := u8s_one (List.replicate 32 0)
      rw [hz0]
      refine ⟨rfl, by simp only [List.all_cons, hz1]; rfl, aApp_by (ys := [_]) rfl (by decide) (by decide) zl2_one (hL.app (by simp [hz]) fun lv' σ4 hL4 hs4 => ?_)⟩
      have hG4 := hG.step hs4
      have hb4 := hG4.sub _ _ h'
      simp only [go_sem, f0, f3, hb4, reduceIte, Nat.reduceEqDiff, Nat.reduceAdd, Nat.reduceMul, Nat.reduceSub, Nat.reduceLT, Nat.reduceLeDiff, Nat.le_refl, Nat.zero_le, Nat.zero_add, Nat.add_zero, Nat.mul_one, splice_zero, Int.toNat_natCast, Int.natCast_nonneg, Int.reduceLE, Int.reduceLT, Int.reduceToNat, Int.reduceEq, Int.cast_ofNat_Int, ne_eq, not_true_eq_false, not_false_eq_true, imp_self, implies_true, true_implies, false_implies, and_self, List.length_map, List.length_drop]
      have hnb4 : ∀ x, Own lv' x → x ≠ r := fun x hx e => by subst e; exact hL4.not_own hb4 hx
      have ht : R.abs.tick = ([⟨0, R.came, itm0⟩], { R.abs with owes := false }) := by unfold Ls.tick; rw [if_pos hw]; unfold Rs.abs; rw [ho]; rfl
      refine aRet_view (r := lv') rfl _ (σ.set r (.cells (rC { R with owes := false }))) (view_of (a' := .sl 40 (R.abs.tick.1.map Frm.cs)) (hout σ4 lv' true hb4 hG4.sub) ?_) ⟨rfl, fin⟩
      rw [ht]
      rw [hz] at hL4
      refine (hL4.keep fun x o hx ho => by rw [set_ne (hnb4 x ho)]; exact hx).vw (fun x hx => by rw [set_ne (hnb4 x hx)]; exact hG4.own hx) rfl fun i hi => ?_
      obtain rfl : i = 0 := by simp at hi; omega
      exact vws_same (vws_same (vws_same (vws_same (vws_same (vws_same (vws_same (vws_cons (.nil 3) (vws_refl (u8s (List.replicate 32 0))))))))))
    · simp only [go_sem, f0, f3, hb, reduceIte, Nat.reduceEqDiff, Nat.reduceAdd, Nat.reduceMul, Nat.reduceSub, Nat.reduceLT, Nat.reduceLeDiff, Nat.le_refl, Nat.zero_le, Nat.zero_add, Nat.add_zero, Nat.mul_one, splice_zero, Int.toNat_natCast, Int.natCast_nonneg, Int.reduceLE, Int.reduceLT, Int.reduceToNat, Int.reduceEq, Int.cast_ofNat_Int, ne_eq, not_true_eq_false, not_false_eq_true, imp_self, implies_true, true_implies, false_implies, and_self, List.length_map, List.length_drop]
      have ht : R.abs.tick = (R.abs.frames 8, { R.abs with owes := false }) := by unfold Ls.tick; rw [if_pos hw, hz]; unfold Rs.abs; rw [ho]; rfl
      refine aRet_view (r := lv) rfl _ (σ.set r (.cells (rC { R with owes := false }))) (view_of (a' := .sl 40 (R.abs.tick.1.map Frm.cs)) (hout σ1 lv true hb hG.sub) ?_) ⟨rfl, fin⟩
      rw [ht]
      exact (hL.keep fun x o hx ho => by rw [set_ne (hnb x ho)]; exact hx).vw_same fun x hx => by rw [set_ne (hnb x hx)]; exact hG.own hx
  · simp only [go_sem, f0, f3, hb, decide_eq_false h0, reduceIte, Nat.reduceEqDiff, Nat.reduceAdd, Nat.reduceMul, Nat.reduceSub, Nat.reduceLT, Nat.reduceLeDiff, Nat.le_refl, Nat.zero_le, Nat.zero_add, Nat.add_zero, Nat.mul_one, splice_zero, Int.toNat_natCast, Int.natCast_nonneg, Int.reduceLE, Int.reduceLT, Int.reduceToNat, Int.reduceEq, Int.cast_ofNat_Int, ne_eq, not_true_eq_false, not_false_eq_true, imp_self, implies_true, true_implies, false_implies, and_self, List.length_map, List.length_drop]
    have ht : R.abs.tick = (R.abs.frames 8, { R.abs with owes := false }) := by
      have hw : R.abs.wait ≠ [] := fun e => h0 (by rw [he.1 e]; rfl)
      unfold Ls.tick; rw [if_neg hw]
    refine aRet_view (r := lv) rfl _ (σ.set r (.cells (rC { R with owes := false }))) (view_of (a' := .sl 40 (R.abs.tick.1.map Frm.cs)) (hout σ1 lv true hb hG.sub) ?_) ⟨rfl, fin⟩
    rw [ht]
    exact (hL.keep fun x o hx ho => by rw [set_ne (hnb x ho)]; exact hx).vw_same fun x hx => by rw [set_ne (hnb x hx)]; exact hG.own hx
end
end Go.Proofs.Ytpdbmnogfanpmaa
