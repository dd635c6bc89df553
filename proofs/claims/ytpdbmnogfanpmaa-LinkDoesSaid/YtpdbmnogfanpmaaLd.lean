/-
  What one end (package link) computes: Clone; one that no call made; the small run that each law ends with.
  Conditions: none.
-/
import Derived.Test.YtpdbmnogfanpmaaLc
set_option linter.unusedVariables false
set_option linter.unusedSimpArgs false
namespace Go.Proofs.Ytpdbmnogfanpmaa
open Go Go.Av

section
variable {σ : St} {b m : Nat} {s : Ls}
set_option maxRecDepth 100000

theorem clone_at (h : LAt' σ b m s) : AT Try.prog 27 [ptr b] σ fun r σ' => ∃ b' m', σ b' = none ∧ σ m' = none ∧ b' ≠ m' ∧ r = ptr b' ∧ σ' = (σ.set m' (.map (erC s.early))).set b' (lO s m') := by
  refine AT.of_body Try.func27 rfl (by decide) (by kernel_rfl) (by kernel_rfl) (Nat.le_of_ble_eq_true rfl) ?_
  simp only [go_sem, r_block, reduceIte, Nat.reduceEqDiff, Nat.reduceAdd, Nat.reduceMul, Nat.reduceSub, Nat.reduceLT, Nat.reduceLeDiff, Nat.le_refl, Nat.zero_le, Nat.zero_add, Nat.add_zero, Nat.mul_one, splice_zero, Int.toNat_natCast, Int.natCast_nonneg, Int.reduceLE, Int.reduceLT, Int.reduceToNat, Int.reduceEq, Int.cast_ofNat_Int, ne_eq, not_true_eq_false, not_false_eq_true, imp_self, implies_true, true_implies, false_implies, and_self, List.length_map, List.length_drop]
  refine (none_at h.ob).mono ?_
  rintro _ σ ⟨rfl, rfl⟩
  have h1 := h.ob
  unfold lO at h1
  simp only [go_sem, r_block, h1, reduceIte, Nat.reduceEqDiff, Nat.reduceAdd, Nat.reduceMul, Nat.reduceSub, Nat.reduceLT, Nat.reduceLeDiff, Nat.le_refl, Nat.zero_le, Nat.zero_add, Nat.add_zero, Nat.mul_one, splice_zero, Int.toNat_natCast, Int.natCast_nonneg, Int.reduceLE, Int.reduceLT, Int.reduceToNat, Int.reduceEq, Int.cast_ofNat_Int, ne_eq, not_true_eq_false, not_false_eq_true, imp_self, implies_true, true_implies, false_implies, and_self, List.length_map, List.length_drop]
  refine aNew_intro fun b' hb' hbc => ?_
  have hbb : b ≠ b' := hbc _ _ h.ob
  have hmb : m ≠ b' := hbc _ _ h.er
  simp only [go_sem, r_block, h1, set_same, set_ne hbb, reduceIte, Nat.reduceEqDiff, Nat.reduceAdd, Nat.reduceMul, Nat.reduceSub, Nat.reduceLT, Nat.reduceLeDiff, Nat.le_refl, Nat.zero_le, Nat.zero_add, Nat.add_zero, Nat.mul_one, splice_zero, Int.toNat_natCast, Int.natCast_nonneg, Int.reduceLE, Int.reduceLT, Int.reduceToNat, Int.reduceEq, Int.cast_ofNat_Int, ne_eq, not_true_eq_false, not_false_eq_true, imp_self, implies_true, true_implies, false_implies, and_self, List.length_map, List.length_drop]
  refine (mclone_at (by rw [set_ne hmb]; exact h.er)).mono ?_
  rintro _ _ ⟨m', hm', rfl, rfl⟩
  have hne : b' ≠ m' := fun e => by subst e; rw [set_same] at hm'; cases hm'
  have hm0 : σ m' = none := by rw [set_ne hne.symm] at hm'; exact hm'
  simp only [go_sem, r_block, h1, set_same, set_ne hbb, set_ne hne, reduceIte, Nat.reduceEqDiff, Nat.reduceAdd, Nat.reduceMul, Nat.reduceSub, Nat.reduceLT, Nat.reduceLeDiff, Nat.le_refl, Nat.zero_le, Nat.zero_add, Nat.add_zero, Nat.mul_one, splice_zero, Int.toNat_natCast, Int.natCast_nonneg, Int.reduceLE, Int.reduceLT, Int.reduceToNat, Int.reduceEq, Int.cast_ofNat_Int, ne_eq, not_true_eq_false, not_false_eq_true, imp_self, implies_true, true_implies, false_implies, and_self, List.length_map, List.length_drop]
  refine aRet_view (r := ptr b') rfl _ ((σ.set m' (.map (erC s.early))).set b' (lO s m')) (view_drop fun x p hx => ?_) ⟨b', m', hb', hm0, hne, rfl, rfl⟩
  by_cases h1 : x = b'
  · subst h1; rw [set_same] at hx ⊢; exact hx
  · rw [set_ne h1] at hx ⊢
    by_cases h2 : x = m'
    · subst h2; rw [set_same] at hx ⊢; exact hx
    · rw [set_ne h2] at hx ⊢
      rw [set_ne h1]
      exact hx

/-! ### Two ends -/
structure Two (σ : St) (b m : Nat) (s : Ls) (b2 m2 : Nat) (s2 : Ls) : Prop where
  a : LAt' σ b m s
  c : LAt' σ b2 m2 s2
  nb : b ≠ b2
  nm : m ≠ m2
theorem LAt'.ne {b2 m2 : Nat} {s2 : Ls} (h : LAt' σ b m s) (h2 : LAt' σ b2 m2 s2) : b ≠ m2 := fun e => by
  have := h.ob
  rw [e, h2.er] at this
  cases this
theorem LAt'.set (h : LAt' σ b m s) {s' : Ls} (he : s'.early = s.early) : LAt' (σ.set b (lO s' m)) b m s' :=
  ⟨set_same, by rw [set_ne (h.ne h).symm, he]; exact h.er⟩
theorem LAt'.set2 (h : LAt' σ b m s) {s' : Ls} : LAt' ((σ.set b (lO s' m)).set m (.map (erC s'.early))) b m s' :=
  ⟨by rw [set_ne (h.ne h), set_same], set_same⟩
theorem LAt'.keep {σ' : St} (h : LAt' σ b m s) (hk : ∀ x p, σ x = some p → x = b ∨ x = m → σ' x = some p) : LAt' σ' b m s := ⟨hk _ _ h.ob (.inl rfl), hk _ _ h.er (.inr rfl)⟩
theorem Two.set1 {b2 m2 : Nat} {s2 : Ls} (h : Two σ b m s b2 m2 s2) {s' : Ls} (he : s'.early = s.early) : Two (σ.set b (lO s' m)) b m s' b2 m2 s2 :=
  ⟨h.a.set he, h.c.keep fun x p hx hq => by
    rw [set_ne]
    · exact hx
    · rintro rfl
      rcases hq with e | e
      · exact h.nb e
      · exact h.a.ne h.c e, h.nb, h.nm⟩
theorem Two.set2 {b2 m2 : Nat} {s2 : Ls} (h : Two σ b m s b2 m2 s2) {s' : Ls} : Two ((σ.set b (lO s' m)).set m (.map (erC s'.early))) b m s' b2 m2 s2 :=
  ⟨h.a.set2, h.c.keep fun x p hx hq => by
    rw [set_ne, set_ne]
    · exact hx
    · rintro rfl
      rcases hq with e | e
      · exact h.nb e
      · exact h.a.ne h.c e
    · rintro rfl
      rcases hq with e | e
      · exact h.c.ne h.a e.symm
      · exact h.nm e, h.nb, h.nm⟩
theorem Two.swap {b2 m2 : Nat} {s2 : Ls} (h : Two σ b m s b2 m2 s2) : Two σ b2 m2 s2 b m s := ⟨h.c, h.a, h.nb.symm, h.nm.symm⟩

def ls0 : Ls := ⟨[], 0, 0, [], false⟩
def itm (n : Int) : Itm := ⟨4, n, nost, nost, nost, [], List.replicate 32 0, rfl⟩

theorem itm_ep (n : Int) : (itm n).ep = n := rfl
theorem itm_kind (n : Int) : (itm n).kind = 4 := rfl

theorem two_new {x y : Nat} {σ : St} (hb : σ b = none) (hm : σ m = none) (hn : b ≠ m) (hx : ((σ.set m (.map [])).set b (lO ls0 m)) x = none) (hy : ((σ.set m (.map [])).set b (lO ls0 m)) y = none) (hxy : x ≠ y) :
    Two ((((σ.set m (.map [])).set b (lO ls0 m)).set y (.map [])).set x (lO ls0 y)) b m ls0 x y ls0 := by
  have x1 : x ≠ b := fun e => by subst e; rw [set_same] at hx; cases hx
  have y1 : y ≠ b := fun e => by subst e; rw [set_same] at hy; cases hy
  have x2 : x ≠ m := fun e => by subst e; rw [set_ne hn.symm, set_same] at hx; cases hx
  have y2 : y ≠ m := fun e => by subst e; rw [set_ne hn.symm, set_same] at hy; cases hy
  exact ⟨⟨by rw [set_ne x1.symm, set_ne y1.symm, set_same], by rw [set_ne x2.symm, set_ne y2.symm, set_ne hn.symm, set_same]; rfl⟩, ⟨set_same, by rw [set_ne hxy.symm, set_same]; rfl⟩, x1.symm, y2.symm⟩

/-- A frame that says no more than what came. -/
theorem zframe (a : Int) : VWs σ σ [ptr b, .agg (splice (zl2.map .v) 1 [int a])] [ptr b, .agg (Frm.cs ⟨0, a, itm0⟩)] :=
  vws_same (vws_cons (.agg _ _ rfl (vws_same (a := int 0) (vws_same (a := int a) (vws_same (a := int 0) (vws_same (a := int 0) (vws_same (a := str nost) (vws_same (a := str nost) (vws_same (a := str nost) (vws_cons (.nil 3) (vws_refl (u8s (List.replicate 32 0))))))))))).2) vws_nil)

theorem live_at : AT Try.prog 15 [] σ fun r σ' => r = boo true ∧ σ' = σ := by
  refine AT.of_body Try.func15 rfl (by decide) (by kernel_rfl) (by kernel_rfl) (Nat.le_of_ble_eq_true rfl) ?_
  simp only [go_sem, r_block, reduceIte, Nat.reduceEqDiff, Nat.reduceAdd, Nat.reduceMul, Nat.reduceSub, Nat.reduceLT, Nat.reduceLeDiff, Nat.le_refl, Nat.zero_le, Nat.zero_add, Nat.add_zero, Nat.mul_one, splice_zero, Int.toNat_natCast, Int.natCast_nonneg, Int.reduceLE, Int.reduceLT, Int.reduceToNat, Int.reduceEq, Int.cast_ofNat_Int, ne_eq, not_true_eq_false, not_false_eq_true, imp_self, implies_true, true_implies, false_implies, and_self, List.length_map, List.length_drop]
  refine new_at.mono ?_
  rintro _ _ ⟨b, m, hb, hm, hn, rfl, rfl⟩
  simp only [go_sem, r_block, reduceIte, Nat.reduceEqDiff, Nat.reduceAdd, Nat.reduceMul, Nat.reduceSub, Nat.reduceLT, Nat.reduceLeDiff, Nat.le_refl, Nat.zero_le, Nat.zero_add, Nat.add_zero, Nat.mul_one, splice_zero, Int.toNat_natCast, Int.natCast_nonneg, Int.reduceLE, Int.reduceLT, Int.reduceToNat, Int.reduceEq, Int.cast_ofNat_Int, ne_eq, not_true_eq_false, not_false_eq_true, imp_self, implies_true, true_implies, false_implies, and_self, List.length_map, List.length_drop]
  refine new_at.mono ?_
  rintro _ σ1 ⟨x, y, hx, hy, hxy, rfl, hs⟩
  have s0 : ∀ z p, σ z = some p → ((σ.set m (.map [])).set b (lO ls0 m)) z = some p := set_sub hb (set_sub hm fun _ _ h => h)
  have hx0 : σ x = none := none_of_sub s0 hx
  have sub1 : ∀ z p, σ z = some p → σ1 z = some p := by
    rw [hs]
    exact set_sub hx0 (set_sub (none_of_sub s0 hy) s0)
  have h0 : Two σ1 b m ls0 x y ls0 := by rw [hs]; exact two_new hb hm hn hx hy hxy
  have hy0 : σ y = none := none_of_sub s0 hy
  clear hs hx hy s0
  simp only [go_sem, r_block, reduceIte, Nat.reduceEqDiff, Nat.reduceAdd, Nat.reduceMul, Nat.reduceSub, Nat.reduceLT, Nat.reduceLeDiff, Nat.le_refl, Nat.zero_le, Nat.zero_add, Nat.add_zero, Nat.mul_one, splice_zero, Int.toNat_natCast, Int.natCast_nonneg, Int.reduceLE, Int.reduceLT, Int.reduceToNat, Int.reduceEq, Int.cast_ofNat_Int, ne_eq, not_true_eq_false, not_false_eq_true, imp_self, implies_true, true_implies, false_implies, and_self, List.length_map, List.length_drop]
  refine (item_at 5).mono ?_
  rintro _ _ ⟨rfl, rfl⟩
  simp only [go_sem, r_block, reduceIte, Nat.reduceEqDiff, Nat.reduceAdd, Nat.reduceMul, Nat.reduceSub, Nat.reduceLT, Nat.reduceLeDiff, Nat.le_refl, Nat.zero_le, Nat.zero_add, Nat.add_zero, Nat.mul_one, splice_zero, Int.toNat_natCast, Int.natCast_nonneg, Int.reduceLE, Int.reduceLT, Int.reduceToNat, Int.reduceEq, Int.cast_ofNat_Int, ne_eq, not_true_eq_false, not_false_eq_true, imp_self, implies_true, true_implies, false_implies, and_self, List.length_map, List.length_drop]
  refine (push_at h0.a.ob (itm 5) (by decide) (by decide)).mono ?_
  rintro _ σ2 ⟨rfl, hs⟩
  have h2 : Two σ2 b m ⟨[itm 5], 0, 0, [], false⟩ x y ls0 := by rw [hs]; exact h0.set1 (s' := ⟨[itm 5], 0, 0, [], false⟩) rfl
  have sub2 : ∀ z p, σ z = some p → σ2 z = some p := by rw [hs]; exact set_sub hb sub1
  clear hs h0 sub1
  rw [show (ls0.push (itm 5)).1 = 0 from rfl]
  simp only [go_sem, r_block, reduceIte, Nat.reduceEqDiff, Nat.reduceAdd, Nat.reduceMul, Nat.reduceSub, Nat.reduceLT, Nat.reduceLeDiff, Nat.le_refl, Nat.zero_le, Nat.zero_add, Nat.add_zero, Nat.mul_one, splice_zero, Int.toNat_natCast, Int.natCast_nonneg, Int.reduceLE, Int.reduceLT, Int.reduceToNat, Int.reduceEq, Int.cast_ofNat_Int, ne_eq, not_true_eq_false, not_false_eq_true, imp_self, implies_true, true_implies, false_implies, and_self, List.length_map, List.length_drop]
  refine (tick_at h2.a.ob (by simp [itm]) (by decide) (by decide)).mono ?_
  rintro _ σ3 ⟨rfl, hs⟩
  have h3 : Two σ3 b m ⟨[itm 5], 0, 0, [], false⟩ x y ls0 := by rw [hs]; exact h2.set1 (s' := ⟨[itm 5], 0, 0, [], false⟩) rfl
  have sub3 : ∀ z p, σ z = some p → σ3 z = some p := by rw [hs]; exact set_sub hb sub2
  clear hs h2 sub2
  rw [show (Ls.tick ⟨[itm 5], 0, 0, [], false⟩).1 = [⟨1, 0, itm 5⟩] from rfl]
  simp only [go_sem, r_block, Frm.len, Frm.at0, Frm.take, reduceIte, Nat.reduceEqDiff, Nat.reduceAdd, Nat.reduceMul, Nat.reduceSub, Nat.reduceLT, Nat.reduceLeDiff, Nat.le_refl, Nat.zero_le, Nat.zero_add, Nat.add_zero, Nat.mul_one, splice_zero, Int.toNat_natCast, Int.natCast_nonneg, Int.reduceLE, Int.reduceLT, Int.reduceToNat, Int.reduceEq, Int.cast_ofNat_Int, ne_eq, not_true_eq_false, not_false_eq_true, imp_self, implies_true, true_implies, false_implies, and_self, List.length_map, List.length_drop]
  refine (hear_at h3.c ⟨1, 0, itm 5⟩ (by decide) (by decide) (by decide) (by decide) (by decide) (by decide)).mono ?_
  rintro _ σ4 ⟨rfl, hs⟩
  have e4 : Ls.hear ls0 ⟨1, 0, itm 5⟩ = (([itm 5], 0), ⟨[], 0, 1, [], true⟩) := rfl
  rw [e4] at hs ⊢
  have h4 : Two σ4 b m ⟨[itm 5], 0, 0, [], false⟩ x y ⟨[], 0, 1, [], true⟩ := by rw [hs]; exact h3.swap.set2.swap
  have sub4 : ∀ z p, σ z = some p → σ4 z = some p := by rw [hs]; exact set_sub hy0 (set_sub hx0 sub3)
  clear hs h3 sub3
  simp only [go_sem, r_block, reduceIte, Nat.reduceEqDiff, Nat.reduceAdd, Nat.reduceMul, Nat.reduceSub, Nat.reduceLT, Nat.reduceLeDiff, Nat.le_refl, Nat.zero_le, Nat.zero_add, Nat.add_zero, Nat.mul_one, splice_zero, Int.toNat_natCast, Int.natCast_nonneg, Int.reduceLE, Int.reduceLT, Int.reduceToNat, Int.reduceEq, Int.cast_ofNat_Int, ne_eq, not_true_eq_false, not_false_eq_true, imp_self, implies_true, true_implies, false_implies, and_self, List.length_map, List.length_drop]
  refine (tick_at h4.c.ob (by simp) (by decide) (by decide)).mono ?_
  rintro _ σ5 ⟨rfl, hs⟩
  have h5 : Two σ5 b m ⟨[itm 5], 0, 0, [], false⟩ x y ⟨[], 0, 1, [], false⟩ := by rw [hs]; exact (h4.swap.set1 (s' := ⟨[], 0, 1, [], false⟩) rfl).swap
  have sub5 : ∀ z p, σ z = some p → σ5 z = some p := by rw [hs]; exact set_sub hx0 sub4
  clear hs h4 sub4
  rw [show (Ls.tick ⟨[], 0, 1, [], true⟩).1 = [⟨0, 1, itm0⟩] from rfl]
  simp only [go_sem, r_block, Frm.len, Frm.at0, Frm.at1, Frm.dr1, Frm.take, Itm.len, Itm.at1, Itm.dr1, itm_ep, reduceIte, Nat.reduceEqDiff, Nat.reduceAdd, Nat.reduceMul, Nat.reduceSub, Nat.reduceLT, Nat.reduceLeDiff, Nat.le_refl, Nat.zero_le, Nat.zero_add, Nat.add_zero, Nat.mul_one, splice_zero, Int.toNat_natCast, Int.natCast_nonneg, Int.reduceLE, Int.reduceLT, Int.reduceToNat, Int.reduceEq, Int.cast_ofNat_Int, ne_eq, not_true_eq_false, not_false_eq_true, imp_self, implies_true, true_implies, false_implies, and_self, List.length_map, List.length_drop]
  refine (hear_at h5.a ⟨0, 1, itm0⟩ (by decide) (by decide) (by decide) (by decide) (by decide) (by decide)).mono ?_
  rintro _ σ6 ⟨rfl, hs⟩
  have e6 : Ls.hear ⟨[itm 5], 0, 0, [], false⟩ ⟨0, 1, itm0⟩ = (([], 0), ⟨[], 1, 0, [], false⟩) := rfl
  rw [e6] at hs ⊢
  have h6 : Two σ6 b m ⟨[], 1, 0, [], false⟩ x y ⟨[], 0, 1, [], false⟩ := by rw [hs]; exact h5.set2
  have sub6 : ∀ z p, σ z = some p → σ6 z = some p := by rw [hs]; exact set_sub hm (set_sub hb sub5)
  clear hs h5 sub5
  simp only [go_sem, r_block, reduceIte, Nat.reduceEqDiff, Nat.reduceAdd, Nat.reduceMul, Nat.reduceSub, Nat.reduceLT, Nat.reduceLeDiff, Nat.le_refl, Nat.zero_le, Nat.zero_add, Nat.add_zero, Nat.mul_one, splice_zero, Int.toNat_natCast, Int.natCast_nonneg, Int.reduceLE, Int.reduceLT, Int.reduceToNat, Int.reduceEq, Int.cast_ofNat_Int, ne_eq, not_true_eq_false, not_false_eq_true, imp_self, implies_true, true_implies, false_implies, and_self, List.length_map, List.length_drop]
  refine (waiting_at h6.a.ob).mono ?_
  rintro _ σ7 ⟨rfl, rfl⟩
  simp only [go_sem, r_block, reduceIte, Nat.reduceEqDiff, Nat.reduceAdd, Nat.reduceMul, Nat.reduceSub, Nat.reduceLT, Nat.reduceLeDiff, Nat.le_refl, Nat.zero_le, Nat.zero_add, Nat.add_zero, Nat.mul_one, splice_zero, Int.toNat_natCast, Int.natCast_nonneg, Int.reduceLE, Int.reduceLT, Int.reduceToNat, Int.reduceEq, Int.cast_ofNat_Int, ne_eq, not_true_eq_false, not_false_eq_true, imp_self, implies_true, true_implies, false_implies, and_self, List.length_map, List.length_drop]
  refine (pushed_at h6.a.ob).mono ?_
  rintro _ σ7 ⟨rfl, rfl⟩
  simp only [go_sem, r_block, reduceIte, Nat.reduceEqDiff, Nat.reduceAdd, Nat.reduceMul, Nat.reduceSub, Nat.reduceLT, Nat.reduceLeDiff, Nat.le_refl, Nat.zero_le, Nat.zero_add, Nat.add_zero, Nat.mul_one, splice_zero, Int.toNat_natCast, Int.natCast_nonneg, Int.reduceLE, Int.reduceLT, Int.reduceToNat, Int.reduceEq, Int.cast_ofNat_Int, ne_eq, not_true_eq_false, not_false_eq_true, imp_self, implies_true, true_implies, false_implies, and_self, List.length_map, List.length_drop]
  exact aRet_view (r := boo true) rfl _ σ (view_drop sub6) ⟨rfl, rfl⟩
end
end Go.Proofs.Ytpdbmnogfanpmaa
