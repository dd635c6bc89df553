/-
  Two ends and what is on its way between them: the walks.
  Conditions: none.
-/
import Derived.Test.YtpdbmnogfanpmaaLg
set_option linter.unusedVariables false
set_option linter.unusedSimpArgs false
namespace Go.Proofs.Ytpdbmnogfanpmaa
open Go Go.Av

/-- An end's numbers are within bounds. -/
structure Ls.Fit (s : Ls) : Prop where
  g0 : 0 ≤ s.gone
  g1 : s.gone ≤ 1000000000
  c0 : 0 ≤ s.came
  c1 : s.came ≤ 1000000000
  wt : s.wait.length ≤ 1024
  er : s.early.length ≤ 1000000000
  ar : ∀ x ∈ s.wait, x.args.length ≤ 4398046510976

section
variable {σ : St} {p i : Nat} {D : Nat → Sd}
set_option maxRecDepth 100000

theorem upd_upd {A B : Sd} : upd (upd D i A) i B = upd D i B := by funext j; simp only [upd]; split <;> rfl

theorem phear_at (h : PairAt σ p D) (hi : i < 2) (hf : (D i).s.Fit) (f : Frm) (hq : f.seq ≤ 9223372036854775807) (hx : f.it.args.length ≤ 4398046510976) (ht : (D i).told.length + ((D i).s.hear f).1.1.length ≤ 1000000000) :
    AT Try.prog 33 [ptr p, int i, .agg f.cs] σ fun r σ' => r = boo (decide (((D i).s.hear f).1.2 = 0)) ∧ ∃ tl, PairAt σ' p (upd D i { D i with s := ((D i).s.hear f).2, tl := tl, told := (D i).told ++ ((D i).s.hear f).1.1 }) := by
  refine AT.of_body Try.func33 rfl (by decide) (by kernel_rfl) (by kernel_rfl) (Nat.le_of_ble_eq_true rfl) ?_
  simp only [go_sem, f.one, reduceIte, Nat.reduceEqDiff, Nat.reduceAdd, Nat.reduceMul, Nat.reduceSub, Nat.reduceLT, Nat.reduceLeDiff, Nat.le_refl, Nat.zero_le, Nat.zero_add, Nat.add_zero, Nat.mul_one, splice_zero, Int.toNat_natCast, Int.natCast_nonneg, Int.reduceLE, Int.reduceLT, Int.reduceToNat, Int.reduceEq, Int.cast_ofNat_Int, ne_eq, not_true_eq_false, not_false_eq_true, imp_self, implies_true, true_implies, false_implies, and_self, List.length_map, List.length_drop]
  refine aNew_intro fun c hc hcm => ?_
  have h1 := h.keep (σ' := σ.set c (.cells f.cs)) fun x o hx => set_sub hc (fun _ _ h => h) x o hx
  have h2 : (σ.set c (.cells f.cs)) c = some (.cells f.cs) := set_same
  revert h1 h2
  generalize σ.set c (.cells f.cs) = σ1
  intro h1 h2
  simp only [go_sem, reduceIte, Nat.reduceEqDiff, Nat.reduceAdd, Nat.reduceMul, Nat.reduceSub, Nat.reduceLT, Nat.reduceLeDiff, Nat.le_refl, Nat.zero_le, Nat.zero_add, Nat.add_zero, Nat.mul_one, splice_zero, Int.toNat_natCast, Int.natCast_nonneg, Int.reduceLE, Int.reduceLT, Int.reduceToNat, Int.reduceEq, Int.cast_ofNat_Int, ne_eq, not_true_eq_false, not_false_eq_true, imp_self, implies_true, true_implies, false_implies, and_self, List.length_map, List.length_drop]
  refine aDraw_plan [.rd 0 false, .rd 1 false, .rd 2 false, .rd 3 false, .rd 4 false, .rd 5 true, .rd 6 true, .ef 7 [], .rd 8 false, .rd 9 false, .rd 10 false, .rd 11 false, .rd 12 false] (by kernel_rfl) (by kernel_rfl) (by kernel_rfl) ?_
  have b0 : (i : Int) < 2 := by omega
  have b1 : i < 8 := by omega
  have b7 : 6 + i < 8 := by omega
  have b6 : 6 + i + 1 ≤ 8 := by omega
  simp only [go_sem, h1.ob, h2, f.len, f.take, pc_len, pc0 hi, b0, b1, reduceIte, Nat.reduceEqDiff, Nat.reduceAdd, Nat.reduceMul, Nat.reduceSub, Nat.reduceLT, Nat.reduceLeDiff, Nat.le_refl, Nat.zero_le, Nat.zero_add, Nat.add_zero, Nat.mul_one, splice_zero, Int.toNat_natCast, Int.natCast_nonneg, Int.reduceLE, Int.reduceLT, Int.reduceToNat, Int.reduceEq, Int.cast_ofNat_Int, ne_eq, not_true_eq_false, not_false_eq_true, imp_self, implies_true, true_implies, false_implies, and_self, List.length_map, List.length_drop]
  refine (hear_at (h1.sd i hi).lk f hq hx ⟨hf.g0, hf.g1⟩ ⟨hf.c0, hf.c1⟩ hf.wt hf.er).mono ?_
  rintro _ σ2 ⟨rfl, hs⟩
  have h3 := h1.link hi ((D i).s.hear f).2
  rw [← hs] at h3
  clear hs h1 h2
  generalize (D i).s.hear f = hr at h3 ht ⊢
  obtain ⟨⟨items, e⟩, s'⟩ := hr
  obtain ⟨D2, hD2⟩ : ∃ D2, D2 = upd D i { D i with s := s' } := ⟨_, rfl⟩
  rw [← hD2] at h3
  have hdi : D2 i = { D i with s := s' } := by rw [hD2, upd_same]
  simp only [go_sem, reduceIte, Nat.reduceEqDiff, Nat.reduceAdd, Nat.reduceMul, Nat.reduceSub, Nat.reduceLT, Nat.reduceLeDiff, Nat.le_refl, Nat.zero_le, Nat.zero_add, Nat.add_zero, Nat.mul_one, splice_zero, Int.toNat_natCast, Int.natCast_nonneg, Int.reduceLE, Int.reduceLT, Int.reduceToNat, Int.reduceEq, Int.cast_ofNat_Int, ne_eq, not_true_eq_false, not_false_eq_true, imp_self, implies_true, true_implies, false_implies, and_self, List.length_map, List.length_drop]
  refine aDraw_plan [.rd 0 false, .rd 1 false, .rd 2 false, .rd 3 false, .rd 4 false, .rd 5 false, .rd 6 false, .rd 7 true, .rd 8 false, .rd 10 false, .rd 11 false, .ef 9 [], .rd 12 false, .ef 13 []] (by kernel_rfl) (by kernel_rfl) (by kernel_rfl) ?_
  simp only [go_sem, h3.ob, pc_len, pc6 hi, b0, b1, b7, reduceIte, Nat.reduceEqDiff, Nat.reduceAdd, Nat.reduceMul, Nat.reduceSub, Nat.reduceLT, Nat.reduceLeDiff, Nat.le_refl, Nat.zero_le, Nat.zero_add, Nat.add_zero, Nat.mul_one, splice_zero, Int.toNat_natCast, Int.natCast_nonneg, Int.reduceLE, Int.reduceLT, Int.reduceToNat, Int.reduceEq, Int.cast_ofNat_Int, ne_eq, not_true_eq_false, not_false_eq_true, imp_self, implies_true, true_implies, false_implies, and_self, List.length_map, List.length_drop]
  have hL := (h3.sd i hi).tl
  refine aApp_by (ys := items.map Itm.cs) (by simp [src]) (by decide) (by decide) zl1_one (hL.app (by rw [hdi]; simp; simp at ht; omega) fun tl σ3 hL3 hs3 => ?_)
  have hp := hs3 p _ h3.ob (fun ho => h3.np i hi (.inr (.inr (.inr ho))))
  simp only [go_sem, hp.1, pc_len, b0, b1, b6, hL3.one, hL3.cells, reduceIte, Nat.reduceEqDiff, Nat.reduceAdd, Nat.reduceMul, Nat.reduceSub, Nat.reduceLT, Nat.reduceLeDiff, Nat.le_refl, Nat.zero_le, Nat.zero_add, Nat.add_zero, Nat.mul_one, splice_zero, Int.toNat_natCast, Int.natCast_nonneg, Int.reduceLE, Int.reduceLT, Int.reduceToNat, Int.reduceEq, Int.cast_ofNat_Int, ne_eq, not_true_eq_false, not_false_eq_true, imp_self, implies_true, true_implies, false_implies, and_self, List.length_map, List.length_drop]
  rw [pw6 hi (w := (D2 i).told ++ items)]
  have h4 := h3.tell hi (told := (D2 i).told ++ items) (by rw [List.map_append]; exact hL3) hs3
  refine aRet_as (r := boo (decide (e = 0))) rfl ⟨rfl, tl, ?_⟩
  rw [hdi, hD2, upd_upd] at h4 ⊢
  exact h4

theorem begin_at : AT Try.prog 16 [] σ fun r σ' => ∃ p e0 m0 e1 m1, r = ptr p ∧ PairAt σ' p (fun i => if i = 0 then ⟨e0, m0, ls0, [], .v (.slice none 0 0), 0, [], .v (.slice none 0 0)⟩ else ⟨e1, m1, ls0, [], .v (.slice none 0 0), 0, [], .v (.slice none 0 0)⟩) := by
  refine AT.of_body Try.func16 rfl (by decide) (by kernel_rfl) (by kernel_rfl) (Nat.le_of_ble_eq_true rfl) ?_
  simp only [go_sem, r_block, reduceIte, Nat.reduceEqDiff, Nat.reduceAdd, Nat.reduceMul, Nat.reduceSub, Nat.reduceLT, Nat.reduceLeDiff, Nat.le_refl, Nat.zero_le, Nat.zero_add, Nat.add_zero, Nat.mul_one, splice_zero, Int.toNat_natCast, Int.natCast_nonneg, Int.reduceLE, Int.reduceLT, Int.reduceToNat, Int.reduceEq, Int.cast_ofNat_Int, ne_eq, not_true_eq_false, not_false_eq_true, imp_self, implies_true, true_implies, false_implies, and_self, List.length_map, List.length_drop]
  refine aNew_intro fun p hp _ => ?_
  obtain ⟨σ0, hs⟩ : ∃ σ0, σ0 = σ.set p (.cells [.v (.pointer none), .v (.pointer none), .v (.slice none 0 0), .v (.slice none 0 0), int 0, int 0, .v (.slice none 0 0), .v (.slice none 0 0)]) := ⟨_, rfl⟩
  rw [← hs]
  have hP : σ0 p = some (.cells [.v (.pointer none), .v (.pointer none), .v (.slice none 0 0), .v (.slice none 0 0), int 0, int 0, .v (.slice none 0 0), .v (.slice none 0 0)]) := by rw [hs, set_same]
  clear hs
  simp only [go_sem, r_block, reduceIte, Nat.reduceEqDiff, Nat.reduceAdd, Nat.reduceMul, Nat.reduceSub, Nat.reduceLT, Nat.reduceLeDiff, Nat.le_refl, Nat.zero_le, Nat.zero_add, Nat.add_zero, Nat.mul_one, splice_zero, Int.toNat_natCast, Int.natCast_nonneg, Int.reduceLE, Int.reduceLT, Int.reduceToNat, Int.reduceEq, Int.cast_ofNat_Int, ne_eq, not_true_eq_false, not_false_eq_true, imp_self, implies_true, true_implies, false_implies, and_self, List.length_map, List.length_drop]
  refine aDraw_plan [.rd 0 false, .rd 2 false, .rd 3 false, .ef 1 [], .rd 4 false, .ef 5 []] (by kernel_rfl) (by kernel_rfl) (by kernel_rfl) ?_
  simp only [go_sem, r_block, reduceIte, Nat.reduceEqDiff, Nat.reduceAdd, Nat.reduceMul, Nat.reduceSub, Nat.reduceLT, Nat.reduceLeDiff, Nat.le_refl, Nat.zero_le, Nat.zero_add, Nat.add_zero, Nat.mul_one, splice_zero, Int.toNat_natCast, Int.natCast_nonneg, Int.reduceLE, Int.reduceLT, Int.reduceToNat, Int.reduceEq, Int.cast_ofNat_Int, ne_eq, not_true_eq_false, not_false_eq_true, imp_self, implies_true, true_implies, false_implies, and_self, List.length_map, List.length_drop]
  refine new_at.mono ?_
  rintro _ σ1 ⟨b, m, hb, hm, hn, rfl, hs⟩
  have np1 : p ≠ b := fun e => by subst e; rw [hP] at hb; cases hb
  have np2 : p ≠ m := fun e => by subst e; rw [hP] at hm; cases hm
  have hP1 : σ1 p = some (.cells [.v (.pointer none), .v (.pointer none), .v (.slice none 0 0), .v (.slice none 0 0), int 0, int 0, .v (.slice none 0 0), .v (.slice none 0 0)]) := by rw [hs, set_ne np1, set_ne np2]; exact hP
  have l1 : LAt' σ1 b m ls0 := by rw [hs]; exact ⟨by rw [set_same]; rfl, by rw [set_ne hn.symm, set_same]; rfl⟩
  clear hs hP hb hm
  simp only [go_sem, r_block, hP1, reduceIte, Nat.reduceEqDiff, Nat.reduceAdd, Nat.reduceMul, Nat.reduceSub, Nat.reduceLT, Nat.reduceLeDiff, Nat.le_refl, Nat.zero_le, Nat.zero_add, Nat.add_zero, Nat.mul_one, splice_zero, Int.toNat_natCast, Int.natCast_nonneg, Int.reduceLE, Int.reduceLT, Int.reduceToNat, Int.reduceEq, Int.cast_ofNat_Int, ne_eq, not_true_eq_false, not_false_eq_true, imp_self, implies_true, true_implies, false_implies, and_self, List.length_map, List.length_drop]
  obtain ⟨σ2, hs⟩ : ∃ σ2, σ2 = σ1.set p (.cells [ptr b, .v (.pointer none), .v (.slice none 0 0), .v (.slice none 0 0), int 0, int 0, .v (.slice none 0 0), .v (.slice none 0 0)]) := ⟨_, rfl⟩
  rw [← hs]
  have hP2 : σ2 p = some (.cells [ptr b, .v (.pointer none), .v (.slice none 0 0), .v (.slice none 0 0), int 0, int 0, .v (.slice none 0 0), .v (.slice none 0 0)]) := by rw [hs, set_same]
  have l2 : LAt' σ2 b m ls0 := l1.keep fun x o hx hq => by rw [hs, set_ne]; exact hx; rintro rfl; rcases hq with e | e; exact np1 e; exact np2 e
  clear hs l1 hP1
  refine aDraw_plan [.rd 0 false, .rd 2 false, .rd 3 false, .ef 1 [], .rd 4 false, .ef 5 []] (by kernel_rfl) (by kernel_rfl) (by kernel_rfl) ?_
  simp only [go_sem, r_block, reduceIte, Nat.reduceEqDiff, Nat.reduceAdd, Nat.reduceMul, Nat.reduceSub, Nat.reduceLT, Nat.reduceLeDiff, Nat.le_refl, Nat.zero_le, Nat.zero_add, Nat.add_zero, Nat.mul_one, splice_zero, Int.toNat_natCast, Int.natCast_nonneg, Int.reduceLE, Int.reduceLT, Int.reduceToNat, Int.reduceEq, Int.cast_ofNat_Int, ne_eq, not_true_eq_false, not_false_eq_true, imp_self, implies_true, true_implies, false_implies, and_self, List.length_map, List.length_drop]
  refine new_at.mono ?_
  rintro _ σ3 ⟨b2, m2, hb2, hm2, hn2, rfl, hs⟩
  have np3 : p ≠ b2 := fun e => by subst e; rw [hP2] at hb2; cases hb2
  have np4 : p ≠ m2 := fun e => by subst e; rw [hP2] at hm2; cases hm2
  have bb : b ≠ b2 := fun e => by subst e; rw [l2.ob] at hb2; cases hb2
  have bm : b ≠ m2 := fun e => by subst e; rw [l2.ob] at hm2; cases hm2
  have mb : m ≠ b2 := fun e => by subst e; rw [l2.er] at hb2; cases hb2
  have mm : m ≠ m2 := fun e => by subst e; rw [l2.er] at hm2; cases hm2
  have hP3 : σ3 p = some (.cells [ptr b, .v (.pointer none), .v (.slice none 0 0), .v (.slice none 0 0), int 0, int 0, .v (.slice none 0 0), .v (.slice none 0 0)]) := by rw [hs, set_ne np3, set_ne np4]; exact hP2
  have l3 : LAt' σ3 b2 m2 ls0 := by rw [hs]; exact ⟨by rw [set_same]; rfl, by rw [set_ne hn2.symm, set_same]; rfl⟩
  have l4 : LAt' σ3 b m ls0 := l2.keep fun x o hx hq => by rw [hs, set_ne, set_ne]; exact hx; rintro rfl; rcases hq with e | e; exact bm e.symm; exact mm e.symm; rintro rfl; rcases hq with e | e; exact bb e.symm; exact mb e.symm
  clear hs l2 hP2 hb2 hm2
  simp only [go_sem, r_block, hP3, reduceIte, Nat.reduceEqDiff, Nat.reduceAdd, Nat.reduceMul, Nat.reduceSub, Nat.reduceLT, Nat.reduceLeDiff, Nat.le_refl, Nat.zero_le, Nat.zero_add, Nat.add_zero, Nat.mul_one, splice_zero, Int.toNat_natCast, Int.natCast_nonneg, Int.reduceLE, Int.reduceLT, Int.reduceToNat, Int.reduceEq, Int.cast_ofNat_Int, ne_eq, not_true_eq_false, not_false_eq_true, imp_self, implies_true, true_implies, false_implies, and_self, List.length_map, List.length_drop]
  refine aRet_as (r := ptr p) rfl ⟨p, b, m, b2, m2, rfl, ?_⟩
  have none_own : ∀ x, ¬ Own (.v (.slice none 0 0)) x := fun x ⟨n, c, h⟩ => by cases h
  refine ⟨set_same, fun i hi => ?_, fun i j hi hj hij x hx hx' => ?_, fun i hi hx => ?_⟩
  · rcases two hi with rfl | rfl
    · exact ⟨l4.keep fun x o hx hq => by rw [set_ne]; exact hx; rintro rfl; rcases hq with e | e; exact np1 e; exact np2 e, .none, .none⟩
    · exact ⟨l3.keep fun x o hx hq => by rw [set_ne]; exact hx; rintro rfl; rcases hq with e | e; exact np3 e; exact np4 e, .none, .none⟩
  · rcases two hi with rfl | rfl <;> rcases two hj with rfl | rfl
    · exact hij rfl
    · rcases hx with hx | hx | hx | hx <;> rcases hx' with hx' | hx' | hx' | hx' <;> first | exact none_own _ hx | exact none_own _ hx' | (simp at hx hx'; omega)
    · rcases hx with hx | hx | hx | hx <;> rcases hx' with hx' | hx' | hx' | hx' <;> first | exact none_own _ hx | exact none_own _ hx' | (simp at hx hx'; omega)
    · exact hij rfl
  · rcases two hi with rfl | rfl
    · rcases hx with hx | hx | hx | hx <;> first | exact none_own _ hx | (simp at hx; omega)
    · rcases hx with hx | hx | hx | hx <;> first | exact none_own _ hx | (simp at hx; omega)
end
end Go.Proofs.Ytpdbmnogfanpmaa
