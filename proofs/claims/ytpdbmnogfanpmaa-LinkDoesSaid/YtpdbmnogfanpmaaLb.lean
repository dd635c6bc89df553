/-
  What one end (package link) computes: Push, Tick, Hear, Clone.
  Conditions: none.
-/
import Derived.Test.YtpdbmnogfanpmaaLa
set_option linter.unusedVariables false
set_option linter.unusedSimpArgs false
namespace Go.Proofs.Ytpdbmnogfanpmaa
open Go Go.Av

def Ls.push (s : Ls) (x : Itm) : Int × Ls := if 1 ≤ x.kind ∧ x.kind ≤ 4 then (if 1024 ≤ s.wait.length then (150, s) else (0, { s with wait := s.wait ++ [x] })) else (2, s)

section
variable {σ : St} {b m : Nat} {s : Ls}
set_option maxRecDepth 100000

theorem push_at (h : σ b = some (lO s m)) (x : Itm) (hx : x.args.length ≤ 4398046510976) (hl : s.wait.length ≤ 1024) : AT Try.prog 10 [ptr b, .agg x.cs] σ fun r σ' => r = int (s.push x).1 ∧ σ' = σ.set b (lO (s.push x).2 m) := by
  refine AT.of_body Try.func10 rfl (by decide) (by kernel_rfl) (by kernel_rfl) (Nat.le_of_ble_eq_true rfl) ?_
  simp only [go_sem, x.one, reduceIte, Nat.reduceEqDiff, Nat.reduceAdd, Nat.reduceMul, Nat.reduceSub, Nat.reduceLT, Nat.reduceLeDiff, Nat.le_refl, Nat.zero_le, Nat.zero_add, Nat.add_zero, Nat.mul_one, splice_zero, Int.toNat_natCast, Int.natCast_nonneg, Int.reduceLE, Int.reduceLT, Int.reduceToNat, Int.reduceEq, Int.cast_ofNat_Int, ne_eq, not_true_eq_false, not_false_eq_true, imp_self, implies_true, true_implies, false_implies, and_self, List.length_map, List.length_drop]
  refine aNew_intro fun c hc hcm => ?_
  have hbc : b ≠ c := hcm _ _ h
  obtain ⟨σ1, hs⟩ : ∃ σ1, σ1 = σ.set c (.cells x.cs) := ⟨_, rfl⟩
  rw [← hs]
  have h1 : σ1 b = some (lO s m) := by rw [hs, set_ne hbc]; exact h
  have h2 : σ1 c = some (.cells x.cs) := by rw [hs, set_same]
  simp only [go_sem, r_block, reduceIte, Nat.reduceEqDiff, Nat.reduceAdd, Nat.reduceMul, Nat.reduceSub, Nat.reduceLT, Nat.reduceLeDiff, Nat.le_refl, Nat.zero_le, Nat.zero_add, Nat.add_zero, Nat.mul_one, splice_zero, Int.toNat_natCast, Int.natCast_nonneg, Int.reduceLE, Int.reduceLT, Int.reduceToNat, Int.reduceEq, Int.cast_ofNat_Int, ne_eq, not_true_eq_false, not_false_eq_true, imp_self, implies_true, true_implies, false_implies, and_self, List.length_map, List.length_drop]
  refine (none_at h1).mono ?_
  rintro _ σ1 ⟨rfl, rfl⟩
  simp only [go_sem, r_block, h2, x.len, x.take, reduceIte, Nat.reduceEqDiff, Nat.reduceAdd, Nat.reduceMul, Nat.reduceSub, Nat.reduceLT, Nat.reduceLeDiff, Nat.le_refl, Nat.zero_le, Nat.zero_add, Nat.add_zero, Nat.mul_one, splice_zero, Int.toNat_natCast, Int.natCast_nonneg, Int.reduceLE, Int.reduceLT, Int.reduceToNat, Int.reduceEq, Int.cast_ofNat_Int, ne_eq, not_true_eq_false, not_false_eq_true, imp_self, implies_true, true_implies, false_implies, and_self, List.length_map, List.length_drop]
  refine (kind_at x).mono ?_
  rintro _ σ1 ⟨rfl, rfl⟩
  simp only [go_sem, r_block, h2, reduceIte, Nat.reduceEqDiff, Nat.reduceAdd, Nat.reduceMul, Nat.reduceSub, Nat.reduceLT, Nat.reduceLeDiff, Nat.le_refl, Nat.zero_le, Nat.zero_add, Nat.add_zero, Nat.mul_one, splice_zero, Int.toNat_natCast, Int.natCast_nonneg, Int.reduceLE, Int.reduceLT, Int.reduceToNat, Int.reduceEq, Int.cast_ofNat_Int, ne_eq, not_true_eq_false, not_false_eq_true, imp_self, implies_true, true_implies, false_implies, and_self, List.length_map, List.length_drop]
  refine aIf_by (fun hk => ?_) (fun hk => ?_)
  · have h1' := h1
    unfold lO at h1'
    simp only [go_sem, r_block, h1', reduceIte, Nat.reduceEqDiff, Nat.reduceAdd, Nat.reduceMul, Nat.reduceSub, Nat.reduceLT, Nat.reduceLeDiff, Nat.le_refl, Nat.zero_le, Nat.zero_add, Nat.add_zero, Nat.mul_one, splice_zero, Int.toNat_natCast, Int.natCast_nonneg, Int.reduceLE, Int.reduceLT, Int.reduceToNat, Int.reduceEq, Int.cast_ofNat_Int, ne_eq, not_true_eq_false, not_false_eq_true, imp_self, implies_true, true_implies, false_implies, and_self, List.length_map, List.length_drop]
    refine aIf_by (fun hf => ?_) (fun hf => ?_)
    · simp only [go_sem, r_block, reduceIte, Nat.reduceEqDiff, Nat.reduceAdd, Nat.reduceMul, Nat.reduceSub, Nat.reduceLT, Nat.reduceLeDiff, Nat.le_refl, Nat.zero_le, Nat.zero_add, Nat.add_zero, Nat.mul_one, splice_zero, Int.toNat_natCast, Int.natCast_nonneg, Int.reduceLE, Int.reduceLT, Int.reduceToNat, Int.reduceEq, Int.cast_ofNat_Int, ne_eq, not_true_eq_false, not_false_eq_true, imp_self, implies_true, true_implies, false_implies, and_self, List.length_map, List.length_drop]
      refine aRet_view (r := int 150) rfl _ σ (view_drop (by rw [hs]; exact set_sub hc fun _ _ h => h)) ?_
      have : s.push x = (150, s) := by unfold Ls.push; rw [if_pos hk, if_pos (by omega)]
      rw [this]
      exact ⟨rfl, (set_id h).symm⟩
    · simp only [go_sem, r_block, reduceIte, Nat.reduceEqDiff, Nat.reduceAdd, Nat.reduceMul, Nat.reduceSub, Nat.reduceLT, Nat.reduceLeDiff, Nat.le_refl, Nat.zero_le, Nat.zero_add, Nat.add_zero, Nat.mul_one, splice_zero, Int.toNat_natCast, Int.natCast_nonneg, Int.reduceLE, Int.reduceLT, Int.reduceToNat, Int.reduceEq, Int.cast_ofNat_Int, ne_eq, not_true_eq_false, not_false_eq_true, imp_self, implies_true, true_implies, false_implies, and_self, List.length_map, List.length_drop]
      refine aDraw_plan [.rd 0 false, .rd 1 false, .rd 2 false, .rd 3 false, .rd 4 true, .rd 5 false, .rd 6 false, .rd 7 false, .rd 8 true, .rd 9 false, .rd 10 false, .rd 11 false, .rd 12 false, .rd 13 true, .rd 14 false, .rd 15 true, .rd 16 true, .ef 17 [4, 8, 13, 15], .rd 18 false, .ef 19 [], .rd 20 false, .rd 21 false, .ef 22 []] (by kernel_rfl) (by kernel_rfl) (by kernel_rfl) ?_
      simp only [go_sem, r_block, h1', reduceIte, Nat.reduceEqDiff, Nat.reduceAdd, Nat.reduceMul, Nat.reduceSub, Nat.reduceLT, Nat.reduceLeDiff, Nat.le_refl, Nat.zero_le, Nat.zero_add, Nat.add_zero, Nat.mul_one, splice_zero, Int.toNat_natCast, Int.natCast_nonneg, Int.reduceLE, Int.reduceLT, Int.reduceToNat, Int.reduceEq, Int.cast_ofNat_Int, ne_eq, not_true_eq_false, not_false_eq_true, imp_self, implies_true, true_implies, false_implies, and_self, List.length_map, List.length_drop]
      refine sli_full (by simp) ?_
      simp only [go_sem, r_block, h1', h2, x.len, x.take, reduceIte, Nat.reduceEqDiff, Nat.reduceAdd, Nat.reduceMul, Nat.reduceSub, Nat.reduceLT, Nat.reduceLeDiff, Nat.le_refl, Nat.zero_le, Nat.zero_add, Nat.add_zero, Nat.mul_one, splice_zero, Int.toNat_natCast, Int.natCast_nonneg, Int.reduceLE, Int.reduceLT, Int.reduceToNat, Int.reduceEq, Int.cast_ofNat_Int, ne_eq, not_true_eq_false, not_false_eq_true, imp_self, implies_true, true_implies, false_implies, and_self, List.length_map, List.length_drop]
      refine (own_at x hx).mono ?_
      rintro _ σ1 ⟨rfl, rfl⟩
      simp only [go_sem, r_block, h1', reduceIte, Nat.reduceEqDiff, Nat.reduceAdd, Nat.reduceMul, Nat.reduceSub, Nat.reduceLT, Nat.reduceLeDiff, Nat.le_refl, Nat.zero_le, Nat.zero_add, Nat.add_zero, Nat.mul_one, splice_zero, Int.toNat_natCast, Int.natCast_nonneg, Int.reduceLE, Int.reduceLT, Int.reduceToNat, Int.reduceEq, Int.cast_ofNat_Int, ne_eq, not_true_eq_false, not_false_eq_true, imp_self, implies_true, true_implies, false_implies, and_self, List.length_map, List.length_drop]
      refine ⟨fun k hk => sli_full (by simp) hk, x.len, x.one, aApp_by (ys := [x.cs]) (by simp [src]) (by decide) (by decide) zl1_one ⟨rfl, fun e => absurd e (by simp), fun _ => ⟨by simp; omega, fun d cap hd hle => ?_⟩⟩⟩
      have hbd : b ≠ d := fun e => by subst e; rw [h1] at hd; cases hd
      have hdb := hbd.symm
      have hd' : σ d = none := none_of_sub (by rw [hs]; exact set_sub hc fun _ _ h => h) hd
      simp only [go_sem, r_block, set_ne hbd, h1', reduceIte, Nat.reduceEqDiff, Nat.reduceAdd, Nat.reduceMul, Nat.reduceSub, Nat.reduceLT, Nat.reduceLeDiff, Nat.le_refl, Nat.zero_le, Nat.zero_add, Nat.add_zero, Nat.mul_one, splice_zero, Int.toNat_natCast, Int.natCast_nonneg, Int.reduceLE, Int.reduceLT, Int.reduceToNat, Int.reduceEq, Int.cast_ofNat_Int, ne_eq, not_true_eq_false, not_false_eq_true, imp_self, implies_true, true_implies, false_implies, and_self, List.length_map, List.length_drop]
      have hpu : s.push x = (0, { s with wait := s.wait ++ [x] }) := by unfold Ls.push; rw [if_pos hk, if_neg (by omega)]
      refine aRet_view (r := int 0) rfl _ (σ.set b (lO { s with wait := s.wait ++ [x] } m)) (view_of (sv_set set_same (vws_cons (.row d 38 (s.wait.map Itm.cs ++ [x.cs]) ((s.wait ++ [x]).map Itm.cs) false cap _ _ ?_ ?_ ?_ ?_ ?_ ?_ ?_) (vws_refl _)) fun y p hy hp => ?_) (.refl _)) (by rw [hpu]; exact ⟨rfl, rfl⟩)
      · rw [set_ne hdb, set_same]
      · rw [set_ne hdb]; exact hd'
      · simp
      · simpa using hle
      · simp
      · intro i hi; simp
      · intro i j hi hj; rw [List.map_append]; exact .refl _
      · rw [set_ne hy]
        exact set_sub hd (fun _ _ h => h) _ _ (by rw [hs]; exact set_sub hc (fun _ _ h => h) _ _ hp)
  · simp only [go_sem, r_block, reduceIte, Nat.reduceEqDiff, Nat.reduceAdd, Nat.reduceMul, Nat.reduceSub, Nat.reduceLT, Nat.reduceLeDiff, Nat.le_refl, Nat.zero_le, Nat.zero_add, Nat.add_zero, Nat.mul_one, splice_zero, Int.toNat_natCast, Int.natCast_nonneg, Int.reduceLE, Int.reduceLT, Int.reduceToNat, Int.reduceEq, Int.cast_ofNat_Int, ne_eq, not_true_eq_false, not_false_eq_true, imp_self, implies_true, true_implies, false_implies, and_self, List.length_map, List.length_drop]
    refine aRet_view (r := int 2) rfl _ σ (view_drop (by rw [hs]; exact set_sub hc fun _ _ h => h)) ?_
    have : s.push x = (2, s) := by unfold Ls.push; rw [if_neg hk]
    rw [this]
    exact ⟨rfl, (set_id h).symm⟩

/-- A frame. -/
structure Frm where
  seq : Int
  ack : Int
  it : Itm
def Frm.cs (f : Frm) : List AV := int f.seq :: int f.ack :: f.it.cs
theorem Frm.len (f : Frm) : f.cs.length = 40 := by simp [Frm.cs, f.it.len]
theorem Frm.one (f : Frm) : f.cs.all AV.one = true := by
  have := f.it.one
  simp only [Frm.cs, List.all_cons, this]
  rfl
def itm0 : Itm := ⟨0, 0, nost, nost, nost, [], List.replicate 32 0, rfl⟩
def Ls.frames (s : Ls) (n : Nat) : List Frm := (s.wait.take n).mapIdx fun i x => ⟨s.gone + i + 1, s.came, x⟩
def Ls.tick (s : Ls) : List Frm × Ls := (if s.wait = [] then (if s.owes then [⟨0, s.came, itm0⟩] else []) else s.frames 8, { s with owes := false })

theorem zl2_drop : (((zl2.map AV.v).drop 1).drop 1).drop 38 = [] := rfl
theorem zl1_drop : (zl1.map AV.v).drop 38 = [] := rfl
theorem frames_len (n : Nat) : (s.frames n).length = min n s.wait.length := by simp [Ls.frames]
theorem frames_succ {n : Nat} (hn : n < s.wait.length) : s.frames (n + 1) = s.frames n ++ [⟨s.gone + n + 1, s.came, s.wait[n]⟩] := by
  unfold Ls.frames
  rw [List.take_succ_eq_append_getElem hn, List.mapIdx_concat]
  simp [Nat.min_eq_left (Nat.le_of_lt hn)]

theorem tick_at (h : σ b = some (lO s m)) (hx : ∀ x ∈ s.wait, x.args.length ≤ 4398046510976) (hg : 0 ≤ s.gone ∧ s.gone ≤ 1000000000) (hl : s.wait.length ≤ 1024) : AT Try.prog 13 [ptr b] σ fun r σ' => r = .sl 40 (s.tick.1.map Frm.cs) ∧ σ' = σ.set b (lO s.tick.2 m) := by
  refine AT.of_body Try.func13 rfl (by decide) (by kernel_rfl) (by kernel_rfl) (Nat.le_of_ble_eq_true rfl) ?_
  simp only [go_sem, reduceIte, Nat.reduceEqDiff, Nat.reduceAdd, Nat.reduceMul, Nat.reduceSub, Nat.reduceLT, Nat.reduceLeDiff, Nat.le_refl, Nat.zero_le, Nat.zero_add, Nat.add_zero, Nat.mul_one, splice_zero, Int.toNat_natCast, Int.natCast_nonneg, Int.reduceLE, Int.reduceLT, Int.reduceToNat, Int.reduceEq, Int.cast_ofNat_Int, ne_eq, not_true_eq_false, not_false_eq_true, imp_self, implies_true, true_implies, false_implies, and_self, List.length_map, List.length_drop]
  refine (none_at h).mono ?_
  rintro _ σ1 ⟨rfl, rfl⟩
  have h' := h
  unfold lO at h'
  simp only [go_sem, h', reduceIte, Nat.reduceEqDiff, Nat.reduceAdd, Nat.reduceMul, Nat.reduceSub, Nat.reduceLT, Nat.reduceLeDiff, Nat.le_refl, Nat.zero_le, Nat.zero_add, Nat.add_zero, Nat.mul_one, splice_zero, Int.toNat_natCast, Int.natCast_nonneg, Int.reduceLE, Int.reduceLT, Int.reduceToNat, Int.reduceEq, Int.cast_ofNat_Int, ne_eq, not_true_eq_false, not_false_eq_true, imp_self, implies_true, true_implies, false_implies, and_self, List.length_map, List.length_drop]
  refine aDraw_plan [.rd 0 false, .rd 1 false, .rd 2 false, .rd 3 true, .rd 4 false, .rd 5 false, .rd 6 false, .rd 7 true, .rd 8 false, .rd 9 false, .rd 10 true, .rd 11 false, .rd 12 false] (by kernel_rfl) (by kernel_rfl) (by kernel_rfl) ?_
  simp only [go_sem, h', reduceIte, Nat.reduceEqDiff, Nat.reduceAdd, Nat.reduceMul, Nat.reduceSub, Nat.reduceLT, Nat.reduceLeDiff, Nat.le_refl, Nat.zero_le, Nat.zero_add, Nat.add_zero, Nat.mul_one, splice_zero, Int.toNat_natCast, Int.natCast_nonneg, Int.reduceLE, Int.reduceLT, Int.reduceToNat, Int.reduceEq, Int.cast_ofNat_Int, ne_eq, not_true_eq_false, not_false_eq_true, imp_self, implies_true, true_implies, false_implies, and_self, List.length_map, List.length_drop]
  refine sli_upto (by omega) (by simp; omega) ?_
  have e8 : (min (s.wait.length : Int) 8).toNat = min s.wait.length 8 := by omega
  simp only [go_sem, e8, reduceIte, Nat.reduceEqDiff, Nat.reduceAdd, Nat.reduceMul, Nat.reduceSub, Nat.reduceLT, Nat.reduceLeDiff, Nat.le_refl, Nat.zero_le, Nat.zero_add, Nat.add_zero, Nat.mul_one, splice_zero, Int.toNat_natCast, Int.natCast_nonneg, Int.reduceLE, Int.reduceLT, Int.reduceToNat, Int.reduceEq, Int.cast_ofNat_Int, ne_eq, not_true_eq_false, not_false_eq_true, imp_self, implies_true, true_implies, false_implies, and_self, List.length_map, List.length_drop]
  rw [r_block]
  simp only [go_sem, reduceIte, Nat.reduceEqDiff, Nat.reduceAdd, Nat.reduceMul, Nat.reduceSub, Nat.reduceLT, Nat.reduceLeDiff, Nat.le_refl, Nat.zero_le, Nat.zero_add, Nat.add_zero, Nat.mul_one, splice_zero, Int.toNat_natCast, Int.natCast_nonneg, Int.reduceLE, Int.reduceLT, Int.reduceToNat, Int.reduceEq, Int.cast_ofNat_Int, ne_eq, not_true_eq_false, not_false_eq_true, imp_self, implies_true, true_implies, false_implies, and_self, List.length_map, List.length_drop]
  refine ⟨fun k fr σ' => ∃ (j : Nat) (lv : AV), k = 8 - j ∧ j ≤ min s.wait.length 8 ∧ fr 0 = ptr b ∧ fr 3 = lv ∧ fr 18 = .sl 38 ((s.wait.map Itm.cs).take (min s.wait.length 8)) ∧ fr 19 = int (min s.wait.length 8 : Nat) ∧ fr 20 = int j ∧ LAt 40 σ' lv ((s.frames j).map Frm.cs) ∧ Grow σ1 σ' lv, ⟨8, 0, _, rfl, by omega, rfl, rfl, rfl, by show int (List.length _ : Nat) = _; rw [List.length_take, List.length_map, Nat.min_eq_left (Nat.min_le_left _ _)], rfl, .none, .nil⟩, ?_⟩
  rintro k fr σ' ⟨j, lv, rfl, hj, f0, f3, f18, f19, f20, hL, hG⟩
  have hb := hG.sub _ _ h'
  simp only [go_sem, f0, f3, f18, f19, f20, reduceIte, Nat.reduceEqDiff, Nat.reduceAdd, Nat.reduceMul, Nat.reduceSub, Nat.reduceLT, Nat.reduceLeDiff, Nat.le_refl, Nat.zero_le, Nat.zero_add, Nat.add_zero, Nat.mul_one, splice_zero, Int.toNat_natCast, Int.natCast_nonneg, Int.reduceLE, Int.reduceLT, Int.reduceToNat, Int.reduceEq, Int.cast_ofNat_Int, ne_eq, not_true_eq_false, not_false_eq_true, imp_self, implies_true, true_implies, false_implies, and_self, List.length_map, List.length_drop]
  refine aIf_by (fun hlt => ?_) (fun hlt => ?_)
  · have hjn : j < min s.wait.length 8 := by omega
    have hjw : j < s.wait.length := by omega
    have eg : ((s.wait.map Itm.cs).take (min s.wait.length 8)).getD j [] = s.wait[j].cs := by
      simp [List.getD_eq_getElem?_getD, List.getElem?_take, hjn, hjw]
    simp only [go_sem, r_block, f0, f3, f18, f19, f20, eg, Itm.len, Itm.take, reduceIte, Nat.reduceEqDiff, Nat.reduceAdd, Nat.reduceMul, Nat.reduceSub, Nat.reduceLT, Nat.reduceLeDiff, Nat.le_refl, Nat.zero_le, Nat.zero_add, Nat.add_zero, Nat.mul_one, splice_zero, Int.toNat_natCast, Int.natCast_nonneg, Int.reduceLE, Int.reduceLT, Int.reduceToNat, Int.reduceEq, Int.cast_ofNat_Int, ne_eq, not_true_eq_false, not_false_eq_true, imp_self, implies_true, true_implies, false_implies, and_self, List.length_map, List.length_drop]
    refine ⟨by rw [List.length_take, List.length_map]; omega, aNew_intro fun c hc _ => ?_⟩
    simp only [go_sem, f0, f3, f18, f19, f20, eg, Itm.len, Itm.take, set_same, Itm.one, zl1_len, zl1_drop, reduceIte, Nat.reduceEqDiff, Nat.reduceAdd, Nat.reduceMul, Nat.reduceSub, Nat.reduceLT, Nat.reduceLeDiff, Nat.le_refl, Nat.zero_le, Nat.zero_add, Nat.add_zero, Nat.mul_one, splice_zero, Int.toNat_natCast, Int.natCast_nonneg, Int.reduceLE, Int.reduceLT, Int.reduceToNat, Int.reduceEq, Int.cast_ofNat_Int, ne_eq, not_true_eq_false, not_false_eq_true, imp_self, implies_true, true_implies, false_implies, and_self, List.length_map, List.length_drop]
    have hL2 := hL.new (c := c) (o := .cells s.wait[j].cs) hc
    have hG2 := hG.new (c := c) (o := .cells s.wait[j].cs) hc
    have hb2 := hG2.sub _ _ h'
    have hc2 : (σ'.set c (.cells s.wait[j].cs)) c = some (.cells s.wait[j].cs) := set_same
    revert hL2 hG2 hb2 hc2
    generalize σ'.set c (.cells s.wait[j].cs) = σ2
    intro hL2 hG2 hb2 hc2
    refine aDraw_plan [.rd 0 false, .rd 1 false, .rd 2 false, .rd 3 false, .rd 4 true, .rd 5 false, .rd 6 false, .rd 7 false, .rd 8 false, .rd 9 false, .rd 10 false, .rd 11 true, .rd 12 true, .ef 13 [4, 11], .rd 14 false, .rd 15 false, .ef 16 [], .rd 17 false] (by kernel_rfl) (by kernel_rfl) (by kernel_rfl) ?_
    simp only [go_sem, r_block, f0, f3, f18, f19, f20, hb2, hc2, Itm.len, Itm.take, reduceIte, Nat.reduceEqDiff, Nat.reduceAdd, Nat.reduceMul, Nat.reduceSub, Nat.reduceLT, Nat.reduceLeDiff, Nat.le_refl, Nat.zero_le, Nat.zero_add, Nat.add_zero, Nat.mul_one, splice_zero, Int.toNat_natCast, Int.natCast_nonneg, Int.reduceLE, Int.reduceLT, Int.reduceToNat, Int.reduceEq, Int.cast_ofNat_Int, ne_eq, not_true_eq_false, not_false_eq_true, imp_self, implies_true, true_implies, false_implies, and_self, List.length_map, List.length_drop]
    refine (own_at _ (hx _ (List.getElem_mem _))).mono ?_
    rintro _ σ3 ⟨rfl, rfl⟩
    simp only [go_sem, r_block, f0, f3, f18, f19, f20, hb2, hc2, Itm.len, Itm.take, Itm.one, zl2_len, zl2_drop, reduceIte, Nat.reduceEqDiff, Nat.reduceAdd, Nat.reduceMul, Nat.reduceSub, Nat.reduceLT, Nat.reduceLeDiff, Nat.le_refl, Nat.zero_le, Nat.zero_add, Nat.add_zero, Nat.mul_one, splice_zero, Int.toNat_natCast, Int.natCast_nonneg, Int.reduceLE, Int.reduceLT, Int.reduceToNat, Int.reduceEq, Int.cast_ofNat_Int, ne_eq, not_true_eq_false, not_false_eq_true, imp_self, implies_true, true_implies, false_implies, and_self, List.length_map, List.length_drop]
    rw [wrap64 (x := s.gone + j) (by omega), wrap64 (by omega)]
    refine aApp_by (ys := [Frm.cs ⟨s.gone + j + 1, s.came, s.wait[j]⟩]) rfl (by decide) (by decide) zl2_one (hL2.app (by simp [frames_len]; omega) fun lv' σ4 hL4 hs4 => ?_)
    have hG4 := hG2.step hs4
    simp only [go_sem, r_block, f0, f3, f18, f19, f20, reduceIte, Nat.reduceEqDiff, Nat.reduceAdd, Nat.reduceMul, Nat.reduceSub, Nat.reduceLT, Nat.reduceLeDiff, Nat.le_refl, Nat.zero_le, Nat.zero_add, Nat.add_zero, Nat.mul_one, splice_zero, Int.toNat_natCast, Int.natCast_nonneg, Int.reduceLE, Int.reduceLT, Int.reduceToNat, Int.reduceEq, Int.cast_ofNat_Int, ne_eq, not_true_eq_false, not_false_eq_true, imp_self, implies_true, true_implies, false_implies, and_self, List.length_map, List.length_drop]
    rw [next64 (by omega)]
    refine ⟨8 - (j + 1), by omega, j + 1, lv', rfl, by omega, ?_⟩
    exact ⟨rfl, rfl, by rw [frames_succ hjw, List.map_append]; exact hL4, hG4⟩
  · simp only [go_sem, f0, f3, f18, f19, f20, reduceIte, Nat.reduceEqDiff, Nat.reduceAdd, Nat.reduceMul, Nat.reduceSub, Nat.reduceLT, Nat.reduceLeDiff, Nat.le_refl, Nat.zero_le, Nat.zero_add, Nat.add_zero, Nat.mul_one, splice_zero, Int.toNat_natCast, Int.natCast_nonneg, Int.reduceLE, Int.reduceLT, Int.reduceToNat, Int.reduceEq, Int.cast_ofNat_Int, ne_eq, not_true_eq_false, not_false_eq_true, imp_self, implies_true, true_implies, false_implies, and_self, List.length_map, List.length_drop]
    rw [hL.len]
    simp only [go_sem, f0, f3, f18, f19, f20, reduceIte, Nat.reduceEqDiff, Nat.reduceAdd, Nat.reduceMul, Nat.reduceSub, Nat.reduceLT, Nat.reduceLeDiff, Nat.le_refl, Nat.zero_le, Nat.zero_add, Nat.add_zero, Nat.mul_one, splice_zero, Int.toNat_natCast, Int.natCast_nonneg, Int.reduceLE, Int.reduceLT, Int.reduceToNat, Int.reduceEq, Int.cast_ofNat_Int, ne_eq, not_true_eq_false, not_false_eq_true, imp_self, implies_true, true_implies, false_implies, and_self, List.length_map, List.length_drop]
    have hjm : j = min s.wait.length 8 := by omega
    refine aIf_by (fun h0 => ?_) (fun h0 => ?_)
    · have hw : s.wait = [] := List.eq_nil_of_length_eq_zero (by rw [frames_len] at h0; omega)
      simp only [go_sem, f0, f3, hb, decide_eq_true h0, reduceIte, Nat.reduceEqDiff, Nat.reduceAdd, Nat.reduceMul, Nat.reduceSub, Nat.reduceLT, Nat.reduceLeDiff, Nat.le_refl, Nat.zero_le, Nat.zero_add, Nat.add_zero, Nat.mul_one, splice_zero, Int.toNat_natCast, Int.natCast_nonneg, Int.reduceLE, Int.reduceLT, Int.reduceToNat, Int.reduceEq, Int.cast_ofNat_Int, ne_eq, not_true_eq_false, not_false_eq_true, imp_self, implies_true, true_implies, false_implies, and_self, List.length_map, List.length_drop]
      refine aIf_bool (fun ho => ?_) (fun ho => ?_)
      · simp only [go_sem, f0, f3, hb, reduceIte, Nat.reduceEqDiff, Nat.reduceAdd, Nat.reduceMul, Nat.reduceSub, Nat.reduceLT, Nat.reduceLeDiff, Nat.le_refl, Nat.zero_le, Nat.zero_add, Nat.add_zero, Nat.mul_one, splice_zero, Int.toNat_natCast, Int.natCast_nonneg, Int.reduceLE, Int.reduceLT, Int.reduceToNat, Int.reduceEq, Int.cast_ofNat_Int, ne_eq, not_true_eq_false, not_false_eq_true, imp_self, implies_true, true_implies, false_implies, and_self, List.length_map, List.length_drop]
        have hz : splice (zl2.map AV.v) 1 [int s.came] = int 0 :: int s.came :: int 0 :: int 0 :: str nost :: str nost :: str nost :: .v (.slice none 0 0) :: u8s (List.replicate 32 0) := rfl
        have hz1 := u8s_one (List.replicate 32 0)
        have hze : s.frames j = [] := by unfold Ls.frames; rw [hw]; simp
        rw [hz]
        refine ⟨rfl, by simp only [List.all_cons, hz1]; rfl, aApp_by (ys := [_]) rfl (by decide) (by decide) zl2_one (hL.app (by simp [hze]) fun lv' σ4 hL4 hs4 => ?_)⟩
        have hG4 := hG.step hs4
        have hb4 := hG4.sub _ _ h'
        simp only [go_sem, f0, f3, hb4, reduceIte, Nat.reduceEqDiff, Nat.reduceAdd, Nat.reduceMul, Nat.reduceSub, Nat.reduceLT, Nat.reduceLeDiff, Nat.le_refl, Nat.zero_le, Nat.zero_add, Nat.add_zero, Nat.mul_one, splice_zero, Int.toNat_natCast, Int.natCast_nonneg, Int.reduceLE, Int.reduceLT, Int.reduceToNat, Int.reduceEq, Int.cast_ofNat_Int, ne_eq, not_true_eq_false, not_false_eq_true, imp_self, implies_true, true_implies, false_implies, and_self, List.length_map, List.length_drop]
        have hnb : ∀ x, Own lv' x → x ≠ b := fun x hx e => by subst e; exact hL4.not_own hb4 hx
        have ht : s.tick = ([⟨0, s.came, itm0⟩], { s with owes := false }) := by unfold Ls.tick; rw [if_pos hw, ho]; rfl
        refine aRet_view (r := lv') rfl _ (σ1.set b (lO s.tick.2 m)) (view_of (a' := .sl 40 (s.tick.1.map Frm.cs)) (sv_set set_same (by rw [ht]; exact vws_refl _) fun x p hx hp => by rw [set_ne hx]; exact hG4.sub _ _ hp) ?_) ⟨rfl, rfl⟩
        rw [ht]
        rw [hze] at hL4
        refine (hL4.keep fun x o hx ho => by rw [set_ne (hnb x ho)]; exact hx).vw (fun x hx => by rw [set_ne (hnb x hx)]; exact hG4.own hx) rfl fun i hi => ?_
        obtain rfl : i = 0 := by simp at hi; omega
        exact vws_same (vws_same (vws_same (vws_same (vws_same (vws_same (vws_same (vws_cons (.nil 3) (vws_refl (u8s (List.replicate 32 0))))))))))
      · simp only [go_sem, f0, f3, hb, reduceIte, Nat.reduceEqDiff, Nat.reduceAdd, Nat.reduceMul, Nat.reduceSub, Nat.reduceLT, Nat.reduceLeDiff, Nat.le_refl, Nat.zero_le, Nat.zero_add, Nat.add_zero, Nat.mul_one, splice_zero, Int.toNat_natCast, Int.natCast_nonneg, Int.reduceLE, Int.reduceLT, Int.reduceToNat, Int.reduceEq, Int.cast_ofNat_Int, ne_eq, not_true_eq_false, not_false_eq_true, imp_self, implies_true, true_implies, false_implies, and_self, List.length_map, List.length_drop]
        have hnb : ∀ x, Own lv x → x ≠ b := fun x hx e => by subst e; exact hL.not_own hb hx
        have ht : s.tick = (s.frames j, { s with owes := false }) := by
          have : s.frames j = [] := by unfold Ls.frames; rw [hw]; simp
          unfold Ls.tick; rw [if_pos hw, ho, this]; rfl
        refine aRet_view (r := lv) rfl _ (σ1.set b (lO s.tick.2 m)) (view_of (a' := .sl 40 (s.tick.1.map Frm.cs)) (sv_set set_same (by rw [ht]; exact vws_refl _) fun x p hx hp => by rw [set_ne hx]; exact hG.sub _ _ hp) ?_) ⟨rfl, rfl⟩
        rw [ht]
        exact (hL.keep fun x o hx ho => by rw [set_ne (hnb x ho)]; exact hx).vw_same fun x hx => by rw [set_ne (hnb x hx)]; exact hG.own hx
    · simp only [go_sem, f0, f3, hb, decide_eq_false h0, reduceIte, Nat.reduceEqDiff, Nat.reduceAdd, Nat.reduceMul, Nat.reduceSub, Nat.reduceLT, Nat.reduceLeDiff, Nat.le_refl, Nat.zero_le, Nat.zero_add, Nat.add_zero, Nat.mul_one, splice_zero, Int.toNat_natCast, Int.natCast_nonneg, Int.reduceLE, Int.reduceLT, Int.reduceToNat, Int.reduceEq, Int.cast_ofNat_Int, ne_eq, not_true_eq_false, not_false_eq_true, imp_self, implies_true, true_implies, false_implies, and_self, List.length_map, List.length_drop]
      have hnb : ∀ x, Own lv x → x ≠ b := fun x hx e => by subst e; exact hL.not_own hb hx
      have ht : s.tick = (s.frames j, { s with owes := false }) := by
        have hw : s.wait ≠ [] := fun e => h0 (by rw [frames_len, e]; simp)
        have : s.frames j = s.frames 8 := by
          unfold Ls.frames
          rw [hjm, show s.wait.take (min s.wait.length 8) = s.wait.take 8 by
            rcases Nat.le_total s.wait.length 8 with h | h
            · rw [Nat.min_eq_left h, List.take_of_length_le (Nat.le_refl _), List.take_of_length_le h]
            · rw [Nat.min_eq_right h]]
        unfold Ls.tick; rw [if_neg hw, this]
      refine aRet_view (r := lv) rfl _ (σ1.set b (lO s.tick.2 m)) (view_of (a' := .sl 40 (s.tick.1.map Frm.cs)) (sv_set set_same (by rw [ht]; exact vws_refl _) fun x p hx hp => by rw [set_ne hx]; exact hG.sub _ _ hp) ?_) ⟨rfl, rfl⟩
      rw [ht]
      exact (hL.keep fun x o hx ho => by rw [set_ne (hnb x ho)]; exact hx).vw_same fun x hx => by rw [set_ne (hnb x hx)]; exact hG.own hx
end
end Go.Proofs.Ytpdbmnogfanpmaa
