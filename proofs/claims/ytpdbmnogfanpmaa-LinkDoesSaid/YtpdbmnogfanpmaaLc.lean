/-
  What one end (package link) computes: Hear, Clone.
  Conditions: none.
-/
import Derived.Test.YtpdbmnogfanpmaaLb
set_option linter.unusedVariables false
set_option linter.unusedSimpArgs false
namespace Go.Proofs.Ytpdbmnogfanpmaa
open Go Go.Av

/-! ### What came ahead -/
def eFind (k : Int) : List (Int × Itm) → Option Itm
  | [] => none
  | (j, x) :: l => if k = j then some x else eFind k l
def eDel (k : Int) : List (Int × Itm) → List (Int × Itm)
  | [] => []
  | (j, x) :: l => if k = j then l else (j, x) :: eDel k l
def ePut (k : Int) (y : Itm) : List (Int × Itm) → List (Int × Itm)
  | [] => [(k, y)]
  | (j, x) :: l => if k = j then (k, y) :: l else (j, x) :: ePut k y l
theorem find_er (k : Int) : ∀ l, mFind (.int .i64 k) (erC l) = (eFind k l).map fun x => .agg x.cs
  | [] => rfl
  | (j, x) :: l => by
    have := find_er k l
    simp only [erC] at this
    simp only [erC, List.map_cons, mFind, keyEq, eFind, decide_eq_true_eq]
    split
    · rfl
    · exact this
theorem del_er (k : Int) : ∀ l, mDel (.int .i64 k) (erC l) = erC (eDel k l)
  | [] => rfl
  | (j, x) :: l => by
    have := del_er k l
    simp only [erC] at this
    simp only [erC, List.map_cons, mDel, keyEq, eDel, decide_eq_true_eq]
    split
    · rfl
    · simp only [List.map_cons, this]
theorem put_er (k : Int) (y : Itm) : ∀ l, mPut (.int .i64 k) (.agg y.cs) (erC l) = erC (ePut k y l)
  | [] => rfl
  | (j, x) :: l => by
    have := put_er k y l
    simp only [erC] at this
    simp only [erC, List.map_cons, mPut, keyEq, ePut, decide_eq_true_eq]
    split
    · rfl
    · simp only [List.map_cons, this]
theorem key_er (l : List (Int × Itm)) : ∀ p ∈ erC l, keyOk (.int .i64) p.1 = true := fun p hp => by
  obtain ⟨q, _, rfl⟩ := List.mem_map.1 hp
  rfl
theorem eDel_length {k : Int} : ∀ {l : List (Int × Itm)} {x : Itm}, eFind k l = some x → (eDel k l).length + 1 = l.length
  | (j, y) :: l, x, h => by
    simp only [eFind] at h
    simp only [eDel]
    split at h
    · rename_i hk; rw [if_pos hk]; rfl
    · rename_i hk; rw [if_neg hk]; simp [eDel_length h]

/-- What is told, one behind the other. -/
def tell : Nat → Int → List (Int × Itm) → List Itm × Int × List (Int × Itm)
  | 0, c, e => ([], c, e)
  | n + 1, c, e => match eFind (c + 1) e with
    | none => ([], c, e)
    | some x => (x :: (tell n (c + 1) (eDel (c + 1) e)).1, (tell n (c + 1) (eDel (c + 1) e)).2)
def Ls.ackd (s : Ls) (a : Int) : Ls := if s.gone < a then { s with wait := s.wait.drop (a - s.gone).toNat, gone := a } else s
def Ls.kept (s : Ls) (f : Frm) : List (Int × Itm) := if eFind f.seq s.early = none ∧ s.came < f.seq ∧ f.seq - s.came ≤ 8 then ePut f.seq f.it s.early else s.early
def Ls.hear (s : Ls) (f : Frm) : (List Itm × Int) × Ls :=
  if f.seq < 0 ∨ f.ack < 0 ∨ s.gone + s.wait.length < f.ack then (([], 220), s)
  else if 0 < f.seq ∧ ¬ (1 ≤ f.it.kind ∧ f.it.kind ≤ 4) then (([], 2), s)
  else if f.seq = 0 then (([], 0), s.ackd f.ack)
  else
    let r := tell (s.kept f).length s.came (s.kept f)
    ((r.1, 0), { s.ackd f.ack with owes := true, came := r.2.1, early := r.2.2 })

section
variable {σ : St} {b m : Nat} {s : Ls}
set_option maxRecDepth 100000

theorem Frm.at0 (f : Frm) : f.cs.getD 0 (.v undef) = int f.seq := rfl
theorem Frm.at1 (f : Frm) : f.cs.getD 1 (.v undef) = int f.ack := rfl
theorem Frm.dr1 (f : Frm) : (f.cs.drop 1).getD 0 (.v undef) = int f.ack := rfl
theorem Frm.dr21 (f : Frm) : ((f.cs.drop 2).drop 1).getD 0 (.v undef) = int f.it.ep := rfl
theorem Frm.at2 (f : Frm) : (f.cs.drop 2).take 38 = f.it.cs := f.it.take
theorem Frm.take (f : Frm) : f.cs.take 40 = f.cs := List.take_of_length_le (by rw [f.len]; exact Nat.le_refl _)

theorem sv_link {σ' : St} (hb : σ' b = some (lO s m)) (hm : σ' m = some (.map (erC s.early))) (hr : ∀ x p, x ≠ b → x ≠ m → σ x = some p → σ' x = some p) : SV σ' ((σ.set b (lO s m)).set m (.map (erC s.early))) :=
  sv_of fun x p hx => .inl (by
    by_cases h1 : x = m
    · subst h1; rw [set_same] at hx; rw [hm]; exact hx
    · rw [set_ne h1] at hx
      by_cases h2 : x = b
      · subst h2; rw [set_same] at hx; rw [hb]; exact hx
      · rw [set_ne h2] at hx; exact hr x p h2 h1 hx)
theorem look_er (l : List (Int × Itm)) (k : Int) : ∃ vs is, vs.length = 38 ∧ vs.all AV.one = true ∧ (is = true → ∃ x, eFind k l = some x ∧ vs = x.cs) ∧ (is = false → eFind k l = none) ∧ ∀ z, z = .agg (zl1.map .v) → ∀ K : AV → Prop, K (.tup [.agg vs, boo is]) → aLookIn (.int .i64) z (some (.map (erC l))) (.int .i64 k) true K := by
  cases h : eFind k l with
  | none => exact ⟨zl1.map .v, false, rfl, rfl, (fun h => by cases h), (fun _ => rfl), fun z hz K hk => lookIn_none (by rw [find_er, h]; rfl) rfl (key_er l) (by rw [hz]; exact hk)⟩
  | some x => exact ⟨x.cs, true, x.len, x.one, (fun _ => ⟨x, rfl, rfl⟩), (fun h => by cases h), fun z hz K hk => lookIn_some (by rw [find_er, h]; rfl) rfl (key_er l) hk⟩

theorem hear_at (h : LAt' σ b m s) (f : Frm) (hq : f.seq ≤ 9223372036854775807) (hx : f.it.args.length ≤ 4398046510976) (hg : 0 ≤ s.gone ∧ s.gone ≤ 1000000000) (hc : 0 ≤ s.came ∧ s.came ≤ 1000000000) (hl : s.wait.length ≤ 1024) (he : s.early.length ≤ 1000000000) :
    AT Try.prog 12 [ptr b, .agg f.cs] σ fun r σ' => r = .tup [.sl 38 ((s.hear f).1.1.map Itm.cs), int (s.hear f).1.2] ∧ σ' = (σ.set b (lO (s.hear f).2 m)).set m (.map (erC (s.hear f).2.early)) := by
  refine AT.of_body Try.func12 rfl (by decide) (by kernel_rfl) (by kernel_rfl) (Nat.le_of_ble_eq_true rfl) ?_
  obtain ⟨ho, her⟩ := h
  have hbm : b ≠ m := fun e => by subst e; rw [ho] at her; cases her
  have hid : (σ.set b (lO s m)).set m (.map (erC s.early)) = σ := by rw [set_id ho, set_id her]
  simp only [go_sem, f.one, reduceIte, Nat.reduceEqDiff, Nat.reduceAdd, Nat.reduceMul, Nat.reduceSub, Nat.reduceLT, Nat.reduceLeDiff, Nat.le_refl, Nat.zero_le, Nat.zero_add, Nat.add_zero, Nat.mul_one, splice_zero, Int.toNat_natCast, Int.natCast_nonneg, Int.reduceLE, Int.reduceLT, Int.reduceToNat, Int.reduceEq, Int.cast_ofNat_Int, ne_eq, not_true_eq_false, not_false_eq_true, imp_self, implies_true, true_implies, false_implies, and_self, List.length_map, List.length_drop]
  refine aNew_intro fun c hc' hcm => ?_
  have hbc : b ≠ c := hcm _ _ ho
  have hmc : m ≠ c := hcm _ _ her
  obtain ⟨σ1, hs⟩ : ∃ σ1, σ1 = σ.set c (.cells f.cs) := ⟨_, rfl⟩
  have hsub : ∀ x p, σ x = some p → σ1 x = some p := by rw [hs]; exact set_sub hc' fun _ _ h => h
  have h1 := hsub _ _ ho
  have h2 := hsub _ _ her
  have h3 : σ1 c = some (.cells f.cs) := by rw [hs, set_same]
  rw [← hs]
  have bad : (f.seq < 0 ∨ f.ack < 0 ∨ s.gone + s.wait.length < f.ack) → s.hear f = (([], 220), s) := fun h => by unfold Ls.hear; rw [if_pos h]
  have bye : ∀ e : Int, s.hear f = (([], e), s) → View σ1 (.tup [.v (.slice none 0 0), int e]) σ (.tup [.sl 38 [], int e]) ∧ (AV.tup [.sl 38 [], int e] = .tup [.sl 38 ((s.hear f).1.1.map Itm.cs), int (s.hear f).1.2] ∧ σ = (σ.set b (lO (s.hear f).2 m)).set m (.map (erC (s.hear f).2.early))) := fun e h =>
    ⟨view_of (sv_of fun x o hx => .inl (hsub _ _ hx)) (.tup _ _ rfl (vws_cons (.nil 38) (vws_refl _)).2), by rw [h]; rfl, by rw [h]; exact hid.symm⟩
  refine aMeet (fun fr σ' => fr 0 = ptr b ∧ fr 3 = ptr c ∧ σ' = σ1 ∧ ¬ (f.seq < 0 ∨ f.ack < 0 ∨ s.gone + s.wait.length < f.ack) ∧ ¬ (0 < f.seq ∧ ¬ (1 ≤ f.it.kind ∧ f.it.kind ≤ 4))) ?_ ?_
  · simp only [go_sem, r_block, reduceIte, Nat.reduceEqDiff, Nat.reduceAdd, Nat.reduceMul, Nat.reduceSub, Nat.reduceLT, Nat.reduceLeDiff, Nat.le_refl, Nat.zero_le, Nat.zero_add, Nat.add_zero, Nat.mul_one, splice_zero, Int.toNat_natCast, Int.natCast_nonneg, Int.reduceLE, Int.reduceLT, Int.reduceToNat, Int.reduceEq, Int.cast_ofNat_Int, ne_eq, not_true_eq_false, not_false_eq_true, imp_self, implies_true, true_implies, false_implies, and_self, List.length_map, List.length_drop]
    refine (none_at h1).mono ?_
    rintro _ _ ⟨rfl, rfl⟩
    simp only [go_sem, r_block, h3, reduceIte, Nat.reduceEqDiff, Nat.reduceAdd, Nat.reduceMul, Nat.reduceSub, Nat.reduceLT, Nat.reduceLeDiff, Nat.le_refl, Nat.zero_le, Nat.zero_add, Nat.add_zero, Nat.mul_one, splice_zero, Int.toNat_natCast, Int.natCast_nonneg, Int.reduceLE, Int.reduceLT, Int.reduceToNat, Int.reduceEq, Int.cast_ofNat_Int, ne_eq, not_true_eq_false, not_false_eq_true, imp_self, implies_true, true_implies, false_implies, and_self, List.length_map, List.length_drop]
    refine aDraw_plan [.rd 0 false, .rd 1 true, .rd 2 false, .rd 3 false, .rd 4 false, .rd 5 true, .rd 6 false, .rd 7 false, .rd 8 false, .rd 9 false, .rd 10 true, .rd 11 false, .ef 12 [10], .rd 13 false, .rd 14 false, .rd 15 false] (by kernel_rfl) (by kernel_rfl) (by kernel_rfl) ?_
    simp only [go_sem, r_block, h3, f.len, f.at0, f.at1, reduceIte, Nat.reduceEqDiff, Nat.reduceAdd, Nat.reduceMul, Nat.reduceSub, Nat.reduceLT, Nat.reduceLeDiff, Nat.le_refl, Nat.zero_le, Nat.zero_add, Nat.add_zero, Nat.mul_one, splice_zero, Int.toNat_natCast, Int.natCast_nonneg, Int.reduceLE, Int.reduceLT, Int.reduceToNat, Int.reduceEq, Int.cast_ofNat_Int, ne_eq, not_true_eq_false, not_false_eq_true, imp_self, implies_true, true_implies, false_implies, and_self, List.length_map, List.length_drop]
    refine aIf_by (fun k0 => ?_) (fun k0 => ?_)
    · simp only [go_sem, r_block, h3, decide_eq_true k0, reduceIte, Nat.reduceEqDiff, Nat.reduceAdd, Nat.reduceMul, Nat.reduceSub, Nat.reduceLT, Nat.reduceLeDiff, Nat.le_refl, Nat.zero_le, Nat.zero_add, Nat.add_zero, Nat.mul_one, splice_zero, Int.toNat_natCast, Int.natCast_nonneg, Int.reduceLE, Int.reduceLT, Int.reduceToNat, Int.reduceEq, Int.cast_ofNat_Int, ne_eq, not_true_eq_false, not_false_eq_true, imp_self, implies_true, true_implies, false_implies, and_self, List.length_map, List.length_drop]
      exact aRet_view (r := .tup [.v (.slice none 0 0), int 220]) rfl _ σ (bye 220 (bad (.inl k0))).1 (bye 220 (bad (.inl k0))).2
    simp only [go_sem, r_block, h3, decide_eq_false k0, f.len, f.at0, f.at1, reduceIte, Nat.reduceEqDiff, Nat.reduceAdd, Nat.reduceMul, Nat.reduceSub, Nat.reduceLT, Nat.reduceLeDiff, Nat.le_refl, Nat.zero_le, Nat.zero_add, Nat.add_zero, Nat.mul_one, splice_zero, Int.toNat_natCast, Int.natCast_nonneg, Int.reduceLE, Int.reduceLT, Int.reduceToNat, Int.reduceEq, Int.cast_ofNat_Int, ne_eq, not_true_eq_false, not_false_eq_true, imp_self, implies_true, true_implies, false_implies, and_self, List.length_map, List.length_drop]
    refine aIf_by (fun k1 => ?_) (fun k1 => ?_)
    · simp only [go_sem, r_block, h3, decide_eq_true k1, reduceIte, Nat.reduceEqDiff, Nat.reduceAdd, Nat.reduceMul, Nat.reduceSub, Nat.reduceLT, Nat.reduceLeDiff, Nat.le_refl, Nat.zero_le, Nat.zero_add, Nat.add_zero, Nat.mul_one, splice_zero, Int.toNat_natCast, Int.natCast_nonneg, Int.reduceLE, Int.reduceLT, Int.reduceToNat, Int.reduceEq, Int.cast_ofNat_Int, ne_eq, not_true_eq_false, not_false_eq_true, imp_self, implies_true, true_implies, false_implies, and_self, List.length_map, List.length_drop]
      exact aRet_view (r := .tup [.v (.slice none 0 0), int 220]) rfl _ σ (bye 220 (bad (.inr (.inl k1)))).1 (bye 220 (bad (.inr (.inl k1)))).2
    simp only [go_sem, r_block, h3, decide_eq_false k1, f.len, f.at0, f.at1, reduceIte, Nat.reduceEqDiff, Nat.reduceAdd, Nat.reduceMul, Nat.reduceSub, Nat.reduceLT, Nat.reduceLeDiff, Nat.le_refl, Nat.zero_le, Nat.zero_add, Nat.add_zero, Nat.mul_one, splice_zero, Int.toNat_natCast, Int.natCast_nonneg, Int.reduceLE, Int.reduceLT, Int.reduceToNat, Int.reduceEq, Int.cast_ofNat_Int, ne_eq, not_true_eq_false, not_false_eq_true, imp_self, implies_true, true_implies, false_implies, and_self, List.length_map, List.length_drop]
    refine (pushed_at h1).mono ?_
    rintro _ _ ⟨rfl, rfl⟩
    simp only [go_sem, r_block, h3, f.len, f.at0, f.at1, reduceIte, Nat.reduceEqDiff, Nat.reduceAdd, Nat.reduceMul, Nat.reduceSub, Nat.reduceLT, Nat.reduceLeDiff, Nat.le_refl, Nat.zero_le, Nat.zero_add, Nat.add_zero, Nat.mul_one, splice_zero, Int.toNat_natCast, Int.natCast_nonneg, Int.reduceLE, Int.reduceLT, Int.reduceToNat, Int.reduceEq, Int.cast_ofNat_Int, ne_eq, not_true_eq_false, not_false_eq_true, imp_self, implies_true, true_implies, false_implies, and_self, List.length_map, List.length_drop]
    rw [wrap64 (by omega)]
    refine aIf_by (fun k2 => ?_) (fun k2 => ?_)
    · simp only [go_sem, r_block, reduceIte, Nat.reduceEqDiff, Nat.reduceAdd, Nat.reduceMul, Nat.reduceSub, Nat.reduceLT, Nat.reduceLeDiff, Nat.le_refl, Nat.zero_le, Nat.zero_add, Nat.add_zero, Nat.mul_one, splice_zero, Int.toNat_natCast, Int.natCast_nonneg, Int.reduceLE, Int.reduceLT, Int.reduceToNat, Int.reduceEq, Int.cast_ofNat_Int, ne_eq, not_true_eq_false, not_false_eq_true, imp_self, implies_true, true_implies, false_implies, and_self, List.length_map, List.length_drop]
      exact aRet_view (r := .tup [.v (.slice none 0 0), int 220]) rfl _ σ (bye 220 (bad (.inr (.inr k2)))).1 (bye 220 (bad (.inr (.inr k2)))).2
    have ok1 : ¬ (f.seq < 0 ∨ f.ack < 0 ∨ s.gone + s.wait.length < f.ack) := by omega
    simp only [go_sem, r_block, h3, f.len, f.at0, f.at1, f.at2, Itm.len, reduceIte, Nat.reduceEqDiff, Nat.reduceAdd, Nat.reduceMul, Nat.reduceSub, Nat.reduceLT, Nat.reduceLeDiff, Nat.le_refl, Nat.zero_le, Nat.zero_add, Nat.add_zero, Nat.mul_one, splice_zero, Int.toNat_natCast, Int.natCast_nonneg, Int.reduceLE, Int.reduceLT, Int.reduceToNat, Int.reduceEq, Int.cast_ofNat_Int, ne_eq, not_true_eq_false, not_false_eq_true, imp_self, implies_true, true_implies, false_implies, and_self, List.length_map, List.length_drop]
    refine aIf_by (fun k3 => ?_) (fun k3 => ?_)
    · simp only [go_sem, r_block, h3, f.len, f.at0, f.at1, f.at2, Itm.len, decide_eq_true k3, reduceIte, Nat.reduceEqDiff, Nat.reduceAdd, Nat.reduceMul, Nat.reduceSub, Nat.reduceLT, Nat.reduceLeDiff, Nat.le_refl, Nat.zero_le, Nat.zero_add, Nat.add_zero, Nat.mul_one, splice_zero, Int.toNat_natCast, Int.natCast_nonneg, Int.reduceLE, Int.reduceLT, Int.reduceToNat, Int.reduceEq, Int.cast_ofNat_Int, ne_eq, not_true_eq_false, not_false_eq_true, imp_self, implies_true, true_implies, false_implies, and_self, List.length_map, List.length_drop]
      refine (kind_at f.it).mono ?_
      rintro _ _ ⟨rfl, rfl⟩
      simp only [go_sem, r_block, h3, f.len, f.at0, f.at1, f.at2, Itm.len, decide_eq_true k3, reduceIte, Nat.reduceEqDiff, Nat.reduceAdd, Nat.reduceMul, Nat.reduceSub, Nat.reduceLT, Nat.reduceLeDiff, Nat.le_refl, Nat.zero_le, Nat.zero_add, Nat.add_zero, Nat.mul_one, splice_zero, Int.toNat_natCast, Int.natCast_nonneg, Int.reduceLE, Int.reduceLT, Int.reduceToNat, Int.reduceEq, Int.cast_ofNat_Int, ne_eq, not_true_eq_false, not_false_eq_true, imp_self, implies_true, true_implies, false_implies, and_self, List.length_map, List.length_drop]
      refine aIf_by (fun k4 => ?_) (fun k4 => ?_)
      · simp only [go_sem, r_block, reduceIte, Nat.reduceEqDiff, Nat.reduceAdd, Nat.reduceMul, Nat.reduceSub, Nat.reduceLT, Nat.reduceLeDiff, Nat.le_refl, Nat.zero_le, Nat.zero_add, Nat.add_zero, Nat.mul_one, splice_zero, Int.toNat_natCast, Int.natCast_nonneg, Int.reduceLE, Int.reduceLT, Int.reduceToNat, Int.reduceEq, Int.cast_ofNat_Int, ne_eq, not_true_eq_false, not_false_eq_true, imp_self, implies_true, true_implies, false_implies, and_self, List.length_map, List.length_drop]
        exact ⟨ok1, fun h => h.2 k4⟩
      · simp only [go_sem, r_block, reduceIte, Nat.reduceEqDiff, Nat.reduceAdd, Nat.reduceMul, Nat.reduceSub, Nat.reduceLT, Nat.reduceLeDiff, Nat.le_refl, Nat.zero_le, Nat.zero_add, Nat.add_zero, Nat.mul_one, splice_zero, Int.toNat_natCast, Int.natCast_nonneg, Int.reduceLE, Int.reduceLT, Int.reduceToNat, Int.reduceEq, Int.cast_ofNat_Int, ne_eq, not_true_eq_false, not_false_eq_true, imp_self, implies_true, true_implies, false_implies, and_self, List.length_map, List.length_drop]
        have h2' : s.hear f = (([], 2), s) := by unfold Ls.hear; rw [if_neg ok1, if_pos ⟨k3, k4⟩]
        exact aRet_view (r := .tup [.v (.slice none 0 0), int 2]) rfl _ σ (bye 2 h2').1 (bye 2 h2').2
    · simp only [go_sem, r_block, decide_eq_false k3, reduceIte, Nat.reduceEqDiff, Nat.reduceAdd, Nat.reduceMul, Nat.reduceSub, Nat.reduceLT, Nat.reduceLeDiff, Nat.le_refl, Nat.zero_le, Nat.zero_add, Nat.add_zero, Nat.mul_one, splice_zero, Int.toNat_natCast, Int.natCast_nonneg, Int.reduceLE, Int.reduceLT, Int.reduceToNat, Int.reduceEq, Int.cast_ofNat_Int, ne_eq, not_true_eq_false, not_false_eq_true, imp_self, implies_true, true_implies, false_implies, and_self, List.length_map, List.length_drop]
      exact ⟨ok1, fun h => k3 h.1⟩
  rintro fr σ1 ⟨f0, f3, rfl, ok1, ok2⟩
  clear bad bye
  simp only [go_sem, r_block, reduceIte, Nat.reduceEqDiff, Nat.reduceAdd, Nat.reduceMul, Nat.reduceSub, Nat.reduceLT, Nat.reduceLeDiff, Nat.le_refl, Nat.zero_le, Nat.zero_add, Nat.add_zero, Nat.mul_one, splice_zero, Int.toNat_natCast, Int.natCast_nonneg, Int.reduceLE, Int.reduceLT, Int.reduceToNat, Int.reduceEq, Int.cast_ofNat_Int, ne_eq, not_true_eq_false, not_false_eq_true, imp_self, implies_true, true_implies, false_implies, and_self, List.length_map, List.length_drop]
  refine aDraw_plan [.rd 0 false, .rd 1 true, .rd 2 false, .rd 3 false, .rd 4 false, .rd 5 true, .rd 6 false] (by kernel_rfl) (by kernel_rfl) (by kernel_rfl) ?_
  have h1' := h1
  unfold lO at h1'
  simp only [go_sem, r_block, f0, f3, h3, h1', f.len, f.at1, reduceIte, Nat.reduceEqDiff, Nat.reduceAdd, Nat.reduceMul, Nat.reduceSub, Nat.reduceLT, Nat.reduceLeDiff, Nat.le_refl, Nat.zero_le, Nat.zero_add, Nat.add_zero, Nat.mul_one, splice_zero, Int.toNat_natCast, Int.natCast_nonneg, Int.reduceLE, Int.reduceLT, Int.reduceToNat, Int.reduceEq, Int.cast_ofNat_Int, ne_eq, not_true_eq_false, not_false_eq_true, imp_self, implies_true, true_implies, false_implies, and_self, List.length_map, List.length_drop]
  refine aIf_meet (fun fr σ' => fr 0 = ptr b ∧ fr 3 = ptr c ∧ σ' = σ1.set b (lO (s.ackd f.ack) m)) (fun k0 => ?_) (fun k0 => ?_) ?_
  · simp only [go_sem, r_block, f0, f3, reduceIte, Nat.reduceEqDiff, Nat.reduceAdd, Nat.reduceMul, Nat.reduceSub, Nat.reduceLT, Nat.reduceLeDiff, Nat.le_refl, Nat.zero_le, Nat.zero_add, Nat.add_zero, Nat.mul_one, splice_zero, Int.toNat_natCast, Int.natCast_nonneg, Int.reduceLE, Int.reduceLT, Int.reduceToNat, Int.reduceEq, Int.cast_ofNat_Int, ne_eq, not_true_eq_false, not_false_eq_true, imp_self, implies_true, true_implies, false_implies, and_self, List.length_map, List.length_drop]
    refine aDraw_plan [.rd 0 false, .rd 1 false, .rd 2 false, .rd 3 false, .rd 4 true, .rd 5 false, .rd 6 true, .rd 7 false, .rd 8 false, .rd 9 false, .rd 10 true, .rd 11 false, .rd 12 true, .rd 13 false, .rd 14 false, .ef 15 []] (by kernel_rfl) (by kernel_rfl) (by kernel_rfl) ?_
    simp only [go_sem, r_block, f0, f3, h3, h1', f.len, f.at1, reduceIte, Nat.reduceEqDiff, Nat.reduceAdd, Nat.reduceMul, Nat.reduceSub, Nat.reduceLT, Nat.reduceLeDiff, Nat.le_refl, Nat.zero_le, Nat.zero_add, Nat.add_zero, Nat.mul_one, splice_zero, Int.toNat_natCast, Int.natCast_nonneg, Int.reduceLE, Int.reduceLT, Int.reduceToNat, Int.reduceEq, Int.cast_ofNat_Int, ne_eq, not_true_eq_false, not_false_eq_true, imp_self, implies_true, true_implies, false_implies, and_self, List.length_map, List.length_drop]
    rw [wrap64 (by omega)]
    refine sli_from (by omega) (by simp; omega) ?_
    simp only [go_sem, r_block, f0, f3, h3, h1', f.len, f.at1, set_same, set_ne hbc, set_ne hbc.symm, reduceIte, Nat.reduceEqDiff, Nat.reduceAdd, Nat.reduceMul, Nat.reduceSub, Nat.reduceLT, Nat.reduceLeDiff, Nat.le_refl, Nat.zero_le, Nat.zero_add, Nat.add_zero, Nat.mul_one, splice_zero, Int.toNat_natCast, Int.natCast_nonneg, Int.reduceLE, Int.reduceLT, Int.reduceToNat, Int.reduceEq, Int.cast_ofNat_Int, ne_eq, not_true_eq_false, not_false_eq_true, imp_self, implies_true, true_implies, false_implies, and_self, List.length_map, List.length_drop]
    unfold Ls.ackd lO
    rw [if_pos k0, List.map_drop]
  · simp only [go_sem, r_block, f0, f3, reduceIte, Nat.reduceEqDiff, Nat.reduceAdd, Nat.reduceMul, Nat.reduceSub, Nat.reduceLT, Nat.reduceLeDiff, Nat.le_refl, Nat.zero_le, Nat.zero_add, Nat.add_zero, Nat.mul_one, splice_zero, Int.toNat_natCast, Int.natCast_nonneg, Int.reduceLE, Int.reduceLT, Int.reduceToNat, Int.reduceEq, Int.cast_ofNat_Int, ne_eq, not_true_eq_false, not_false_eq_true, imp_self, implies_true, true_implies, false_implies, and_self, List.length_map, List.length_drop]
    unfold Ls.ackd
    rw [if_neg k0, set_id h1]
  rintro fr _ ⟨f0, f3, rfl⟩
  have hack : (s.ackd f.ack).came = s.came ∧ (s.ackd f.ack).early = s.early ∧ (s.ackd f.ack).owes = s.owes := by unfold Ls.ackd; split <;> exact ⟨rfl, rfl, rfl⟩
  obtain ⟨s1, hs1⟩ : ∃ s1, s1 = s.ackd f.ack := ⟨_, rfl⟩
  rw [← hs1] at hack ⊢
  have g1 : (σ1.set b (lO s1 m)) b = some (lO s1 m) := set_same
  have g2 : (σ1.set b (lO s1 m)) m = some (.map (erC s.early)) := by rw [set_ne hbm.symm]; exact h2
  have g3 : (σ1.set b (lO s1 m)) c = some (.cells f.cs) := by rw [set_ne hbc.symm]; exact h3
  have gsub : ∀ x p, x ≠ b → σ x = some p → (σ1.set b (lO s1 m)) x = some p := fun x p hx hp => by rw [set_ne hx]; exact hsub _ _ hp
  clear h3 h1' hid
  revert g1 g2 g3 gsub
  generalize σ1.set b (lO s1 m) = σ2
  intro g1 g2 g3 gsub
  have g1' := g1
  unfold lO at g1'
  simp only [go_sem, r_block, f0, f3, g3, g1', f.len, f.at0, reduceIte, Nat.reduceEqDiff, Nat.reduceAdd, Nat.reduceMul, Nat.reduceSub, Nat.reduceLT, Nat.reduceLeDiff, Nat.le_refl, Nat.zero_le, Nat.zero_add, Nat.add_zero, Nat.mul_one, splice_zero, Int.toNat_natCast, Int.natCast_nonneg, Int.reduceLE, Int.reduceLT, Int.reduceToNat, Int.reduceEq, Int.cast_ofNat_Int, ne_eq, not_true_eq_false, not_false_eq_true, imp_self, implies_true, true_implies, false_implies, and_self, List.length_map, List.length_drop]
  refine aIf_by (fun k1 => ?_) (fun k1 => ?_)
  · simp only [go_sem, r_block, f0, f3, reduceIte, Nat.reduceEqDiff, Nat.reduceAdd, Nat.reduceMul, Nat.reduceSub, Nat.reduceLT, Nat.reduceLeDiff, Nat.le_refl, Nat.zero_le, Nat.zero_add, Nat.add_zero, Nat.mul_one, splice_zero, Int.toNat_natCast, Int.natCast_nonneg, Int.reduceLE, Int.reduceLT, Int.reduceToNat, Int.reduceEq, Int.cast_ofNat_Int, ne_eq, not_true_eq_false, not_false_eq_true, imp_self, implies_true, true_implies, false_implies, and_self, List.length_map, List.length_drop]
    have hh : s.hear f = (([], 0), s1) := by unfold Ls.hear; rw [if_neg ok1, if_neg ok2, if_pos k1, hs1]
    refine aRet_view (r := .tup [.v (.slice none 0 0), int 0]) rfl _ _ (view_of (a' := .tup [.sl 38 [], int 0]) (sv_link (s := s1) g1 (by rw [hack.2.1]; exact g2) fun x p h1 h2 hx => gsub x p h1 hx) (.tup _ _ rfl (vws_cons (.nil 38) (vws_refl _)).2)) (by rw [hh]; exact ⟨rfl, rfl⟩)
  simp only [go_sem, r_block, f0, f3, g1', reduceIte, Nat.reduceEqDiff, Nat.reduceAdd, Nat.reduceMul, Nat.reduceSub, Nat.reduceLT, Nat.reduceLeDiff, Nat.le_refl, Nat.zero_le, Nat.zero_add, Nat.add_zero, Nat.mul_one, splice_zero, Int.toNat_natCast, Int.natCast_nonneg, Int.reduceLE, Int.reduceLT, Int.reduceToNat, Int.reduceEq, Int.cast_ofNat_Int, ne_eq, not_true_eq_false, not_false_eq_true, imp_self, implies_true, true_implies, false_implies, and_self, List.length_map, List.length_drop]
  have g4 : (σ2.set b (lO { s1 with owes := true } m)) b = some (lO { s1 with owes := true } m) := set_same
  have g5 : (σ2.set b (lO { s1 with owes := true } m)) m = some (.map (erC s.early)) := by rw [set_ne hbm.symm]; exact g2
  have g6 : (σ2.set b (lO { s1 with owes := true } m)) c = some (.cells f.cs) := by rw [set_ne hbc.symm]; exact g3
  have gsub2 : ∀ x p, x ≠ b → σ x = some p → (σ2.set b (lO { s1 with owes := true } m)) x = some p := fun x p hx hp => by rw [set_ne hx]; exact gsub _ _ hx hp
  clear g1 g2 g3 g1' gsub
  revert g4 g5 g6 gsub2
  rw [show (AObj.cells [AV.sl 38 (s1.wait.map Itm.cs), int s1.gone, int s1.came, mapp m, .v (.bool true), boo true]) = lO { s1 with owes := true } m from rfl]
  generalize σ2.set b (lO { s1 with owes := true } m) = σ3
  intro g4 g5 g6 gsub2
  have g4' := g4
  unfold lO at g4'
  refine aDraw_plan [.rd 0 false, .rd 1 false, .rd 2 false, .rd 3 true, .rd 4 false, .rd 5 true, .rd 6 true, .rd 7 false, .rd 8 false, .rd 9 false, .ef 10 [3, 5, 6], .ef 11 [], .rd 12 false] (by kernel_rfl) (by kernel_rfl) (by kernel_rfl) ?_
  simp only [go_sem, r_block, f0, f3, g4', g5, g6, f.len, f.at0, reduceIte, Nat.reduceEqDiff, Nat.reduceAdd, Nat.reduceMul, Nat.reduceSub, Nat.reduceLT, Nat.reduceLeDiff, Nat.le_refl, Nat.zero_le, Nat.zero_add, Nat.add_zero, Nat.mul_one, splice_zero, Int.toNat_natCast, Int.natCast_nonneg, Int.reduceLE, Int.reduceLT, Int.reduceToNat, Int.reduceEq, Int.cast_ofNat_Int, ne_eq, not_true_eq_false, not_false_eq_true, imp_self, implies_true, true_implies, false_implies, and_self, List.length_map, List.length_drop]
  obtain ⟨vs, is, v1, v2, v3, v4, vl⟩ := look_er s.early f.seq
  refine vl _ rfl _ ?_
  simp only [go_sem, r_block, f0, f3, g4', g5, g6, f.len, f.at0, reduceIte, Nat.reduceEqDiff, Nat.reduceAdd, Nat.reduceMul, Nat.reduceSub, Nat.reduceLT, Nat.reduceLeDiff, Nat.le_refl, Nat.zero_le, Nat.zero_add, Nat.add_zero, Nat.mul_one, splice_zero, Int.toNat_natCast, Int.natCast_nonneg, Int.reduceLE, Int.reduceLT, Int.reduceToNat, Int.reduceEq, Int.cast_ofNat_Int, ne_eq, not_true_eq_false, not_false_eq_true, imp_self, implies_true, true_implies, false_implies, and_self, List.length_map, List.length_drop]
  refine aNew_intro fun e he' hec => ?_
  have hbe : b ≠ e := hec _ _ g4
  have hme : m ≠ e := hec _ _ g5
  have hce : c ≠ e := hec _ _ g6
  simp only [go_sem, r_block, f0, f3, set_same, set_ne hbe, set_ne hme, set_ne hce, g4', g5, g6, f.len, f.at0, v1, v2, zl1_len, zl1_drop, reduceIte, Nat.reduceEqDiff, Nat.reduceAdd, Nat.reduceMul, Nat.reduceSub, Nat.reduceLT, Nat.reduceLeDiff, Nat.le_refl, Nat.zero_le, Nat.zero_add, Nat.add_zero, Nat.mul_one, splice_zero, Int.toNat_natCast, Int.natCast_nonneg, Int.reduceLE, Int.reduceLT, Int.reduceToNat, Int.reduceEq, Int.cast_ofNat_Int, ne_eq, not_true_eq_false, not_false_eq_true, imp_self, implies_true, true_implies, false_implies, and_self, List.length_map, List.length_drop]
  refine ⟨fun k hk => vl _ rfl _ hk, ?_⟩
  have q4 := set_sub (o := .cells vs) he' (fun _ _ h => h) _ _ g4
  have q5 := set_sub (o := .cells vs) he' (fun _ _ h => h) _ _ g5
  have q6 := set_sub (o := .cells vs) he' (fun _ _ h => h) _ _ g6
  have qsub : ∀ x p, x ≠ b → σ x = some p → (σ3.set e (.cells vs)) x = some p := fun x p hx hp => set_sub he' (fun _ _ h => h) _ _ (gsub2 x p hx hp)
  revert q4 q5 q6 qsub
  generalize σ3.set e (.cells vs) = σ4
  intro q4 q5 q6 qsub
  have q4' := q4
  unfold lO at q4'
  refine aDraw_meet (fun fr σ' => fr 0 = ptr b ∧ fr 3 = ptr c ∧ σ' b = some (lO { s1 with owes := true } m) ∧ σ' m = some (.map (erC (s.kept f))) ∧ ∀ x p, x ≠ b → x ≠ m → σ x = some p → σ' x = some p) ?_ ?_
  · refine aDraw_plan [.rd 0 false, .rd 1 false, .rd 2 false, .rd 3 false, .rd 4 true, .rd 5 false, .rd 6 false, .rd 7 false, .rd 8 true, .rd 9 false, .rd 10 false, .rd 11 false, .rd 12 false, .rd 13 true, .rd 14 false, .rd 15 false, .rd 16 false, .rd 17 true, .rd 18 false, .rd 19 false, .rd 20 false] (by kernel_rfl) (by kernel_rfl) (by kernel_rfl) ?_
    have no : ¬ (eFind f.seq s.early = none ∧ s.came < f.seq ∧ f.seq - s.came ≤ 8) → s.kept f = s.early := fun h => by unfold Ls.kept; rw [if_neg h]
    simp only [go_sem, r_block, f0, f3, q4', q6, f.len, f.at0, reduceIte, Nat.reduceEqDiff, Nat.reduceAdd, Nat.reduceMul, Nat.reduceSub, Nat.reduceLT, Nat.reduceLeDiff, Nat.le_refl, Nat.zero_le, Nat.zero_add, Nat.add_zero, Nat.mul_one, splice_zero, Int.toNat_natCast, Int.natCast_nonneg, Int.reduceLE, Int.reduceLT, Int.reduceToNat, Int.reduceEq, Int.cast_ofNat_Int, ne_eq, not_true_eq_false, not_false_eq_true, imp_self, implies_true, true_implies, false_implies, and_self, List.length_map, List.length_drop]
    cases is with
    | true =>
      simp only [go_sem, r_block, f0, f3, reduceIte, Nat.reduceEqDiff, Nat.reduceAdd, Nat.reduceMul, Nat.reduceSub, Nat.reduceLT, Nat.reduceLeDiff, Nat.le_refl, Nat.zero_le, Nat.zero_add, Nat.add_zero, Nat.mul_one, splice_zero, Int.toNat_natCast, Int.natCast_nonneg, Int.reduceLE, Int.reduceLT, Int.reduceToNat, Int.reduceEq, Int.cast_ofNat_Int, ne_eq, not_true_eq_false, not_false_eq_true, imp_self, implies_true, true_implies, false_implies, and_self, List.length_map, List.length_drop]
      obtain ⟨x, hx1, _⟩ := v3 rfl
      rw [no (by rw [hx1]; simp)]
      exact ⟨q4, q5, fun x p h1 _ hp => qsub x p h1 hp⟩
    | false =>
      have hno := v4 rfl
      simp only [go_sem, r_block, f0, f3, q4', q6, f.len, f.at0, reduceIte, Nat.reduceEqDiff, Nat.reduceAdd, Nat.reduceMul, Nat.reduceSub, Nat.reduceLT, Nat.reduceLeDiff, Nat.le_refl, Nat.zero_le, Nat.zero_add, Nat.add_zero, Nat.mul_one, splice_zero, Int.toNat_natCast, Int.natCast_nonneg, Int.reduceLE, Int.reduceLT, Int.reduceToNat, Int.reduceEq, Int.cast_ofNat_Int, ne_eq, not_true_eq_false, not_false_eq_true, imp_self, implies_true, true_implies, false_implies, and_self, List.length_map, List.length_drop]
      refine aIf_by (fun k2 => ?_) (fun k2 => ?_)
      · simp only [go_sem, r_block, f0, f3, q4', q6, f.len, f.at0, decide_eq_true k2, reduceIte, Nat.reduceEqDiff, Nat.reduceAdd, Nat.reduceMul, Nat.reduceSub, Nat.reduceLT, Nat.reduceLeDiff, Nat.le_refl, Nat.zero_le, Nat.zero_add, Nat.add_zero, Nat.mul_one, splice_zero, Int.toNat_natCast, Int.natCast_nonneg, Int.reduceLE, Int.reduceLT, Int.reduceToNat, Int.reduceEq, Int.cast_ofNat_Int, ne_eq, not_true_eq_false, not_false_eq_true, imp_self, implies_true, true_implies, false_implies, and_self, List.length_map, List.length_drop]
        rw [wrap64 (by omega)]
        refine aIf_by (fun k3 => ?_) (fun k3 => ?_)
        · have hk : s.kept f = ePut f.seq f.it s.early := by unfold Ls.kept; rw [if_pos ⟨hno, by omega, by omega⟩]
          simp only [go_sem, r_block, f0, f3, q4', q6, f.len, f.at0, reduceIte, Nat.reduceEqDiff, Nat.reduceAdd, Nat.reduceMul, Nat.reduceSub, Nat.reduceLT, Nat.reduceLeDiff, Nat.le_refl, Nat.zero_le, Nat.zero_add, Nat.add_zero, Nat.mul_one, splice_zero, Int.toNat_natCast, Int.natCast_nonneg, Int.reduceLE, Int.reduceLT, Int.reduceToNat, Int.reduceEq, Int.cast_ofNat_Int, ne_eq, not_true_eq_false, not_false_eq_true, imp_self, implies_true, true_implies, false_implies, and_self, List.length_map, List.length_drop]
          refine aDraw_plan [.rd 0 false, .rd 1 false, .rd 2 false, .rd 3 true, .rd 4 false, .rd 5 true, .rd 6 false, .rd 7 true, .ef 8 [3, 5], .ef 9 []] (by kernel_rfl) (by kernel_rfl) (by kernel_rfl) ?_
          simp only [go_sem, r_block, f0, f3, q4', q6, f.len, f.at0, f.at2, Itm.len, reduceIte, Nat.reduceEqDiff, Nat.reduceAdd, Nat.reduceMul, Nat.reduceSub, Nat.reduceLT, Nat.reduceLeDiff, Nat.le_refl, Nat.zero_le, Nat.zero_add, Nat.add_zero, Nat.mul_one, splice_zero, Int.toNat_natCast, Int.natCast_nonneg, Int.reduceLE, Int.reduceLT, Int.reduceToNat, Int.reduceEq, Int.cast_ofNat_Int, ne_eq, not_true_eq_false, not_false_eq_true, imp_self, implies_true, true_implies, false_implies, and_self, List.length_map, List.length_drop]
          refine (own_at f.it hx).mono ?_
          rintro _ σ6 ⟨rfl, rfl⟩
          simp only [go_sem, r_block, f0, f3, q4', q5, q6, f.len, f.at0, f.at2, Itm.len, put_er, reduceIte, Nat.reduceEqDiff, Nat.reduceAdd, Nat.reduceMul, Nat.reduceSub, Nat.reduceLT, Nat.reduceLeDiff, Nat.le_refl, Nat.zero_le, Nat.zero_add, Nat.add_zero, Nat.mul_one, splice_zero, Int.toNat_natCast, Int.natCast_nonneg, Int.reduceLE, Int.reduceLT, Int.reduceToNat, Int.reduceEq, Int.cast_ofNat_Int, ne_eq, not_true_eq_false, not_false_eq_true, imp_self, implies_true, true_implies, false_implies, and_self, List.length_map, List.length_drop]
          refine ⟨rfl, key_er _, by rw [set_ne hbm]; exact q4, by rw [hk], fun x p h1 h2 hp => by rw [set_ne h2]; exact qsub x p h1 hp⟩
        · simp only [go_sem, r_block, f0, f3, reduceIte, Nat.reduceEqDiff, Nat.reduceAdd, Nat.reduceMul, Nat.reduceSub, Nat.reduceLT, Nat.reduceLeDiff, Nat.le_refl, Nat.zero_le, Nat.zero_add, Nat.add_zero, Nat.mul_one, splice_zero, Int.toNat_natCast, Int.natCast_nonneg, Int.reduceLE, Int.reduceLT, Int.reduceToNat, Int.reduceEq, Int.cast_ofNat_Int, ne_eq, not_true_eq_false, not_false_eq_true, imp_self, implies_true, true_implies, false_implies, and_self, List.length_map, List.length_drop]
          rw [no (fun h => k3 (by omega))]
          exact ⟨q4, q5, fun x p h1 _ hp => qsub x p h1 hp⟩
      · simp only [go_sem, r_block, f0, f3, decide_eq_false k2, reduceIte, Nat.reduceEqDiff, Nat.reduceAdd, Nat.reduceMul, Nat.reduceSub, Nat.reduceLT, Nat.reduceLeDiff, Nat.le_refl, Nat.zero_le, Nat.zero_add, Nat.add_zero, Nat.mul_one, splice_zero, Int.toNat_natCast, Int.natCast_nonneg, Int.reduceLE, Int.reduceLT, Int.reduceToNat, Int.reduceEq, Int.cast_ofNat_Int, ne_eq, not_true_eq_false, not_false_eq_true, imp_self, implies_true, true_implies, false_implies, and_self, List.length_map, List.length_drop]
        rw [no (fun h => k2 (by omega))]
        exact ⟨q4, q5, fun x p h1 _ hp => qsub x p h1 hp⟩
  rintro fr σ5 ⟨f0, f3, p4, p5, psub⟩
  clear q4 q5 q6 qsub q4' vl g4' g4 g5 g6 gsub2 v3 v4 v1 v2
  have hN : (s.kept f).length ≤ 1000000001 := by
    have : ∀ (l : List (Int × Itm)), (ePut f.seq f.it l).length ≤ l.length + 1 := by
      intro l
      induction l with
      | nil => simp [ePut]
      | cons p l ih => obtain ⟨j, x⟩ := p; simp only [ePut]; split <;> simp_all
    unfold Ls.kept
    split
    · have := this s.early; omega
    · omega
  generalize hN' : s.kept f = E at p5 hN
  simp only [go_sem, r_block, reduceIte, Nat.reduceEqDiff, Nat.reduceAdd, Nat.reduceMul, Nat.reduceSub, Nat.reduceLT, Nat.reduceLeDiff, Nat.le_refl, Nat.zero_le, Nat.zero_add, Nat.add_zero, Nat.mul_one, splice_zero, Int.toNat_natCast, Int.natCast_nonneg, Int.reduceLE, Int.reduceLT, Int.reduceToNat, Int.reduceEq, Int.cast_ofNat_Int, ne_eq, not_true_eq_false, not_false_eq_true, imp_self, implies_true, true_implies, false_implies, and_self, List.length_map, List.length_drop]
  refine ⟨fun k fr σ' => ∃ (lv : AV) (n : Nat) (c' : Int) (e' : List (Int × Itm)) (out : List Itm), k = n ∧ fr 0 = ptr b ∧ fr 8 = lv ∧ n = e'.length ∧ n ≤ E.length ∧ c' = s.came + (E.length - n : Int) ∧ out.length = E.length - n ∧ tell E.length s.came E = (out ++ (tell n c' e').1, (tell n c' e').2) ∧
    σ' b = some (lO { s1 with owes := true, came := c' } m) ∧ σ' m = some (.map (erC e')) ∧ LAt 38 σ' lv (out.map Itm.cs) ∧ ∀ x p, x ≠ b → x ≠ m → σ x = some p → σ' x = some p ∧ ¬ Own lv x,
    ⟨E.length, .v (.slice none 0 0), E.length, s.came, E, [], rfl, f0, rfl, rfl, Nat.le_refl _, by omega, by simp, by simp, by rw [← hack.1]; exact p4, p5, .none, fun x p h1 h2 hp => ⟨psub x p h1 h2 hp, fun ⟨_, _, e⟩ => by cases e⟩⟩, ?_⟩
  rintro k fr σ' ⟨lv, n, c', e', out, rfl, f0, f8, hn, hnE, hc', hout, ht, p4, p5, hL, hG⟩
  have p4' := p4
  unfold lO at p4'
  simp only [go_sem, r_block, f0, f8, reduceIte, Nat.reduceEqDiff, Nat.reduceAdd, Nat.reduceMul, Nat.reduceSub, Nat.reduceLT, Nat.reduceLeDiff, Nat.le_refl, Nat.zero_le, Nat.zero_add, Nat.add_zero, Nat.mul_one, splice_zero, Int.toNat_natCast, Int.natCast_nonneg, Int.reduceLE, Int.reduceLT, Int.reduceToNat, Int.reduceEq, Int.cast_ofNat_Int, ne_eq, not_true_eq_false, not_false_eq_true, imp_self, implies_true, true_implies, false_implies, and_self, List.length_map, List.length_drop]
  refine aDraw_plan [.rd 0 false, .rd 1 false, .rd 2 false, .rd 3 true, .rd 4 false, .rd 5 false, .rd 6 false, .rd 7 true, .rd 8 false, .rd 9 true, .rd 10 false, .rd 11 false, .rd 12 false, .ef 13 [3, 7, 9], .ef 14 [], .rd 15 false] (by kernel_rfl) (by kernel_rfl) (by kernel_rfl) ?_
  have hw : IntKind.i64.wrap (c' + 1) = c' + 1 := wrap64 (by omega)
  simp only [go_sem, r_block, f0, f8, p4', p5, hw, reduceIte, Nat.reduceEqDiff, Nat.reduceAdd, Nat.reduceMul, Nat.reduceSub, Nat.reduceLT, Nat.reduceLeDiff, Nat.le_refl, Nat.zero_le, Nat.zero_add, Nat.add_zero, Nat.mul_one, splice_zero, Int.toNat_natCast, Int.natCast_nonneg, Int.reduceLE, Int.reduceLT, Int.reduceToNat, Int.reduceEq, Int.cast_ofNat_Int, ne_eq, not_true_eq_false, not_false_eq_true, imp_self, implies_true, true_implies, false_implies, and_self, List.length_map, List.length_drop]
  obtain ⟨vs, is, v1, v2, v3, v4, vl⟩ := look_er e' (c' + 1)
  refine vl _ rfl _ ?_
  simp only [go_sem, r_block, f0, f8, p4', p5, hw, reduceIte, Nat.reduceEqDiff, Nat.reduceAdd, Nat.reduceMul, Nat.reduceSub, Nat.reduceLT, Nat.reduceLeDiff, Nat.le_refl, Nat.zero_le, Nat.zero_add, Nat.add_zero, Nat.mul_one, splice_zero, Int.toNat_natCast, Int.natCast_nonneg, Int.reduceLE, Int.reduceLT, Int.reduceToNat, Int.reduceEq, Int.cast_ofNat_Int, ne_eq, not_true_eq_false, not_false_eq_true, imp_self, implies_true, true_implies, false_implies, and_self, List.length_map, List.length_drop]
  refine aNew_intro fun d hd hdc => ?_
  have hbd : b ≠ d := hdc _ _ p4
  have hmd : m ≠ d := hdc _ _ p5
  simp only [go_sem, r_block, f0, f8, set_same, set_ne hbd, set_ne hmd, p4', p5, v1, v2, zl1_len, zl1_drop, hw, reduceIte, Nat.reduceEqDiff, Nat.reduceAdd, Nat.reduceMul, Nat.reduceSub, Nat.reduceLT, Nat.reduceLeDiff, Nat.le_refl, Nat.zero_le, Nat.zero_add, Nat.add_zero, Nat.mul_one, splice_zero, Int.toNat_natCast, Int.natCast_nonneg, Int.reduceLE, Int.reduceLT, Int.reduceToNat, Int.reduceEq, Int.cast_ofNat_Int, ne_eq, not_true_eq_false, not_false_eq_true, imp_self, implies_true, true_implies, false_implies, and_self, List.length_map, List.length_drop]
  refine ⟨fun k hk => vl _ rfl _ hk, ?_⟩
  cases is with
  | false =>
    have hno := v4 rfl
    simp only [go_sem, r_block, f0, f8, reduceIte, Nat.reduceEqDiff, Nat.reduceAdd, Nat.reduceMul, Nat.reduceSub, Nat.reduceLT, Nat.reduceLeDiff, Nat.le_refl, Nat.zero_le, Nat.zero_add, Nat.add_zero, Nat.mul_one, splice_zero, Int.toNat_natCast, Int.natCast_nonneg, Int.reduceLE, Int.reduceLT, Int.reduceToNat, Int.reduceEq, Int.cast_ofNat_Int, ne_eq, not_true_eq_false, not_false_eq_true, imp_self, implies_true, true_implies, false_implies, and_self, List.length_map, List.length_drop]
    have htl : tell k c' e' = ([], c', e') := by
      cases k with
      | zero => rfl
      | succ n => simp only [tell, hno]
    rw [htl, List.append_nil] at ht
    have hh : s.hear f = ((out, 0), { s1 with owes := true, came := c', early := e' }) := by
      unfold Ls.hear
      rw [if_neg ok1, if_neg ok2, if_neg k1, ← hs1, hN', ht]
    have nb : ∀ y, Own lv y → y ≠ b := fun y hy e => by subst e; exact hL.not_own p4 hy
    have nm : ∀ y, Own lv y → y ≠ m := fun y hy e => by subst e; obtain ⟨_, hq⟩ := hL.own_rows hy; rw [p5] at hq; cases hq
    refine aRet_view (r := .tup [lv, int 0]) rfl _ ((σ.set b (lO { s1 with owes := true, came := c', early := e' } m)).set m (.map (erC e'))) (view_of (a' := .tup [.sl 38 (out.map Itm.cs), int 0])
      (sv_link (s := { s1 with owes := true, came := c', early := e' }) (by rw [set_ne hbd]; exact p4) (by rw [set_ne hmd]; exact p5) fun y p h1 h2 hp => set_sub hd (fun _ _ h => h) _ _ (hG y p h1 h2 hp).1) (.tup _ _ rfl (vws_cons ((hL.new hd).vw_same fun y hy => ?_) (vws_refl _)).2)) (by rw [hh]; exact ⟨rfl, rfl⟩)
    rw [set_ne (nm y hy), set_ne (nb y hy)]
    cases h' : σ y with
    | none => rfl
    | some p => exact absurd hy (hG y p (nb y hy) (nm y hy) h').2
  | true =>
    obtain ⟨x, hx1, rfl⟩ := v3 rfl
    have hlen := eDel_length hx1
    simp only [go_sem, r_block, f0, f8, reduceIte, Nat.reduceEqDiff, Nat.reduceAdd, Nat.reduceMul, Nat.reduceSub, Nat.reduceLT, Nat.reduceLeDiff, Nat.le_refl, Nat.zero_le, Nat.zero_add, Nat.add_zero, Nat.mul_one, splice_zero, Int.toNat_natCast, Int.natCast_nonneg, Int.reduceLE, Int.reduceLT, Int.reduceToNat, Int.reduceEq, Int.cast_ofNat_Int, ne_eq, not_true_eq_false, not_false_eq_true, imp_self, implies_true, true_implies, false_implies, and_self, List.length_map, List.length_drop]
    have t4 := set_sub (o := .cells x.cs) hd (fun _ _ h => h) _ _ p4
    have t5 := set_sub (o := .cells x.cs) hd (fun _ _ h => h) _ _ p5
    have t6 : (σ'.set d (.cells x.cs)) d = some (.cells x.cs) := set_same
    have tL := hL.new (o := .cells x.cs) hd
    have tG : ∀ y p, y ≠ b → y ≠ m → σ y = some p → (σ'.set d (.cells x.cs)) y = some p ∧ ¬ Own lv y := fun y p h1 h2 hp => ⟨set_sub hd (fun _ _ h => h) _ _ (hG y p h1 h2 hp).1, (hG y p h1 h2 hp).2⟩
    clear p4 p4' p5 hL hG hd hdc
    revert t4 t5 t6 tL tG
    generalize σ'.set d (.cells x.cs) = σ7
    intro t4 t5 t6 tL tG
    have t4' := t4
    unfold lO at t4'
    refine aDraw_plan [.rd 0 false, .rd 1 false, .rd 2 false, .rd 3 true, .rd 4 false, .rd 5 false, .rd 6 false, .rd 7 true, .rd 8 false, .ef 9 []] (by kernel_rfl) (by kernel_rfl) (by kernel_rfl) ?_
    simp only [go_sem, r_block, f0, f8, t4', t5, hw, del_er, reduceIte, Nat.reduceEqDiff, Nat.reduceAdd, Nat.reduceMul, Nat.reduceSub, Nat.reduceLT, Nat.reduceLeDiff, Nat.le_refl, Nat.zero_le, Nat.zero_add, Nat.add_zero, Nat.mul_one, splice_zero, Int.toNat_natCast, Int.natCast_nonneg, Int.reduceLE, Int.reduceLT, Int.reduceToNat, Int.reduceEq, Int.cast_ofNat_Int, ne_eq, not_true_eq_false, not_false_eq_true, imp_self, implies_true, true_implies, false_implies, and_self, List.length_map, List.length_drop]
    refine ⟨rfl, key_er _, ?_⟩
    simp only [go_sem, r_block, f0, f8, t4', t5, t6, set_ne hbm, set_ne hbm.symm, hw, set_ne hbd, set_ne hbd.symm, set_ne hmd, set_ne hmd.symm, set_same, x.len, x.take, x.one, reduceIte, Nat.reduceEqDiff, Nat.reduceAdd, Nat.reduceMul, Nat.reduceSub, Nat.reduceLT, Nat.reduceLeDiff, Nat.le_refl, Nat.zero_le, Nat.zero_add, Nat.add_zero, Nat.mul_one, splice_zero, Int.toNat_natCast, Int.natCast_nonneg, Int.reduceLE, Int.reduceLT, Int.reduceToNat, Int.reduceEq, Int.cast_ofNat_Int, ne_eq, not_true_eq_false, not_false_eq_true, imp_self, implies_true, true_implies, false_implies, and_self, List.length_map, List.length_drop]
    have nb : ∀ y, Own lv y → y ≠ b := fun y hy e => by subst e; exact tL.not_own t4 hy
    have nm : ∀ y, Own lv y → y ≠ m := fun y hy e => by subst e; obtain ⟨_, hq⟩ := tL.own_rows hy; rw [t5] at hq; cases hq
    have u4 : ((σ7.set m (.map (erC (eDel (c' + 1) e')))).set b (lO { s1 with owes := true, came := c' + 1 } m)) b = some (lO { s1 with owes := true, came := c' + 1 } m) := set_same
    have u5 : ((σ7.set m (.map (erC (eDel (c' + 1) e')))).set b (lO { s1 with owes := true, came := c' + 1 } m)) m = some (.map (erC (eDel (c' + 1) e'))) := by rw [set_ne hbm.symm, set_same]
    have uL : LAt 38 ((σ7.set m (.map (erC (eDel (c' + 1) e')))).set b (lO { s1 with owes := true, came := c' + 1 } m)) lv (out.map Itm.cs) := tL.keep fun y o hy ho => by rw [set_ne (nb y ho), set_ne (nm y ho)]; exact hy
    have uG : ∀ y p, y ≠ b → y ≠ m → σ y = some p → ((σ7.set m (.map (erC (eDel (c' + 1) e')))).set b (lO { s1 with owes := true, came := c' + 1 } m)) y = some p ∧ ¬ Own lv y := fun y p h1 h2 hp => by rw [set_ne h1, set_ne h2]; exact tG y p h1 h2 hp
    rw [show (AObj.cells [AV.sl 38 (List.map Itm.cs s1.wait), int s1.gone, AV.v (Value.int IntKind.i64 (c' + 1)), mapp m, boo true, boo true]) = lO { s1 with owes := true, came := c' + 1 } m from rfl]
    revert u4 u5 uL uG
    generalize (σ7.set m (.map (erC (eDel (c' + 1) e')))).set b (lO { s1 with owes := true, came := c' + 1 } m) = σ8
    intro u4 u5 uL uG
    have nb' : ¬ Own lv b := fun h => nb b h rfl
    have nm' : ¬ Own lv m := fun h => nm m h rfl
    refine aApp_by (ys := [x.cs]) rfl (by decide) (by decide) zl1_one (uL.app (by simp; omega) fun lv' σ9 hL9 hs9 => ?_)
    simp only [go_sem, r_block, f0, f8, reduceIte, Nat.reduceEqDiff, Nat.reduceAdd, Nat.reduceMul, Nat.reduceSub, Nat.reduceLT, Nat.reduceLeDiff, Nat.le_refl, Nat.zero_le, Nat.zero_add, Nat.add_zero, Nat.mul_one, splice_zero, Int.toNat_natCast, Int.natCast_nonneg, Int.reduceLE, Int.reduceLT, Int.reduceToNat, Int.reduceEq, Int.cast_ofNat_Int, ne_eq, not_true_eq_false, not_false_eq_true, imp_self, implies_true, true_implies, false_implies, and_self, List.length_map, List.length_drop]
    obtain ⟨k', rfl⟩ : ∃ k', k = k' + 1 := ⟨k - 1, by omega⟩
    refine ⟨k', by omega, lv', k', c' + 1, eDel (c' + 1) e', out ++ [x], rfl, ?_⟩
    refine ⟨rfl, by omega, by omega, by omega, by simp; omega, ?_, (hs9 _ _ u4 nb').1, (hs9 _ _ u5 nm').1, by simpa using hL9, fun y p h1 h2 hp => hs9 y p (uG y p h1 h2 hp).1 (uG y p h1 h2 hp).2⟩
    rw [ht]
    simp only [tell, hx1, List.append_assoc, List.singleton_append]
end
end Go.Proofs.Ytpdbmnogfanpmaa
