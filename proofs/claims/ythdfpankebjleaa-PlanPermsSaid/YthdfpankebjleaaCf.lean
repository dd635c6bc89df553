/-
  The document's order: its walk.
  Conditions: none.
-/
import Derived.Test.YthdfpankebjleaaCe
set_option linter.unusedVariables false
set_option linter.unusedSimpArgs false
set_option maxRecDepth 100000
namespace Go.Proofs.Ythdfpankebjleaa
open Go Go.Av

section
variable {σ : St} {lv : AV} {vs : List ByteArray}
theorem vars_at (l : Li) (ha : l.ar.length ≤ 1000000) (hv : vs.length ≤ 1000000) (h : LAt 1 σ lv (stC vs)) : AT Try.prog 30 [lv, .agg l.cs] σ fun r σ' => LAt 1 σ' r (stC (ofLi l vs)) ∧ ∀ x o, σ x = some o → ¬ Own lv x → σ' x = some o ∧ ¬ Own r x := by
  refine AT.of_body Try.func30 rfl (by decide) (by kernel_rfl) (by kernel_rfl) (Nat.le_of_ble_eq_true rfl) ?_
  simp only [go_sem, reduceIte, Nat.reduceEqDiff, Nat.reduceAdd, Nat.reduceMul, Nat.reduceSub, Nat.reduceLT, Nat.reduceLeDiff, Nat.le_refl, Nat.zero_le, Nat.zero_add, Nat.add_zero, Nat.mul_one, splice_zero, Int.toNat_natCast, Int.natCast_nonneg, Int.reduceLE, Int.reduceLT, Int.reduceToNat, Int.reduceEq, Int.cast_ofNat_Int, ne_eq, not_true_eq_false, not_false_eq_true, imp_self, implies_true, true_implies, false_implies, and_self, List.length_map, List.length_drop]
  refine aNew_intro fun b hb hbn => ?_
  have h' : LAt 1 (σ.set b (.cells l.cs)) lv (stC vs) := h.new hb
  have hnb : ¬ Own lv b := h'.not_own set_same
  simp only [go_sem, r_block, set_same, reduceIte, Nat.reduceEqDiff, Nat.reduceAdd, Nat.reduceMul, Nat.reduceSub, Nat.reduceLT, Nat.reduceLeDiff, Nat.le_refl, Nat.zero_le, Nat.zero_add, Nat.add_zero, Nat.mul_one, splice_zero, Int.toNat_natCast, Int.natCast_nonneg, Int.reduceLE, Int.reduceLT, Int.reduceToNat, Int.reduceEq, Int.cast_ofNat_Int, ne_eq, not_true_eq_false, not_false_eq_true, imp_self, implies_true, true_implies, false_implies, and_self, List.length_map, List.length_drop]
  refine aApp_by (ys := [[str l.by'.v], [str l.at'.v]]) (by simp [src]) (by decide) (by decide) (by decide) (h'.app (by rw [stC_len]; simp only [List.length_cons, List.length_nil]; omega) fun lw σ1 hl hs => ?_)
  have e : stC vs ++ [[str l.by'.v], [str l.at'.v]] = stC (vs ++ l.by'.v :: l.at'.v :: (l.ar.take 0).map Tm.v) := by simp [stC]
  rw [e] at hl
  have hs1 : ∀ x o, σ x = some o → ¬ Own lv x → σ1 x = some o ∧ ¬ Own lw x := fun x o hx ho => hs x o (set_sub hb (fun _ _ h => h) x o hx) ho
  obtain ⟨k1, k2⟩ := hs b _ set_same hnb
  simp only [go_sem, r_block, reduceIte, Nat.reduceEqDiff, Nat.reduceAdd, Nat.reduceMul, Nat.reduceSub, Nat.reduceLT, Nat.reduceLeDiff, Nat.le_refl, Nat.zero_le, Nat.zero_add, Nat.add_zero, Nat.mul_one, splice_zero, Int.toNat_natCast, Int.natCast_nonneg, Int.reduceLE, Int.reduceLT, Int.reduceToNat, Int.reduceEq, Int.cast_ofNat_Int, ne_eq, not_true_eq_false, not_false_eq_true, imp_self, implies_true, true_implies, false_implies, and_self, List.length_map, List.length_drop]
  refine ⟨fun m fr σ' => ∃ (i : Nat) (lw : AV), m = l.ar.length - i ∧ i ≤ l.ar.length ∧ LAt 1 σ' lw (stC (vs ++ l.by'.v :: l.at'.v :: (l.ar.take i).map Tm.v)) ∧ σ' b = some (.cells l.cs) ∧ ¬ Own lw b ∧ (∀ x o, σ x = some o → ¬ Own lv x → σ' x = some o ∧ ¬ Own lw x) ∧ fr 0 = lw ∧ fr 3 = ptr b ∧ fr 5 = int i, ⟨_, 0, lw, rfl, by omega, hl, k1, k2, hs1, rfl, rfl, rfl⟩, ?_⟩
  clear h' hl hs hs1 k1 k2 e
  rintro m fr σ2 ⟨i, lw, rfl, h1, h2, k1, k2, h3, f0, f3, f5⟩
  simp only [go_sem, f0, f3, f5, k1, reduceIte, Nat.reduceEqDiff, Nat.reduceAdd, Nat.reduceMul, Nat.reduceSub, Nat.reduceLT, Nat.reduceLeDiff, Nat.le_refl, Nat.zero_le, Nat.zero_add, Nat.add_zero, Nat.mul_one, splice_zero, Int.toNat_natCast, Int.natCast_nonneg, Int.reduceLE, Int.reduceLT, Int.reduceToNat, Int.reduceEq, Int.cast_ofNat_Int, ne_eq, not_true_eq_false, not_false_eq_true, imp_self, implies_true, true_implies, false_implies, and_self, List.length_map, List.length_drop]
  refine aIf_by (fun hlt => ?_) (fun hlt => ?_)
  · have hi : i < l.ar.length := by omega
    simp only [go_sem, r_block, f0, f3, f5, k1, tmC_get hi, reduceIte, Nat.reduceEqDiff, Nat.reduceAdd, Nat.reduceMul, Nat.reduceSub, Nat.reduceLT, Nat.reduceLeDiff, Nat.le_refl, Nat.zero_le, Nat.zero_add, Nat.add_zero, Nat.mul_one, splice_zero, Int.toNat_natCast, Int.natCast_nonneg, Int.reduceLE, Int.reduceLT, Int.reduceToNat, Int.reduceEq, Int.cast_ofNat_Int, ne_eq, not_true_eq_false, not_false_eq_true, imp_self, implies_true, true_implies, false_implies, and_self, List.length_map, List.length_drop]
    have hvl : ((vs ++ l.by'.v :: l.at'.v :: (l.ar.take i).map Tm.v).length : Nat) ≤ 2000002 := by simp; omega
    refine ⟨by omega, aApp_by (ys := [[str l.ar[i].v]]) (by simp [src]) (by decide) (by decide) (by decide) (h2.app (by rw [stC_len]; simp only [List.length_cons, List.length_nil]; omega) fun lw' σ3 hl hs => ?_)⟩
    have e : stC (vs ++ l.by'.v :: l.at'.v :: (l.ar.take i).map Tm.v) ++ [[str l.ar[i].v]] = stC (vs ++ l.by'.v :: l.at'.v :: (l.ar.take (i + 1)).map Tm.v) := by
      rw [List.take_add_one, List.getElem?_eq_getElem hi, List.map_append]
      simp [stC]
    rw [e] at hl
    simp only [go_sem, r_block, f0, f3, f5, next64 (show i < 9223372036854775807 by omega), reduceIte, Nat.reduceEqDiff, Nat.reduceAdd, Nat.reduceMul, Nat.reduceSub, Nat.reduceLT, Nat.reduceLeDiff, Nat.le_refl, Nat.zero_le, Nat.zero_add, Nat.add_zero, Nat.mul_one, splice_zero, Int.toNat_natCast, Int.natCast_nonneg, Int.reduceLE, Int.reduceLT, Int.reduceToNat, Int.reduceEq, Int.cast_ofNat_Int, ne_eq, not_true_eq_false, not_false_eq_true, imp_self, implies_true, true_implies, false_implies, and_self, List.length_map, List.length_drop]
    have kb := hs b _ k1 k2
    exact ⟨l.ar.length - (i + 1), by omega, i + 1, lw', rfl, by omega, hl, kb.1, kb.2, fun x o hx ho => (fun hh => hs x o hh.1 hh.2) (h3 x o hx ho), rfl, rfl⟩
  · simp only [go_sem, r_block, f0, reduceIte, Nat.reduceEqDiff, Nat.reduceAdd, Nat.reduceMul, Nat.reduceSub, Nat.reduceLT, Nat.reduceLeDiff, Nat.le_refl, Nat.zero_le, Nat.zero_add, Nat.add_zero, Nat.mul_one, splice_zero, Int.toNat_natCast, Int.natCast_nonneg, Int.reduceLE, Int.reduceLT, Int.reduceToNat, Int.reduceEq, Int.cast_ofNat_Int, ne_eq, not_true_eq_false, not_false_eq_true, imp_self, implies_true, true_implies, false_implies, and_self, List.length_map, List.length_drop]
    rw [List.take_of_length_le (by omega)] at h2
    exact aRet_as (r := lw) rfl ⟨h2, h3⟩
end
/-- The numbers that are out, and the variables that are known, in two slices. -/
def RO (β σ : St) (lo lw : AV) (ou : List Nat) (vs : List ByteArray) : Prop :=
  LAt 1 σ lo (inC (nats ou)) ∧ LAt 1 σ lw (stC vs) ∧ (∀ x, Own lo x → ¬ Own lw x) ∧ ∀ x o, β x = some o → σ x = some o ∧ ¬ Own lo x ∧ ¬ Own lw x
section
variable {β σ σ1 : St} {lo lw lo' lw' : AV} {ou ou' : List Nat} {vs vs' : List ByteArray}
theorem RO.num (h : RO β σ lo lw ou vs) (hl : LAt 1 σ1 lo' (inC (nats ou'))) (hs : ∀ x p, σ x = some p → ¬ Own lo x → σ1 x = some p ∧ ¬ Own lo' x) : RO β σ1 lo' lw ou' vs := by
  obtain ⟨h1, h2, h3, h4⟩ := h
  refine ⟨hl, h2.keep fun x o hx ho => (hs x o hx fun e => h3 x e ho).1, fun x ho hw => ?_, fun x o hx => ?_⟩
  · obtain ⟨c, hc⟩ := h2.own_rows hw
    exact (hs x _ hc fun e => h3 x e hw).2 ho
  · obtain ⟨k1, k2, k3⟩ := h4 x o hx
    obtain ⟨q1, q2⟩ := hs x o k1 k2
    exact ⟨q1, q2, k3⟩
theorem RO.var (h : RO β σ lo lw ou vs) (hl : LAt 1 σ1 lw' (stC vs')) (hs : ∀ x p, σ x = some p → ¬ Own lw x → σ1 x = some p ∧ ¬ Own lw' x) : RO β σ1 lo lw' ou vs' := by
  obtain ⟨h1, h2, h3, h4⟩ := h
  refine ⟨h1.keep fun x o hx ho => (hs x o hx (h3 x ho)).1, hl, fun x ho hw => ?_, fun x o hx => ?_⟩
  · obtain ⟨c, hc⟩ := h1.own_rows ho
    exact (hs x _ hc (h3 x ho)).2 hw
  · obtain ⟨k1, k2, k3⟩ := h4 x o hx
    obtain ⟨q1, q2⟩ := hs x o k1 k3
    exact ⟨q1, k2, q2⟩
end
/-- On the way to the order. -/
def LO (r : Rl) (first : Int) (ou : List Nat) (vs : List ByteArray) : Prop :=
  Perm r.bo.length ou ∧ vs.length ≤ 1 + ou.length * 302 ∧ ordN r.bo (r.bo.length - ou.length) ou vs = ordR r first
theorem li_getD {l : List Li} {i : Nat} (h : i < l.length) : l.getD i .zero = l[i] := by simp [List.getD_eq_getElem?_getD, h]
theorem LO.first {r : Rl} {first : Int} (hr : r.Ok) (h0 : 0 ≤ first) (h1 : first.toNat < r.bo.length) : LO r first [first.toNat] (ofLi r.bo[first.toNat] [r.ho.v]) := by
  refine ⟨⟨by simp, fun k hk => by simp at hk; omega⟩, ?_, ?_⟩
  · have := hr.2 _ (List.getElem_mem h1)
    rw [ofLi_len]
    simp; omega
  · unfold ordR
    rw [if_pos ⟨h0, by omega⟩, li_getD h1]
    rfl
theorem LO.start {r : Rl} {first : Int} (h : ¬ (0 ≤ first ∧ first < r.bo.length)) : LO r first [] [r.ho.v] := by
  refine ⟨⟨by simp, fun k hk => by cases hk⟩, by simp, ?_⟩
  unfold ordR
  rw [if_neg h]
  rfl
theorem LO.next {r : Rl} {first : Int} {ou : List Nat} {vs : List ByteArray} (hr : r.Ok) (h : LO r first ou vs) (hl : ou.length < r.bo.length) :
    ∃ (b : Nat) (hb : b < r.bo.length), (bst r.bo ou vs r.bo.length).1 = b ∧ LO r first (ou ++ [b]) (ofLi r.bo[b] vs) := by
  obtain ⟨h1, h2, h3⟩ := h
  obtain ⟨b, e, hb, hn, hp⟩ := perm_best (vs := vs) h1 hl
  refine ⟨b, hb, e, hp, ?_, ?_⟩
  · have := hr.2 _ (List.getElem_mem hb)
    rw [ofLi_len]
    simp; omega
  · obtain ⟨f, hf⟩ : ∃ f, r.bo.length - ou.length = f + 1 := ⟨r.bo.length - ou.length - 1, by omega⟩
    rw [hf] at h3
    unfold ordN at h3
    rw [e, show ((b : Nat) : Int).toNat = b from rfl, li_getD hb] at h3
    rw [← h3]
    congr 1
    simp; omega
theorem LO.done {r : Rl} {first : Int} {ou : List Nat} {vs : List ByteArray} (h : LO r first ou vs) (hl : ¬ ou.length < r.bo.length) : ou = ordR r first := by
  obtain ⟨h1, h2, h3⟩ := h
  rw [← h3, show r.bo.length - ou.length = 0 by omega]
  rfl
theorem LO.len {r : Rl} {first : Int} {ou : List Nat} {vs : List ByteArray} (hr : r.Ok) (h : LO r first ou vs) : ou.length ≤ 300 ∧ vs.length ≤ 90601 := by
  have := perm_len _ _ h.1
  have := hr.1
  have := h.2.1
  omega

theorem meet_by {G : Prop} {R : Fr → St → Prop} (M : Fr → St → Prop) (h1 : (∀ fr σ, M fr σ → R fr σ) → G) (h2 : ∀ fr σ, M fr σ → R fr σ) : G := h1 h2
section
variable {σ : St}
theorem refOrder_at (r : Rl) (first : Int) (hr : r.Ok) : AT Try.prog 12 [.agg r.cs, int first] σ fun v σ' => v = .sl 1 (inC (nats (ordR r first))) ∧ σ' = σ := by
  refine AT.of_body Try.func12 rfl (by decide) (by kernel_rfl) (by kernel_rfl) (Nat.le_of_ble_eq_true rfl) ?_
  simp only [go_sem, reduceIte, Nat.reduceEqDiff, Nat.reduceAdd, Nat.reduceMul, Nat.reduceSub, Nat.reduceLT, Nat.reduceLeDiff, Nat.le_refl, Nat.zero_le, Nat.zero_add, Nat.add_zero, Nat.mul_one, splice_zero, Int.toNat_natCast, Int.natCast_nonneg, Int.reduceLE, Int.reduceLT, Int.reduceToNat, Int.reduceEq, Int.cast_ofNat_Int, ne_eq, not_true_eq_false, not_false_eq_true, imp_self, implies_true, true_implies, false_implies, and_self, List.length_map, List.length_drop]
  refine aNew_intro fun b hb hbn => ?_
  obtain ⟨β, hβ⟩ : ∃ β, β = σ.set b (.cells r.cs) := ⟨_, rfl⟩
  have kb : β b = some (.cells r.cs) := by rw [hβ]; exact set_same
  have ks : ∀ x o, σ x = some o → β x = some o := by rw [hβ]; exact set_sub hb (fun _ _ h => h)
  have hbl := hr.1
  rw [← hβ]
  apply meet_by (fun fr σ' => ∃ lo lw ou vs, RO β σ' lo lw ou vs ∧ LO r first ou vs ∧ fr 2 = ptr b ∧ fr 5 = lo ∧ fr 6 = lw)
  case h1 =>
    intro key
    have no1 : ∀ x, ¬ Own (.fsl 1 [[str r.ho.v]]) x := fun x ⟨n, c, e⟩ => by cases e
    have no2 : ∀ x, ¬ Own (.v (.slice none 0 0)) x := fun x ⟨n, c, e⟩ => by cases e
    have r0 : RO β β nilS (.fsl 1 [[str r.ho.v]]) [] [r.ho.v] := ⟨.none, .full, fun x h => absurd h (no2 x), fun x o hx => ⟨hx, no2 x, no1 x⟩⟩
    by_cases h0 : 0 ≤ first
    · by_cases h1 : first < r.bo.length
      · have hk : first.toNat < r.bo.length := by omega
        simp only [go_sem, kb, decide_eq_true h0, decide_eq_true h1, reduceIte, Nat.reduceEqDiff, Nat.reduceAdd, Nat.reduceMul, Nat.reduceSub, Nat.reduceLT, Nat.reduceLeDiff, Nat.le_refl, Nat.zero_le, Nat.zero_add, Nat.add_zero, Nat.mul_one, splice_zero, Int.toNat_natCast, Int.natCast_nonneg, Int.reduceLE, Int.reduceLT, Int.reduceToNat, Int.reduceEq, Int.cast_ofNat_Int, ne_eq, not_true_eq_false, not_false_eq_true, imp_self, implies_true, true_implies, false_implies, and_self, List.length_map, List.length_drop]
        refine aApp_by (ys := [[int first]]) (by simp [src]) (by decide) (by decide) (by decide) (LAt.none.app (by simp) fun lo σ1 hl hs => ?_)
        have e : ([] : List (List AV)) ++ [[int first]] = inC (nats [first.toNat]) := by
          show [[int first]] = [[int (Int.ofNat first.toNat)]]
          rw [show Int.ofNat first.toNat = first from by rw [Int.ofNat_eq_natCast]; omega]
        rw [e] at hl
        have r1 := r0.num (ou' := [first.toNat]) hl hs
        have kb1 := (r1.2.2.2 _ _ kb).1
        simp only [go_sem, kb1, liC_get hk, reduceIte, Nat.reduceEqDiff, Nat.reduceAdd, Nat.reduceMul, Nat.reduceSub, Nat.reduceLT, Nat.reduceLeDiff, Nat.le_refl, Nat.zero_le, Nat.zero_add, Nat.add_zero, Nat.mul_one, splice_zero, Int.toNat_natCast, Int.natCast_nonneg, Int.reduceLE, Int.reduceLT, Int.reduceToNat, Int.reduceEq, Int.cast_ofNat_Int, ne_eq, not_true_eq_false, not_false_eq_true, imp_self, implies_true, true_implies, false_implies, and_self, List.length_map, List.length_drop]
        refine ⟨by omega, by omega, (vars_at r.bo[first.toNat] (by have := hr.2 _ (List.getElem_mem hk); omega) (by simp) r1.2.1).mono ?_⟩
        rintro lw σ2 ⟨hl2, hs2⟩
        have r2 := r1.var hl2 hs2
        simp only [go_sem, reduceIte, Nat.reduceEqDiff, Nat.reduceAdd, Nat.reduceMul, Nat.reduceSub, Nat.reduceLT, Nat.reduceLeDiff, Nat.le_refl, Nat.zero_le, Nat.zero_add, Nat.add_zero, Nat.mul_one, splice_zero, Int.toNat_natCast, Int.natCast_nonneg, Int.reduceLE, Int.reduceLT, Int.reduceToNat, Int.reduceEq, Int.cast_ofNat_Int, ne_eq, not_true_eq_false, not_false_eq_true, imp_self, implies_true, true_implies, false_implies, and_self, List.length_map, List.length_drop]
        refine key _ _ ?_
        exact ⟨_, _, _, _, r2, .first hr h0 hk, rfl, rfl, rfl⟩
      · simp only [go_sem, kb, decide_eq_true h0, decide_eq_false h1, reduceIte, Nat.reduceEqDiff, Nat.reduceAdd, Nat.reduceMul, Nat.reduceSub, Nat.reduceLT, Nat.reduceLeDiff, Nat.le_refl, Nat.zero_le, Nat.zero_add, Nat.add_zero, Nat.mul_one, splice_zero, Int.toNat_natCast, Int.natCast_nonneg, Int.reduceLE, Int.reduceLT, Int.reduceToNat, Int.reduceEq, Int.cast_ofNat_Int, ne_eq, not_true_eq_false, not_false_eq_true, imp_self, implies_true, true_implies, false_implies, and_self, List.length_map, List.length_drop]
        refine key _ _ ?_
        exact ⟨_, _, _, _, r0, .start fun h => h1 h.2, rfl, rfl, rfl⟩
    · simp only [go_sem, kb, decide_eq_false h0, reduceIte, Nat.reduceEqDiff, Nat.reduceAdd, Nat.reduceMul, Nat.reduceSub, Nat.reduceLT, Nat.reduceLeDiff, Nat.le_refl, Nat.zero_le, Nat.zero_add, Nat.add_zero, Nat.mul_one, splice_zero, Int.toNat_natCast, Int.natCast_nonneg, Int.reduceLE, Int.reduceLT, Int.reduceToNat, Int.reduceEq, Int.cast_ofNat_Int, ne_eq, not_true_eq_false, not_false_eq_true, imp_self, implies_true, true_implies, false_implies, and_self, List.length_map, List.length_drop]
      refine key _ _ ?_
      exact ⟨_, _, _, _, r0, .start fun h => h0 h.1, rfl, rfl, rfl⟩
  case h2 =>
    rintro fr σ1 ⟨lo, lw, ou, vs, h, hL, f2, f5, f6⟩
    simp only [go_sem, r_block, reduceIte, Nat.reduceEqDiff, Nat.reduceAdd, Nat.reduceMul, Nat.reduceSub, Nat.reduceLT, Nat.reduceLeDiff, Nat.le_refl, Nat.zero_le, Nat.zero_add, Nat.add_zero, Nat.mul_one, splice_zero, Int.toNat_natCast, Int.natCast_nonneg, Int.reduceLE, Int.reduceLT, Int.reduceToNat, Int.reduceEq, Int.cast_ofNat_Int, ne_eq, not_true_eq_false, not_false_eq_true, imp_self, implies_true, true_implies, false_implies, and_self, List.length_map, List.length_drop]
    refine ⟨fun m fr σ1 => ∃ lo lw ou vs, m = r.bo.length - ou.length ∧ RO β σ1 lo lw ou vs ∧ LO r first ou vs ∧ fr 2 = ptr b ∧ fr 5 = lo ∧ fr 6 = lw, ⟨_, lo, lw, ou, vs, rfl, h, hL, f2, f5, f6⟩, ?_⟩
    clear h hL f2 f5 f6 lo lw ou vs fr σ1
    rintro m fr σ1 ⟨lo, lw, ou, vs, rfl, h, hL, f2, f5, f6⟩
    have kb1 := (h.2.2.2 _ _ kb).1
    have hlen := hL.len hr
    simp only [go_sem, f2, f5, f6, h.1.len, kb1, reduceIte, Nat.reduceEqDiff, Nat.reduceAdd, Nat.reduceMul, Nat.reduceSub, Nat.reduceLT, Nat.reduceLeDiff, Nat.le_refl, Nat.zero_le, Nat.zero_add, Nat.add_zero, Nat.mul_one, splice_zero, Int.toNat_natCast, Int.natCast_nonneg, Int.reduceLE, Int.reduceLT, Int.reduceToNat, Int.reduceEq, Int.cast_ofNat_Int, ne_eq, not_true_eq_false, not_false_eq_true, imp_self, implies_true, true_implies, false_implies, and_self, List.length_map, List.length_drop]
    refine aIf_by (fun hlt => ?_) (fun hlt => ?_)
    · simp only [go_sem, r_block, f2, f5, f6, reduceIte, Nat.reduceEqDiff, Nat.reduceAdd, Nat.reduceMul, Nat.reduceSub, Nat.reduceLT, Nat.reduceLeDiff, Nat.le_refl, Nat.zero_le, Nat.zero_add, Nat.add_zero, Nat.mul_one, splice_zero, Int.toNat_natCast, Int.natCast_nonneg, Int.reduceLE, Int.reduceLT, Int.reduceToNat, Int.reduceEq, Int.cast_ofNat_Int, ne_eq, not_true_eq_false, not_false_eq_true, imp_self, implies_true, true_implies, false_implies, and_self, List.length_map, List.length_drop]
      refine ⟨fun m fr σ' => ∃ k : Nat, m = r.bo.length - k ∧ k ≤ r.bo.length ∧ σ' = σ1 ∧ fr 2 = ptr b ∧ fr 5 = lo ∧ fr 6 = lw ∧ fr 7 = int (bst r.bo ou vs k).1 ∧ fr 8 = int (bst r.bo ou vs k).2 ∧ fr 9 = int k, ⟨_, 0, rfl, by omega, rfl, f2, f5, f6, rfl, rfl, rfl⟩, ?_⟩
      clear f2 f5 f6 fr
      rintro m fr σ' ⟨k, rfl, hk, rfl, f2, f5, f6, f7, f8, f9⟩
      simp only [go_sem, f2, f5, f6, f7, f8, f9, kb1, reduceIte, Nat.reduceEqDiff, Nat.reduceAdd, Nat.reduceMul, Nat.reduceSub, Nat.reduceLT, Nat.reduceLeDiff, Nat.le_refl, Nat.zero_le, Nat.zero_add, Nat.add_zero, Nat.mul_one, splice_zero, Int.toNat_natCast, Int.natCast_nonneg, Int.reduceLE, Int.reduceLT, Int.reduceToNat, Int.reduceEq, Int.cast_ofNat_Int, ne_eq, not_true_eq_false, not_false_eq_true, imp_self, implies_true, true_implies, false_implies, and_self, List.length_map, List.length_drop]
      refine aIf_by (fun hlt2 => ?_) (fun hlt2 => ?_)
      · have hkl : k < r.bo.length := by omega
        have hal := hr.2 _ (List.getElem_mem hkl)
        simp only [go_sem, r_block, f2, f6, f9, kb1, liC_get hkl, reduceIte, Nat.reduceEqDiff, Nat.reduceAdd, Nat.reduceMul, Nat.reduceSub, Nat.reduceLT, Nat.reduceLeDiff, Nat.le_refl, Nat.zero_le, Nat.zero_add, Nat.add_zero, Nat.mul_one, splice_zero, Int.toNat_natCast, Int.natCast_nonneg, Int.reduceLE, Int.reduceLT, Int.reduceToNat, Int.reduceEq, Int.cast_ofNat_Int, ne_eq, not_true_eq_false, not_false_eq_true, imp_self, implies_true, true_implies, false_implies, and_self, List.length_map, List.length_drop]
        refine ⟨by omega, (known_at r.bo[k].by' (by omega) (.of h.2.1)).mono ?_⟩
        rintro _ σ1 ⟨rfl, rfl⟩
        simp only [go_sem, r_block, f2, f5, f6, f7, f8, f9, kb1, reduceIte, Nat.reduceEqDiff, Nat.reduceAdd, Nat.reduceMul, Nat.reduceSub, Nat.reduceLT, Nat.reduceLeDiff, Nat.le_refl, Nat.zero_le, Nat.zero_add, Nat.add_zero, Nat.mul_one, splice_zero, Int.toNat_natCast, Int.natCast_nonneg, Int.reduceLE, Int.reduceLT, Int.reduceToNat, Int.reduceEq, Int.cast_ofNat_Int, ne_eq, not_true_eq_false, not_false_eq_true, imp_self, implies_true, true_implies, false_implies, and_self, List.length_map, List.length_drop]
        obtain ⟨l, hl⟩ : ∃ l, l = r.bo[k] := ⟨_, rfl⟩
        have hg : r.bo.getD k .zero = l := by rw [hl, li_getD hkl]
        rw [← hl] at hal
        refine ⟨fun m fr σ' => ∃ i : Nat, m = l.ar.length - i ∧ i ≤ l.ar.length ∧ σ' = σ1 ∧ fr 2 = ptr b ∧ fr 5 = lo ∧ fr 6 = lw ∧ fr 7 = int (bst r.bo ou vs k).1 ∧ fr 8 = int (bst r.bo ou vs k).2 ∧ fr 9 = int k ∧ fr 10 = int ((kn l.by' vs + knS (l.ar.take i) vs : Nat) : Int) ∧ fr 11 = int i, ⟨_, 0, rfl, by omega, rfl, f2, f5, f6, f7, f8, f9, by rw [hl]; rfl, rfl⟩, ?_⟩
        clear f2 f5 f6 f7 f8 f9 fr
        rintro m fr σ' ⟨i, rfl, h1, rfl, f2, f5, f6, f7, f8, f9, f10, f11⟩
        have eg : (liC r.bo).getD k [] = l.cs := by rw [hl]; exact liC_get hkl
        simp only [go_sem, f2, f5, f6, f7, f8, f9, f10, f11, kb1, eg, reduceIte, Nat.reduceEqDiff, Nat.reduceAdd, Nat.reduceMul, Nat.reduceSub, Nat.reduceLT, Nat.reduceLeDiff, Nat.le_refl, Nat.zero_le, Nat.zero_add, Nat.add_zero, Nat.mul_one, splice_zero, Int.toNat_natCast, Int.natCast_nonneg, Int.reduceLE, Int.reduceLT, Int.reduceToNat, Int.reduceEq, Int.cast_ofNat_Int, ne_eq, not_true_eq_false, not_false_eq_true, imp_self, implies_true, true_implies, false_implies, and_self, List.length_map, List.length_drop]
        refine ⟨by omega, aIf_by (fun hlt3 => ?_) (fun hlt3 => ?_)⟩
        · have hi : i < l.ar.length := by omega
          simp only [go_sem, r_block, f2, f5, f6, f7, f8, f9, f10, f11, kb1, eg, tmC_get hi, reduceIte, Nat.reduceEqDiff, Nat.reduceAdd, Nat.reduceMul, Nat.reduceSub, Nat.reduceLT, Nat.reduceLeDiff, Nat.le_refl, Nat.zero_le, Nat.zero_add, Nat.add_zero, Nat.mul_one, splice_zero, Int.toNat_natCast, Int.natCast_nonneg, Int.reduceLE, Int.reduceLT, Int.reduceToNat, Int.reduceEq, Int.cast_ofNat_Int, ne_eq, not_true_eq_false, not_false_eq_true, imp_self, implies_true, true_implies, false_implies, and_self, List.length_map, List.length_drop]
          refine ⟨by omega, by omega, (known_at l.ar[i] (by omega) (.of h.2.1)).mono ?_⟩
          rintro _ σ1 ⟨rfl, rfl⟩
          have hb1 := kn_le l.by' vs
          have hb2 := kn_le l.ar[i] vs
          have hb3 := knS_le vs (l.ar.take i)
          rw [List.length_take] at hb3
          have e1 : IntKind.i64.wrap (((kn l.by' vs + knS (l.ar.take i) vs : Nat) : Int) + (kn l.ar[i] vs : Int)) = ((kn l.by' vs + knS (l.ar.take (i + 1)) vs : Nat) : Int) := by
            rw [knS_take vs hi, wrap64 (by omega)]; omega
          simp only [go_sem, r_block, f2, f5, f6, f7, f8, f9, f10, f11, e1, next64 (show i < 9223372036854775807 by omega), reduceIte, Nat.reduceEqDiff, Nat.reduceAdd, Nat.reduceMul, Nat.reduceSub, Nat.reduceLT, Nat.reduceLeDiff, Nat.le_refl, Nat.zero_le, Nat.zero_add, Nat.add_zero, Nat.mul_one, splice_zero, Int.toNat_natCast, Int.natCast_nonneg, Int.reduceLE, Int.reduceLT, Int.reduceToNat, Int.reduceEq, Int.cast_ofNat_Int, ne_eq, not_true_eq_false, not_false_eq_true, imp_self, implies_true, true_implies, false_implies, and_self, List.length_map, List.length_drop]
          exact ⟨l.ar.length - (i + 1), by omega, i + 1, rfl, by omega, rfl, rfl⟩
        · rw [List.take_of_length_le (by omega)] at f10
          have f10 : fr 10 = int (knL l vs) := f10
          simp only [go_sem, r_block, f2, f5, f6, f7, f8, f9, f10, f11, reduceIte, Nat.reduceEqDiff, Nat.reduceAdd, Nat.reduceMul, Nat.reduceSub, Nat.reduceLT, Nat.reduceLeDiff, Nat.le_refl, Nat.zero_le, Nat.zero_add, Nat.add_zero, Nat.mul_one, splice_zero, Int.toNat_natCast, Int.natCast_nonneg, Int.reduceLE, Int.reduceLT, Int.reduceToNat, Int.reduceEq, Int.cast_ofNat_Int, ne_eq, not_true_eq_false, not_false_eq_true, imp_self, implies_true, true_implies, false_implies, and_self, List.length_map, List.length_drop]
          refine (in_at (by rw [nats_len]; omega) (.of h.1)).mono ?_
          rintro _ σ1 ⟨rfl, rfl⟩
          have hst : bst r.bo ou vs (k + 1) = if k ∉ ou ∧ (bst r.bo ou vs k).2 < (knL l vs : Int) then ((k : Int), (knL l vs : Int)) else bst r.bo ou vs k := by
            rw [← hg]; rfl
          by_cases g1 : (k : Int) ∈ nats ou
          · have e : bst r.bo ou vs (k + 1) = bst r.bo ou vs k := by rw [hst, if_neg fun h => h.1 (nats_mem.1 g1)]
            simp only [go_sem, r_block, f2, f5, f6, f7, f8, f9, f10, f11, decide_eq_true g1, Bool.not_true, next64 (show k < 9223372036854775807 by omega), reduceIte, Nat.reduceEqDiff, Nat.reduceAdd, Nat.reduceMul, Nat.reduceSub, Nat.reduceLT, Nat.reduceLeDiff, Nat.le_refl, Nat.zero_le, Nat.zero_add, Nat.add_zero, Nat.mul_one, splice_zero, Int.toNat_natCast, Int.natCast_nonneg, Int.reduceLE, Int.reduceLT, Int.reduceToNat, Int.reduceEq, Int.cast_ofNat_Int, ne_eq, not_true_eq_false, not_false_eq_true, imp_self, implies_true, true_implies, false_implies, and_self, List.length_map, List.length_drop]
            exact ⟨r.bo.length - (k + 1), by omega, k + 1, rfl, by omega, by rw [e], by rw [e], rfl⟩
          · simp only [go_sem, r_block, f2, f5, f6, f7, f8, f9, f10, f11, decide_eq_false g1, Bool.not_false, reduceIte, Nat.reduceEqDiff, Nat.reduceAdd, Nat.reduceMul, Nat.reduceSub, Nat.reduceLT, Nat.reduceLeDiff, Nat.le_refl, Nat.zero_le, Nat.zero_add, Nat.add_zero, Nat.mul_one, splice_zero, Int.toNat_natCast, Int.natCast_nonneg, Int.reduceLE, Int.reduceLT, Int.reduceToNat, Int.reduceEq, Int.cast_ofNat_Int, ne_eq, not_true_eq_false, not_false_eq_true, imp_self, implies_true, true_implies, false_implies, and_self, List.length_map, List.length_drop]
            refine aIf_by (fun g2 => ?_) (fun g2 => ?_)
            · have e : bst r.bo ou vs (k + 1) = ((k : Int), (knL l vs : Int)) := by rw [hst, if_pos ⟨fun h => g1 (nats_mem.2 h), g2⟩]
              simp only [go_sem, r_block, f2, f5, f6, f7, f8, f9, f10, f11, next64 (show k < 9223372036854775807 by omega), reduceIte, Nat.reduceEqDiff, Nat.reduceAdd, Nat.reduceMul, Nat.reduceSub, Nat.reduceLT, Nat.reduceLeDiff, Nat.le_refl, Nat.zero_le, Nat.zero_add, Nat.add_zero, Nat.mul_one, splice_zero, Int.toNat_natCast, Int.natCast_nonneg, Int.reduceLE, Int.reduceLT, Int.reduceToNat, Int.reduceEq, Int.cast_ofNat_Int, ne_eq, not_true_eq_false, not_false_eq_true, imp_self, implies_true, true_implies, false_implies, and_self, List.length_map, List.length_drop]
              exact ⟨r.bo.length - (k + 1), by omega, k + 1, rfl, by omega, by rw [e], by rw [e], rfl⟩
            · have e : bst r.bo ou vs (k + 1) = bst r.bo ou vs k := by rw [hst, if_neg fun h => g2 h.2]
              simp only [go_sem, r_block, f2, f5, f6, f7, f8, f9, f10, f11, next64 (show k < 9223372036854775807 by omega), reduceIte, Nat.reduceEqDiff, Nat.reduceAdd, Nat.reduceMul, Nat.reduceSub, Nat.reduceLT, Nat.reduceLeDiff, Nat.le_refl, Nat.zero_le, Nat.zero_add, Nat.add_zero, Nat.mul_one, splice_zero, Int.toNat_natCast, Int.natCast_nonneg, Int.reduceLE, Int.reduceLT, Int.reduceToNat, Int.reduceEq, Int.cast_ofNat_Int, ne_eq, not_true_eq_false, not_false_eq_true, imp_self, implies_true, true_implies, false_implies, and_self, List.length_map, List.length_drop]
              exact ⟨r.bo.length - (k + 1), by omega, k + 1, rfl, by omega, by rw [e], by rw [e], rfl⟩
      · obtain rfl : k = r.bo.length := by omega
        obtain ⟨c, hc, e, hN⟩ := hL.next hr (by omega)
        rw [e] at f7
        simp only [go_sem, r_block, f2, f5, f6, f7, f8, f9, kb1, reduceIte, Nat.reduceEqDiff, Nat.reduceAdd, Nat.reduceMul, Nat.reduceSub, Nat.reduceLT, Nat.reduceLeDiff, Nat.le_refl, Nat.zero_le, Nat.zero_add, Nat.add_zero, Nat.mul_one, splice_zero, Int.toNat_natCast, Int.natCast_nonneg, Int.reduceLE, Int.reduceLT, Int.reduceToNat, Int.reduceEq, Int.cast_ofNat_Int, ne_eq, not_true_eq_false, not_false_eq_true, imp_self, implies_true, true_implies, false_implies, and_self, List.length_map, List.length_drop]
        refine aApp_by (ys := [[int c]]) (by simp [src]) (by decide) (by decide) (by decide) (h.1.app (by rw [inC_len, nats_len]; simp only [List.length_cons, List.length_nil]; omega) fun lo' σ2 hl hs => ?_)
        rw [nats_snoc] at hl
        have r1 := h.num hl hs
        have kb2 := (r1.2.2.2 _ _ kb).1
        simp only [go_sem, r_block, f2, f6, f7, kb2, liC_get hc, reduceIte, Nat.reduceEqDiff, Nat.reduceAdd, Nat.reduceMul, Nat.reduceSub, Nat.reduceLT, Nat.reduceLeDiff, Nat.le_refl, Nat.zero_le, Nat.zero_add, Nat.add_zero, Nat.mul_one, splice_zero, Int.toNat_natCast, Int.natCast_nonneg, Int.reduceLE, Int.reduceLT, Int.reduceToNat, Int.reduceEq, Int.cast_ofNat_Int, ne_eq, not_true_eq_false, not_false_eq_true, imp_self, implies_true, true_implies, false_implies, and_self, List.length_map, List.length_drop]
        have hal := hr.2 _ (List.getElem_mem hc)
        refine ⟨by omega, (vars_at r.bo[c] (by omega) (by omega) r1.2.1).mono ?_⟩
        rintro lw' σ3 ⟨hl2, hs2⟩
        have r2 := r1.var hl2 hs2
        simp only [go_sem, r_block, f2, reduceIte, Nat.reduceEqDiff, Nat.reduceAdd, Nat.reduceMul, Nat.reduceSub, Nat.reduceLT, Nat.reduceLeDiff, Nat.le_refl, Nat.zero_le, Nat.zero_add, Nat.add_zero, Nat.mul_one, splice_zero, Int.toNat_natCast, Int.natCast_nonneg, Int.reduceLE, Int.reduceLT, Int.reduceToNat, Int.reduceEq, Int.cast_ofNat_Int, ne_eq, not_true_eq_false, not_false_eq_true, imp_self, implies_true, true_implies, false_implies, and_self, List.length_map, List.length_drop]
        have := perm_len _ _ hN.1
        simp only [List.length_append, List.length_cons, List.length_nil] at this
        exact ⟨_, by simp only [List.length_append, List.length_cons, List.length_nil]; omega, lo', lw', _, _, rfl, r2, hN, rfl, rfl⟩
    · simp only [go_sem, r_block, f5, reduceIte, Nat.reduceEqDiff, Nat.reduceAdd, Nat.reduceMul, Nat.reduceSub, Nat.reduceLT, Nat.reduceLeDiff, Nat.le_refl, Nat.zero_le, Nat.zero_add, Nat.add_zero, Nat.mul_one, splice_zero, Int.toNat_natCast, Int.natCast_nonneg, Int.reduceLE, Int.reduceLT, Int.reduceToNat, Int.reduceEq, Int.cast_ofNat_Int, ne_eq, not_true_eq_false, not_false_eq_true, imp_self, implies_true, true_implies, false_implies, and_self, List.length_map, List.length_drop]
      obtain rfl := hL.done (by omega)
      exact aRet_view (r := lo) rfl _ σ (view_of (sv_of fun x o hx => .inl (h.2.2.2 x o (ks x o hx)).1) (h.1.vw_same fun x hx => Classical.byContradiction fun hn => by
        obtain ⟨o, ho⟩ := Option.ne_none_iff_exists'.1 hn
        exact (h.2.2.2 x o (ks x o ho)).2.1 hx)) ⟨rfl, rfl⟩
end
end Go.Proofs.Ythdfpankebjleaa
