/-
  The document's own end (avowalref23.Link): Push, Tick; its lists held together.
  Conditions: none.
-/
import Derived.Test.YtpdbmnogfanpmaaLh
set_option linter.unusedVariables false
set_option linter.unusedSimpArgs false
namespace Go.Proofs.Ytpdbmnogfanpmaa
open Go Go.Av

/-- A kept item's cells. -/
def kc (p : Int × Itm) : List AV := int p.1 :: p.2.cs
theorem kc_len (p : Int × Itm) : (kc p).length = 39 := by simp [kc, p.2.len]
theorem kc_one (p : Int × Itm) : (kc p).all AV.one = true := by
  have := p.2.one
  simp only [kc, List.all_cons, this]
  rfl
theorem kc_take (p : Int × Itm) : (kc p).take 39 = kc p := List.take_of_length_le (by rw [kc_len]; exact Nat.le_refl _)
theorem kc_at0 (p : Int × Itm) : (kc p).getD 0 (.v undef) = int p.1 := rfl
theorem kc_at1 (p : Int × Itm) : ((kc p).drop 1).take 38 = p.2.cs := p.2.take

structure Rs where
  L : List Itm
  gone : Nat
  came : Int
  kept : List (Int × Itm)
  owes : Bool
  lv : AV
  kv : AV
def Rs.foot (R : Rs) (r x : Nat) : Prop := x = r ∨ Own R.lv x ∨ Own R.kv x
def rC (R : Rs) : List AV := [R.lv, int R.gone, int R.came, R.kv, boo R.owes]
structure RAt (σ : St) (r : Nat) (R : Rs) : Prop where
  ob : σ r = some (.cells (rC R))
  l : LAt 38 σ R.lv (R.L.map Itm.cs)
  k : LAt 39 σ R.kv (R.kept.map kc)
/-- From here to there only this end was written to. -/
def Fro (σ σ' : St) (r : Nat) (R R' : Rs) : Prop := ∀ y o, σ y = some o → ¬ R.foot r y → σ' y = some o ∧ ¬ R'.foot r y

section
variable {σ σ' : St} {r : Nat} {R R' R'' : Rs}
set_option maxRecDepth 100000

theorem RAt.keep (h : RAt σ r R) (hk : ∀ x o, σ x = some o → R.foot r x → σ' x = some o) : RAt σ' r R :=
  ⟨hk _ _ h.ob (.inl rfl), h.l.keep fun x o hx ho => hk x o hx (.inr (.inl ho)), h.k.keep fun x o hx ho => hk x o hx (.inr (.inr ho))⟩
theorem RAt.nl (h : RAt σ r R) : ¬ Own R.lv r := h.l.not_own h.ob
theorem RAt.nk (h : RAt σ r R) : ¬ Own R.kv r := h.k.not_own h.ob
theorem RAt.lk (h : RAt σ r R) {x : Nat} (h1 : Own R.lv x) (h2 : Own R.kv x) : False := by
  obtain ⟨c, hc⟩ := h.l.own_rows h1
  obtain ⟨d, hd⟩ := h.k.own_rows h2
  rw [hc] at hd
  injection hd with hd
  injection hd with hd
  cases hd
theorem RAt.some (h : RAt σ r R) {x : Nat} (hx : R.foot r x) : ∃ o, σ x = some o := by
  rcases hx with rfl | hx | hx
  · exact ⟨_, h.ob⟩
  · obtain ⟨c, hc⟩ := h.l.own_rows hx; exact ⟨_, hc⟩
  · obtain ⟨c, hc⟩ := h.k.own_rows hx; exact ⟨_, hc⟩
theorem Fro.refl : Fro σ σ r R R := fun y o h hn => ⟨h, hn⟩
theorem Fro.trans {σ'' : St} (h : Fro σ σ' r R R') (h' : Fro σ' σ'' r R' R'') : Fro σ σ'' r R R'' := fun y o hy hn => h' y o (h y o hy hn).1 (h y o hy hn).2
theorem Fro.new {c : Nat} {o : AObj} (hc : σ c = none) : Fro σ (σ.set c o) r R R := fun y p h hn => ⟨set_sub hc (fun _ _ h => h) y p h, hn⟩
/-- The other cells are written. -/
theorem RAt.set (h : RAt σ r R) (hl : R'.lv = R.lv) (hL : R'.L = R.L) (hk : R'.kv = R.kv) (hK : R'.kept = R.kept) : RAt (σ.set r (.cells (rC R'))) r R' ∧ Fro σ (σ.set r (.cells (rC R'))) r R R' := by
  have hf : ∀ x, R'.foot r x ↔ R.foot r x := fun x => by unfold Rs.foot; rw [hl, hk]
  refine ⟨⟨set_same, ?_, ?_⟩, fun y o hy hn => ⟨by rw [set_ne]; exact hy; rintro rfl; exact hn (.inl rfl), fun h' => hn ((hf y).1 h')⟩⟩
  · rw [hl, hL]
    exact h.l.keep fun x o hx ho => by rw [set_ne]; exact hx; rintro rfl; exact h.nl ho
  · rw [hk, hK]
    exact h.k.keep fun x o hx ho => by rw [set_ne]; exact hx; rintro rfl; exact h.nk ho
/-- Another list of items. -/
theorem RAt.setl (h : RAt σ r R) {lv : AV} {L : List Itm} (hL : LAt 38 σ' lv (L.map Itm.cs)) (hs : ∀ x o, σ x = Option.some o → ¬ Own R.lv x → σ' x = Option.some o ∧ ¬ Own lv x) :
    RAt (σ'.set r (.cells (rC { R with L := L, lv := lv }))) r { R with L := L, lv := lv } ∧ Fro σ (σ'.set r (.cells (rC { R with L := L, lv := lv }))) r R { R with L := L, lv := lv } := by
  have h0 := hs r _ h.ob h.nl
  refine ⟨⟨set_same, hL.keep fun x o hx ho => by rw [set_ne]; exact hx; rintro rfl; exact h0.2 ho, h.k.keep fun x o hx ho => ?_⟩, fun y o hy hn => ⟨?_, ?_⟩⟩
  · rw [set_ne (by rintro rfl; exact h.nk ho)]
    exact (hs x o hx fun h' => h.lk h' ho).1
  · rw [set_ne (by rintro rfl; exact hn (.inl rfl))]
    exact (hs y o hy fun h' => hn (.inr (.inl h'))).1
  · rintro (h' | h' | h')
    · exact hn (.inl h')
    · exact (hs y o hy fun h'' => hn (.inr (.inl h''))).2 h'
    · exact hn (.inr (.inr h'))
/-- Another list of what is kept. -/
theorem RAt.setk (h : RAt σ r R) {kv : AV} {K : List (Int × Itm)} (hK : LAt 39 σ' kv (K.map kc)) (hs : ∀ x o, σ x = Option.some o → ¬ Own R.kv x → σ' x = Option.some o ∧ ¬ Own kv x) :
    RAt (σ'.set r (.cells (rC { R with kept := K, kv := kv }))) r { R with kept := K, kv := kv } ∧ Fro σ (σ'.set r (.cells (rC { R with kept := K, kv := kv }))) r R { R with kept := K, kv := kv } := by
  have h0 := hs r _ h.ob h.nk
  refine ⟨⟨set_same, h.l.keep fun x o hx ho => ?_, hK.keep fun x o hx ho => by rw [set_ne]; exact hx; rintro rfl; exact h0.2 ho⟩, fun y o hy hn => ⟨?_, ?_⟩⟩
  · rw [set_ne (by rintro rfl; exact h.nl ho)]
    exact (hs x o hx fun h' => h.lk ho h').1
  · rw [set_ne (by rintro rfl; exact hn (.inl rfl))]
    exact (hs y o hy fun h' => hn (.inr (.inr h'))).1
  · rintro (h' | h' | h')
    · exact hn (.inl h')
    · exact hn (.inr (.inl h'))
    · exact (hs y o hy fun h'' => hn (.inr (.inr h''))).2 h'

theorem rkind_at (x : Itm) : AT Try.prog 35 [.agg x.cs] σ fun r σ' => r = boo (decide (1 ≤ x.kind ∧ x.kind ≤ 4)) ∧ σ' = σ := by
  refine AT.of_body Try.func35 rfl (by decide) (by kernel_rfl) (by kernel_rfl) (Nat.le_of_ble_eq_true rfl) ?_
  simp only [go_sem, x.one, reduceIte, Nat.reduceEqDiff, Nat.reduceAdd, Nat.reduceMul, Nat.reduceSub, Nat.reduceLT, Nat.reduceLeDiff, Nat.le_refl, Nat.zero_le, Nat.zero_add, Nat.add_zero, Nat.mul_one, splice_zero, Int.toNat_natCast, Int.natCast_nonneg, Int.reduceLE, Int.reduceLT, Int.reduceToNat, Int.reduceEq, Int.cast_ofNat_Int, ne_eq, not_true_eq_false, not_false_eq_true, imp_self, implies_true, true_implies, false_implies, and_self, List.length_map, List.length_drop]
  refine aNew_intro fun b hb _ => ?_
  simp only [go_sem, r_block, set_same, x.len, x.at0, reduceIte, Nat.reduceEqDiff, Nat.reduceAdd, Nat.reduceMul, Nat.reduceSub, Nat.reduceLT, Nat.reduceLeDiff, Nat.le_refl, Nat.zero_le, Nat.zero_add, Nat.add_zero, Nat.mul_one, splice_zero, Int.toNat_natCast, Int.natCast_nonneg, Int.reduceLE, Int.reduceLT, Int.reduceToNat, Int.reduceEq, Int.cast_ofNat_Int, ne_eq, not_true_eq_false, not_false_eq_true, imp_self, implies_true, true_implies, false_implies, and_self, List.length_map, List.length_drop]
  refine aIf_by (fun h1 => ?_) (fun h1 => ?_)
  · simp only [go_sem, r_block, set_same, x.len, x.at0, decide_eq_true h1, reduceIte, Nat.reduceEqDiff, Nat.reduceAdd, Nat.reduceMul, Nat.reduceSub, Nat.reduceLT, Nat.reduceLeDiff, Nat.le_refl, Nat.zero_le, Nat.zero_add, Nat.add_zero, Nat.mul_one, splice_zero, Int.toNat_natCast, Int.natCast_nonneg, Int.reduceLE, Int.reduceLT, Int.reduceToNat, Int.reduceEq, Int.cast_ofNat_Int, ne_eq, not_true_eq_false, not_false_eq_true, imp_self, implies_true, true_implies, false_implies, and_self, List.length_map, List.length_drop]
    refine aRet_view (r := boo (decide (x.kind ≤ 4))) rfl _ σ (view_drop (set_sub hb fun _ _ h => h)) ⟨?_, rfl⟩
    have : (1 ≤ x.kind ∧ x.kind ≤ 4) ↔ x.kind ≤ 4 := ⟨fun h => h.2, fun h => ⟨h1, h⟩⟩
    rw [decide_eq_decide.2 this]
  · simp only [go_sem, r_block, set_same, x.len, x.at0, decide_eq_false h1, reduceIte, Nat.reduceEqDiff, Nat.reduceAdd, Nat.reduceMul, Nat.reduceSub, Nat.reduceLT, Nat.reduceLeDiff, Nat.le_refl, Nat.zero_le, Nat.zero_add, Nat.add_zero, Nat.mul_one, splice_zero, Int.toNat_natCast, Int.natCast_nonneg, Int.reduceLE, Int.reduceLT, Int.reduceToNat, Int.reduceEq, Int.cast_ofNat_Int, ne_eq, not_true_eq_false, not_false_eq_true, imp_self, implies_true, true_implies, false_implies, and_self, List.length_map, List.length_drop]
    refine aRet_view (r := boo false) rfl _ σ (view_drop (set_sub hb fun _ _ h => h)) ⟨?_, rfl⟩
    rw [decide_eq_false (fun h => h1 h.1)]

def Rs.push (R : Rs) (x : Itm) : Int × List Itm := if 1 ≤ x.kind ∧ x.kind ≤ 4 then (if 1024 ≤ (R.L.length : Int) - R.gone then (150, R.L) else (0, R.L ++ [x])) else (2, R.L)
theorem rpush_at (h : RAt σ r R) (x : Itm) (hl : R.L.length ≤ 1000000) (hg : R.gone ≤ R.L.length) : AT Try.prog 22 [ptr r, .agg x.cs] σ fun e σ' => e = int (R.push x).1 ∧ ∃ lv, RAt σ' r { R with L := (R.push x).2, lv := lv } ∧ Fro σ σ' r R { R with L := (R.push x).2, lv := lv } := by
  refine AT.of_body Try.func22 rfl (by decide) (by kernel_rfl) (by kernel_rfl) (Nat.le_of_ble_eq_true rfl) ?_
  simp only [go_sem, x.one, reduceIte, Nat.reduceEqDiff, Nat.reduceAdd, Nat.reduceMul, Nat.reduceSub, Nat.reduceLT, Nat.reduceLeDiff, Nat.le_refl, Nat.zero_le, Nat.zero_add, Nat.add_zero, Nat.mul_one, splice_zero, Int.toNat_natCast, Int.natCast_nonneg, Int.reduceLE, Int.reduceLT, Int.reduceToNat, Int.reduceEq, Int.cast_ofNat_Int, ne_eq, not_true_eq_false, not_false_eq_true, imp_self, implies_true, true_implies, false_implies, and_self, List.length_map, List.length_drop]
  refine aNew_intro fun c hc hcm => ?_
  have h1 := h.keep (σ' := σ.set c (.cells x.cs)) fun y o hy _ => set_sub hc (fun _ _ h => h) y o hy
  have hc1 : (σ.set c (.cells x.cs)) c = some (.cells x.cs) := set_same
  have hF := Fro.new (r := r) (R := R) (o := .cells x.cs) hc
  revert h1 hc1 hF
  generalize σ.set c (.cells x.cs) = σ1
  intro h1 hc1 hF
  simp only [go_sem, r_block, hc1, x.len, x.take, reduceIte, Nat.reduceEqDiff, Nat.reduceAdd, Nat.reduceMul, Nat.reduceSub, Nat.reduceLT, Nat.reduceLeDiff, Nat.le_refl, Nat.zero_le, Nat.zero_add, Nat.add_zero, Nat.mul_one, splice_zero, Int.toNat_natCast, Int.natCast_nonneg, Int.reduceLE, Int.reduceLT, Int.reduceToNat, Int.reduceEq, Int.cast_ofNat_Int, ne_eq, not_true_eq_false, not_false_eq_true, imp_self, implies_true, true_implies, false_implies, and_self, List.length_map, List.length_drop]
  refine (rkind_at x).mono ?_
  rintro _ _ ⟨rfl, rfl⟩
  have h1' := h1.ob
  unfold rC at h1'
  simp only [go_sem, r_block, reduceIte, Nat.reduceEqDiff, Nat.reduceAdd, Nat.reduceMul, Nat.reduceSub, Nat.reduceLT, Nat.reduceLeDiff, Nat.le_refl, Nat.zero_le, Nat.zero_add, Nat.add_zero, Nat.mul_one, splice_zero, Int.toNat_natCast, Int.natCast_nonneg, Int.reduceLE, Int.reduceLT, Int.reduceToNat, Int.reduceEq, Int.cast_ofNat_Int, ne_eq, not_true_eq_false, not_false_eq_true, imp_self, implies_true, true_implies, false_implies, and_self, List.length_map, List.length_drop]
  refine aIf_by (fun hk => ?_) (fun hk => ?_)
  · simp only [go_sem, r_block, reduceIte, Nat.reduceEqDiff, Nat.reduceAdd, Nat.reduceMul, Nat.reduceSub, Nat.reduceLT, Nat.reduceLeDiff, Nat.le_refl, Nat.zero_le, Nat.zero_add, Nat.add_zero, Nat.mul_one, splice_zero, Int.toNat_natCast, Int.natCast_nonneg, Int.reduceLE, Int.reduceLT, Int.reduceToNat, Int.reduceEq, Int.cast_ofNat_Int, ne_eq, not_true_eq_false, not_false_eq_true, imp_self, implies_true, true_implies, false_implies, and_self, List.length_map, List.length_drop]
    refine aDraw_plan [.rd 0 false, .rd 1 false, .rd 2 false, .rd 3 true, .rd 4 false, .rd 5 false, .rd 6 false, .rd 7 false, .rd 8 true, .rd 9 false, .rd 10 false] (by kernel_rfl) (by kernel_rfl) (by kernel_rfl) ?_
    simp only [go_sem, r_block, h1', h1.l.len, reduceIte, Nat.reduceEqDiff, Nat.reduceAdd, Nat.reduceMul, Nat.reduceSub, Nat.reduceLT, Nat.reduceLeDiff, Nat.le_refl, Nat.zero_le, Nat.zero_add, Nat.add_zero, Nat.mul_one, splice_zero, Int.toNat_natCast, Int.natCast_nonneg, Int.reduceLE, Int.reduceLT, Int.reduceToNat, Int.reduceEq, Int.cast_ofNat_Int, ne_eq, not_true_eq_false, not_false_eq_true, imp_self, implies_true, true_implies, false_implies, and_self, List.length_map, List.length_drop]
    rw [wrap64 (by omega)]
    refine aIf_by (fun hf => ?_) (fun hf => ?_)
    · simp only [go_sem, r_block, reduceIte, Nat.reduceEqDiff, Nat.reduceAdd, Nat.reduceMul, Nat.reduceSub, Nat.reduceLT, Nat.reduceLeDiff, Nat.le_refl, Nat.zero_le, Nat.zero_add, Nat.add_zero, Nat.mul_one, splice_zero, Int.toNat_natCast, Int.natCast_nonneg, Int.reduceLE, Int.reduceLT, Int.reduceToNat, Int.reduceEq, Int.cast_ofNat_Int, ne_eq, not_true_eq_false, not_false_eq_true, imp_self, implies_true, true_implies, false_implies, and_self, List.length_map, List.length_drop]
      have e : R.push x = (150, R.L) := by unfold Rs.push; rw [if_pos hk, if_pos (by omega)]
      exact aRet_as (r := int 150) rfl (by rw [e]; exact ⟨rfl, R.lv, h1, hF⟩)
    · simp only [go_sem, r_block, reduceIte, Nat.reduceEqDiff, Nat.reduceAdd, Nat.reduceMul, Nat.reduceSub, Nat.reduceLT, Nat.reduceLeDiff, Nat.le_refl, Nat.zero_le, Nat.zero_add, Nat.add_zero, Nat.mul_one, splice_zero, Int.toNat_natCast, Int.natCast_nonneg, Int.reduceLE, Int.reduceLT, Int.reduceToNat, Int.reduceEq, Int.cast_ofNat_Int, ne_eq, not_true_eq_false, not_false_eq_true, imp_self, implies_true, true_implies, false_implies, and_self, List.length_map, List.length_drop]
      have e : R.push x = (0, R.L ++ [x]) := by unfold Rs.push; rw [if_pos hk, if_neg (by omega)]
      refine aDraw_plan [.rd 0 false, .rd 1 false, .rd 2 false, .rd 3 false, .rd 4 true, .rd 5 true, .rd 6 false, .ef 7 [], .rd 8 false, .rd 9 false, .ef 10 []] (by kernel_rfl) (by kernel_rfl) (by kernel_rfl) ?_
      simp only [go_sem, r_block, h1', hc1, x.len, x.take, x.one, reduceIte, Nat.reduceEqDiff, Nat.reduceAdd, Nat.reduceMul, Nat.reduceSub, Nat.reduceLT, Nat.reduceLeDiff, Nat.le_refl, Nat.zero_le, Nat.zero_add, Nat.add_zero, Nat.mul_one, splice_zero, Int.toNat_natCast, Int.natCast_nonneg, Int.reduceLE, Int.reduceLT, Int.reduceToNat, Int.reduceEq, Int.cast_ofNat_Int, ne_eq, not_true_eq_false, not_false_eq_true, imp_self, implies_true, true_implies, false_implies, and_self, List.length_map, List.length_drop]
      refine aApp_by (ys := [x.cs]) rfl (by decide) (by decide) zl1_one (h1.l.app (by simp; omega) fun lv σ2 hL hs => ?_)
      have h0 := (hs r _ h1.ob h1.nl).1
      unfold rC at h0
      simp only [go_sem, r_block, h0, hL.one, hL.cells, reduceIte, Nat.reduceEqDiff, Nat.reduceAdd, Nat.reduceMul, Nat.reduceSub, Nat.reduceLT, Nat.reduceLeDiff, Nat.le_refl, Nat.zero_le, Nat.zero_add, Nat.add_zero, Nat.mul_one, splice_zero, Int.toNat_natCast, Int.natCast_nonneg, Int.reduceLE, Int.reduceLT, Int.reduceToNat, Int.reduceEq, Int.cast_ofNat_Int, ne_eq, not_true_eq_false, not_false_eq_true, imp_self, implies_true, true_implies, false_implies, and_self, List.length_map, List.length_drop]
      have h2 := h1.setl (L := R.L ++ [x]) (by rw [List.map_append]; exact hL) hs
      refine aRet_as (r := int 0) rfl ?_
      rw [e]
      exact ⟨rfl, lv, h2.1, hF.trans h2.2⟩
  · simp only [go_sem, r_block, reduceIte, Nat.reduceEqDiff, Nat.reduceAdd, Nat.reduceMul, Nat.reduceSub, Nat.reduceLT, Nat.reduceLeDiff, Nat.le_refl, Nat.zero_le, Nat.zero_add, Nat.add_zero, Nat.mul_one, splice_zero, Int.toNat_natCast, Int.natCast_nonneg, Int.reduceLE, Int.reduceLT, Int.reduceToNat, Int.reduceEq, Int.cast_ofNat_Int, ne_eq, not_true_eq_false, not_false_eq_true, imp_self, implies_true, true_implies, false_implies, and_self, List.length_map, List.length_drop]
    have e : R.push x = (2, R.L) := by unfold Rs.push; rw [if_neg hk]
    exact aRet_as (r := int 2) rfl (by rw [e]; exact ⟨rfl, R.lv, h1, hF⟩)
end
end Go.Proofs.Ytpdbmnogfanpmaa
