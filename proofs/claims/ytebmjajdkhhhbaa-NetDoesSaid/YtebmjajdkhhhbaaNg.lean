/-
  Messages on their way (package net): All, and what a range over it tells.
  Conditions: none.
-/
import Derived.Test.YtebmjajdkhhhbaaNd
set_option linter.unusedVariables false
set_option linter.unusedSimpArgs false
namespace Go.Proofs.Ytebmjajdkhhhbaa
open Go Go.Av

abbrev itF (x : Nat) : AV := .v (.func (.func 33) #[] #[.pointer (some ⟨x, 0, none⟩)])
abbrev yieldF (l : Nat) : AV := .v (.func (.yield l) #[] #[])

section
variable {σ σ' : St} {p : Nat} {s : Ns}
set_option maxRecDepth 100000
set_option maxHeartbeats 1000000

theorem all_at (a : AV) (ha : a.one = true) (hc : a.cells = [a]) : AT Try.prog 19 [a] σ fun r σ' => ∃ x, σ x = none ∧ r = itF x ∧ σ' = σ.set x (.cells [a]) := by
  refine AT.of_body Try.func19 rfl (by decide) (by kernel_rfl) (by kernel_rfl) (Nat.le_of_ble_eq_true rfl) ?_
  simp only [go_sem, ha, hc, reduceIte, Nat.reduceEqDiff, Nat.reduceAdd, Nat.reduceMul, Nat.reduceSub, Nat.reduceLT, Nat.reduceLeDiff, Nat.le_refl, Nat.zero_le, Nat.zero_add, Nat.add_zero, Nat.mul_one, splice_zero, Int.toNat_natCast, Int.natCast_nonneg, Int.reduceLE, Int.reduceLT, Int.reduceToNat, Int.reduceEq, Int.cast_ofNat_Int, ne_eq, not_true_eq_false, not_false_eq_true, imp_self, implies_true, true_implies, false_implies, and_self, List.length_map, List.length_drop]
  refine aNew_intro fun x hx _ => ?_
  simp only [go_sem, ha, hc, reduceIte, Nat.reduceEqDiff, Nat.reduceAdd, Nat.reduceMul, Nat.reduceSub, Nat.reduceLT, Nat.reduceLeDiff, Nat.le_refl, Nat.zero_le, Nat.zero_add, Nat.add_zero, Nat.mul_one, splice_zero, Int.toNat_natCast, Int.natCast_nonneg, Int.reduceLE, Int.reduceLT, Int.reduceToNat, Int.reduceEq, Int.cast_ofNat_Int, ne_eq, not_true_eq_false, not_false_eq_true, imp_self, implies_true, true_implies, false_implies, and_self, List.length_map, List.length_drop]
  simp only [aFunc, exacts]
  simp only [go_sem, reduceIte, Nat.reduceEqDiff, Nat.reduceAdd, Nat.reduceMul, Nat.reduceSub, Nat.reduceLT, Nat.reduceLeDiff, Nat.le_refl, Nat.zero_le, Nat.zero_add, Nat.add_zero, Nat.mul_one, splice_zero, Int.toNat_natCast, Int.natCast_nonneg, Int.reduceLE, Int.reduceLT, Int.reduceToNat, Int.reduceEq, Int.cast_ofNat_Int, ne_eq, not_true_eq_false, not_false_eq_true, imp_self, implies_true, true_implies, false_implies, and_self, List.length_map, List.length_drop]
  exact aRet_as (r := itF x) rfl ⟨x, hx, rfl, rfl⟩

theorem iter_at {l x : Nat} (Inv : Nat → St → Prop) (Stop : St → Prop) (hx : σ x = some (.cells [ptr p])) (hp : σ p = some s.O) (ho : s.Ok) (h0 : Inv 0 σ) (hnew : ∀ j σ c o, Inv j σ → σ c = none → Inv j (σ.set c o))
    (step : ∀ j (hj : j < s.l.length) σ', Inv j σ' → YC Try.prog l [.agg (s.l[j]).cs] σ' fun v σ'' => (v = boo true ∧ Inv (j + 1) σ'') ∨ (v = boo false ∧ Stop σ'')) :
    AT Try.prog 33 [yieldF l, ptr x] σ fun _ σ' => Inv s.l.length σ' ∨ Stop σ' := by
  refine AT.of_body Try.func33 rfl (by decide) (by kernel_rfl) (by kernel_rfl) (Nat.le_of_ble_eq_true rfl) ?_
  have hp' := hp
  unfold Ns.O nO at hp'
  simp only [go_sem, r_block, hx, reduceIte, Nat.reduceEqDiff, Nat.reduceAdd, Nat.reduceMul, Nat.reduceSub, Nat.reduceLT, Nat.reduceLeDiff, Nat.le_refl, Nat.zero_le, Nat.zero_add, Nat.add_zero, Nat.mul_one, splice_zero, Int.toNat_natCast, Int.natCast_nonneg, Int.reduceLE, Int.reduceLT, Int.reduceToNat, Int.reduceEq, Int.cast_ofNat_Int, ne_eq, not_true_eq_false, not_false_eq_true, imp_self, implies_true, true_implies, false_implies, and_self, List.length_map, List.length_drop]
  refine (none_at hp).mono ?_
  rintro _ σ ⟨rfl, rfl⟩
  simp only [go_sem, r_block, hx, hp', reduceIte, Nat.reduceEqDiff, Nat.reduceAdd, Nat.reduceMul, Nat.reduceSub, Nat.reduceLT, Nat.reduceLeDiff, Nat.le_refl, Nat.zero_le, Nat.zero_add, Nat.add_zero, Nat.mul_one, splice_zero, Int.toNat_natCast, Int.natCast_nonneg, Int.reduceLE, Int.reduceLT, Int.reduceToNat, Int.reduceEq, Int.cast_ofNat_Int, ne_eq, not_true_eq_false, not_false_eq_true, imp_self, implies_true, true_implies, false_implies, and_self, List.length_map, List.length_drop]
  refine ⟨fun m fr σ' => ∃ j : Nat, m = s.l.length - j ∧ j ≤ s.l.length ∧ fr 0 = yieldF l ∧ fr 10 = .sl 3 (s.l.map Msg.cs) ∧ fr 11 = int s.l.length ∧ fr 12 = int j ∧ Inv j σ', ⟨_, 0, rfl, by omega, rfl, rfl, rfl, rfl, h0⟩, ?_⟩
  rintro m fr σ1 ⟨j, rfl, hj, f0, f10, f11, f12, hI⟩
  have hln := ho.ln
  simp only [go_sem, r_block, f0, f10, f11, f12, reduceIte, Nat.reduceEqDiff, Nat.reduceAdd, Nat.reduceMul, Nat.reduceSub, Nat.reduceLT, Nat.reduceLeDiff, Nat.le_refl, Nat.zero_le, Nat.zero_add, Nat.add_zero, Nat.mul_one, splice_zero, Int.toNat_natCast, Int.natCast_nonneg, Int.reduceLE, Int.reduceLT, Int.reduceToNat, Int.reduceEq, Int.cast_ofNat_Int, ne_eq, not_true_eq_false, not_false_eq_true, imp_self, implies_true, true_implies, false_implies, and_self, List.length_map, List.length_drop]
  refine aIf_by (fun k1 => ?_) (fun k1 => ?_)
  · have hjl : j < s.l.length := by omega
    have eg := msgs_get hjl
    simp only [go_sem, r_block, f0, f10, f11, f12, eg, Msg.len, Msg.take, reduceIte, Nat.reduceEqDiff, Nat.reduceAdd, Nat.reduceMul, Nat.reduceSub, Nat.reduceLT, Nat.reduceLeDiff, Nat.le_refl, Nat.zero_le, Nat.zero_add, Nat.add_zero, Nat.mul_one, splice_zero, Int.toNat_natCast, Int.natCast_nonneg, Int.reduceLE, Int.reduceLT, Int.reduceToNat, Int.reduceEq, Int.cast_ofNat_Int, ne_eq, not_true_eq_false, not_false_eq_true, imp_self, implies_true, true_implies, false_implies, and_self, List.length_map, List.length_drop]
    refine ⟨by omega, aNew_intro fun c hc _ => ?_⟩
    simp only [go_sem, r_block, f0, f10, f11, f12, eg, Msg.len, Msg.one, Msg.at2, set_same, reduceIte, Nat.reduceEqDiff, Nat.reduceAdd, Nat.reduceMul, Nat.reduceSub, Nat.reduceLT, Nat.reduceLeDiff, Nat.le_refl, Nat.zero_le, Nat.zero_add, Nat.add_zero, Nat.mul_one, splice_zero, Int.toNat_natCast, Int.natCast_nonneg, Int.reduceLE, Int.reduceLT, Int.reduceToNat, Int.reduceEq, Int.cast_ofNat_Int, ne_eq, not_true_eq_false, not_false_eq_true, imp_self, implies_true, true_implies, false_implies, and_self, List.length_map, List.length_drop]
    have hm : s.l[j] ∈ s.l := List.getElem_mem hjl
    refine (bclone_sl .sl (by rw [byC_len]; have := ho.by_ _ hm; omega)).mono ?_
    rintro _ _ ⟨rfl, rfl⟩
    have esp : splice s.l[j].cs 2 [.sl 1 (byC s.l[j].b)] = s.l[j].cs := rfl
    simp only [go_sem, r_block, f0, f10, f11, f12, Msg.len, Msg.one, Msg.take, set_same, esp, reduceIte, Nat.reduceEqDiff, Nat.reduceAdd, Nat.reduceMul, Nat.reduceSub, Nat.reduceLT, Nat.reduceLeDiff, Nat.le_refl, Nat.zero_le, Nat.zero_add, Nat.add_zero, Nat.mul_one, splice_zero, Int.toNat_natCast, Int.natCast_nonneg, Int.reduceLE, Int.reduceLT, Int.reduceToNat, Int.reduceEq, Int.cast_ofNat_Int, ne_eq, not_true_eq_false, not_false_eq_true, imp_self, implies_true, true_implies, false_implies, and_self, List.length_map, List.length_drop]
    refine (step j hjl _ (hnew j _ c _ hI hc)).mono ?_
    rintro _ σ2 (⟨rfl, h2⟩ | ⟨rfl, h2⟩)
    · simp only [go_sem, r_block, f0, f10, f11, f12, reduceIte, Nat.reduceEqDiff, Nat.reduceAdd, Nat.reduceMul, Nat.reduceSub, Nat.reduceLT, Nat.reduceLeDiff, Nat.le_refl, Nat.zero_le, Nat.zero_add, Nat.add_zero, Nat.mul_one, splice_zero, Int.toNat_natCast, Int.natCast_nonneg, Int.reduceLE, Int.reduceLT, Int.reduceToNat, Int.reduceEq, Int.cast_ofNat_Int, ne_eq, not_true_eq_false, not_false_eq_true, imp_self, implies_true, true_implies, false_implies, and_self, List.length_map, List.length_drop]
      rw [next64 (by omega)]
      exact ⟨s.l.length - (j + 1), by omega, j + 1, rfl, by omega, rfl, h2⟩
    · simp only [go_sem, r_block, reduceIte, Nat.reduceEqDiff, Nat.reduceAdd, Nat.reduceMul, Nat.reduceSub, Nat.reduceLT, Nat.reduceLeDiff, Nat.le_refl, Nat.zero_le, Nat.zero_add, Nat.add_zero, Nat.mul_one, splice_zero, Int.toNat_natCast, Int.natCast_nonneg, Int.reduceLE, Int.reduceLT, Int.reduceToNat, Int.reduceEq, Int.cast_ofNat_Int, ne_eq, not_true_eq_false, not_false_eq_true, imp_self, implies_true, true_implies, false_implies, and_self, List.length_map, List.length_drop]
      exact aRet_as (r := .tup []) rfl (.inr h2)
  · simp only [go_sem, r_block, f0, f10, f11, f12, reduceIte, Nat.reduceEqDiff, Nat.reduceAdd, Nat.reduceMul, Nat.reduceSub, Nat.reduceLT, Nat.reduceLeDiff, Nat.le_refl, Nat.zero_le, Nat.zero_add, Nat.add_zero, Nat.mul_one, splice_zero, Int.toNat_natCast, Int.natCast_nonneg, Int.reduceLE, Int.reduceLT, Int.reduceToNat, Int.reduceEq, Int.cast_ofNat_Int, ne_eq, not_true_eq_false, not_false_eq_true, imp_self, implies_true, true_implies, false_implies, and_self, List.length_map, List.length_drop]
    obtain rfl : j = s.l.length := by omega
    exact aRet_as (r := .tup []) rfl (.inl hI)

/-- What a range over the net tells, up to a number. -/
def upto (l : List Msg) (stop : Int) : List Msg := if 0 ≤ stop then l.take stop.toNat else l

theorem begun_n {P : Program} {l n : Nat} {fr fr1 : Fr} {σ1 : St} {ps : List Nat} {assign body : Code} {k : AV → St → Prop} : AK.begun P l fr n ps assign body k .normal fr1 σ1 = (σ1 l = some (.loop fr n ps assign body .ready none) ∧ aCode P body (@hid _ ⟨AK.round l fr n ps assign body k⟩) fr1 (σ1.set l (.loop fr n ps assign body .busy none))) := _root_.id rfl
theorem round_n {l n : Nat} {fr fr1 : Fr} {σ1 : St} {ps : List Nat} {assign body : Code} {k : AV → St → Prop} : AK.round l fr n ps assign body k .normal fr1 σ1 = ((∃ p, σ1 l = some (.loop fr n ps assign body .busy p)) ∧ k (.v (.bool true)) (σ1.set l (.loop fr n ps assign body .ready none))) := _root_.id rfl
theorem round_x {l n id : Nat} {fr fr1 : Fr} {σ1 : St} {ps : List Nat} {assign body : Code} {k : AV → St → Prop} : AK.round l fr n ps assign body k (.exit id) fr1 σ1 = ((∃ p, σ1 l = some (.loop fr n ps assign body .busy p)) ∧ k (.v (.bool false)) (σ1.set l (.loop fr n ps assign body .done (some (.exit id))))) := _root_.id rfl

theorem begun_b {P : Program} {l n : Nat} {fr fr1 : Fr} {σ1 : St} {ps : List Nat} {assign body B : Code} {k : AV → St → Prop} (hB : body = B) : AK.begun P l fr n ps assign body k .normal fr1 σ1 = (σ1 l = some (.loop fr n ps assign body .ready none) ∧ aCode P B (@hid _ ⟨AK.round l fr n ps assign body k⟩) fr1 (σ1.set l (.loop fr n ps assign body .busy none))) := by subst hB; rfl
theorem yield_to {P : Program} {l n : Nat} {args : List AV} {σ : St} {k : AV → St → Prop} {fr : Fr} {ps : List Nat} {assign body A : Code} {pend : Option Code} (hA : assign = A) (hl : σ l = some (.loop fr n ps assign body .ready pend)) (hn : args.length = ps.length) (hfl : (flat assign && flat body) = true)
    (h : aCode P A (@hid _ ⟨AK.begun P l fr n ps assign body k⟩) (parFr fr ps args) σ) : YC P l args σ k := yield_by hl hn hfl (by subst hA; exact h)
theorem gen_range {P : Program} {g : AV} {ps : List Nat} {A B : Code} {K : AK} {fr : Fr} {σ : St} (F : Fr → Prop) (hF : F fr) (h : ∀ assign body fr, assign = A → body = B → F fr → aRange P g ps assign body K fr σ) : aRange P g ps A B K fr σ := h A B fr rfl rfl hF

theorem tell_at (h : σ p = some s.O) (ho : s.Ok) (stop : Int) : AT Try.prog 18 [ptr p, int stop] σ fun r σ' => r = .sl 3 ((upto s.l stop).map Msg.cs) ∧ σ' = σ := by
  refine AT.of_body Try.func18 rfl (by decide) (by kernel_rfl) (by kernel_rfl) (Nat.le_of_ble_eq_true rfl) ?_
  simp only [go_sem, reduceIte, Nat.reduceEqDiff, Nat.reduceAdd, Nat.reduceMul, Nat.reduceSub, Nat.reduceLT, Nat.reduceLeDiff, Nat.le_refl, Nat.zero_le, Nat.zero_add, Nat.add_zero, Nat.mul_one, splice_zero, Int.toNat_natCast, Int.natCast_nonneg, Int.reduceLE, Int.reduceLT, Int.reduceToNat, Int.reduceEq, Int.cast_ofNat_Int, ne_eq, not_true_eq_false, not_false_eq_true, imp_self, implies_true, true_implies, false_implies, and_self, List.length_map, List.length_drop]
  refine aNew_intro fun c hc hcm => ?_
  simp only [go_sem, reduceIte, Nat.reduceEqDiff, Nat.reduceAdd, Nat.reduceMul, Nat.reduceSub, Nat.reduceLT, Nat.reduceLeDiff, Nat.le_refl, Nat.zero_le, Nat.zero_add, Nat.add_zero, Nat.mul_one, splice_zero, Int.toNat_natCast, Int.natCast_nonneg, Int.reduceLE, Int.reduceLT, Int.reduceToNat, Int.reduceEq, Int.cast_ofNat_Int, ne_eq, not_true_eq_false, not_false_eq_true, imp_self, implies_true, true_implies, false_implies, and_self, List.length_map, List.length_drop]
  refine aNew_intro fun d hd hdm => ?_
  have hcd : c ≠ d := hdm _ _ set_same
  simp only [go_sem, reduceIte, Nat.reduceEqDiff, Nat.reduceAdd, Nat.reduceMul, Nat.reduceSub, Nat.reduceLT, Nat.reduceLeDiff, Nat.le_refl, Nat.zero_le, Nat.zero_add, Nat.add_zero, Nat.mul_one, splice_zero, Int.toNat_natCast, Int.natCast_nonneg, Int.reduceLE, Int.reduceLT, Int.reduceToNat, Int.reduceEq, Int.cast_ofNat_Int, ne_eq, not_true_eq_false, not_false_eq_true, imp_self, implies_true, true_implies, false_implies, and_self, List.length_map, List.length_drop]
  refine (all_at (ptr p) rfl rfl).mono ?_
  rintro _ _ ⟨x, hx, rfl, rfl⟩
  simp only [go_sem, reduceIte, Nat.reduceEqDiff, Nat.reduceAdd, Nat.reduceMul, Nat.reduceSub, Nat.reduceLT, Nat.reduceLeDiff, Nat.le_refl, Nat.zero_le, Nat.zero_add, Nat.add_zero, Nat.mul_one, splice_zero, Int.toNat_natCast, Int.natCast_nonneg, Int.reduceLE, Int.reduceLT, Int.reduceToNat, Int.reduceEq, Int.cast_ofNat_Int, ne_eq, not_true_eq_false, not_false_eq_true, imp_self, implies_true, true_implies, false_implies, and_self, List.length_map, List.length_drop]
  refine ⟨by kernel_rfl, ?_⟩
  obtain ⟨σ1, hσ1⟩ : ∃ σ1, σ1 = (((σ.set c (.cells [int stop])).set d (.cells [nilS])).set x (.cells [ptr p])) := ⟨_, rfl⟩
  have hs1 : ∀ y o, σ y = some o → σ1 y = some o := fun y o hy => by
    rw [hσ1]
    have h1 := set_sub (o := .cells [int stop]) hc (fun _ _ h => h) y o hy
    have h2 := set_sub (o := .cells [nilS]) hd (fun _ _ h => h) y o h1
    exact set_sub hx (fun _ _ h => h) y o h2
  have hd1 : σ1 d = some (.cells [nilS]) := by
    rw [hσ1]; exact set_sub hx (fun _ _ h => h) d _ set_same
  have hc1 : σ1 c = some (.cells [int stop]) := by
    rw [hσ1]; exact set_sub hx (fun _ _ h => h) c _ (by rw [set_ne hcd]; exact set_same)
  have hx1 : σ1 x = some (.cells [ptr p]) := by rw [hσ1]; exact set_same
  rw [← hσ1]
  have hsd : ∀ y o, σ y = some o → y ≠ d := fun y o hy => hdm y o (set_sub hc (fun _ _ h => h) y o hy)
  clear hσ1 hx hd hdm hc hcm
  have hp1 := hs1 _ _ h
  refine aMeet (fun fr σ' => fr 5 = ptr d ∧ ∃ lv, σ' d = some (.cells [lv]) ∧ LAt 3 σ' lv ((upto s.l stop).map Msg.cs) ∧ Grow σ σ' lv) ?_ ?_
  · simp only [go_sem, r_block, reduceIte, Nat.reduceEqDiff, Nat.reduceAdd, Nat.reduceMul, Nat.reduceSub, Nat.reduceLT, Nat.reduceLeDiff, Nat.le_refl, Nat.zero_le, Nat.zero_add, Nat.add_zero, Nat.mul_one, splice_zero, Int.toNat_natCast, Int.natCast_nonneg, Int.reduceLE, Int.reduceLT, Int.reduceToNat, Int.reduceEq, Int.cast_ofNat_Int, ne_eq, not_true_eq_false, not_false_eq_true, imp_self, implies_true, true_implies, false_implies, and_self, List.length_map, List.length_drop]
    refine gen_range (fun fr => fr 3 = ptr c ∧ fr 5 = ptr d) ⟨rfl, rfl⟩ fun assign body fr hA hB ⟨f3, f5⟩ => ?_
    intro n l hl hlm
    have hlc : c ≠ l := hlm _ _ hc1
    have hld : d ≠ l := hlm _ _ hd1
    have hsl : ∀ y o, σ1 y = some o → (σ1.set l (.loop fr n [14] assign body .ready none)) y = some o := set_sub hl fun _ _ h => h
    refine (iter_at (Inv := fun j σ' => σ' l = some (.loop fr n [14] assign body .ready none) ∧ σ' c = some (.cells [int stop]) ∧ (0 ≤ stop → j ≤ stop.toNat) ∧ (∀ y o, σ y = some o → y ≠ l) ∧ ∃ lv, σ' d = some (.cells [lv]) ∧ LAt 3 σ' lv ((s.l.take j).map Msg.cs) ∧ Grow σ σ' lv)
      (Stop := fun σ' => σ' l = some (.loop fr n [14] assign body .done (some (.exit 0))) ∧ (∀ y o, σ y = some o → y ≠ l) ∧ ∃ lv, σ' d = some (.cells [lv]) ∧ LAt 3 σ' lv ((upto s.l stop).map Msg.cs) ∧ Grow σ σ' lv)
      (hsl _ _ hx1) (hsl _ _ hp1) ho ?_ ?_ ?_).mono ?_
    · exact ⟨set_same, hsl _ _ hc1, fun _ => Nat.zero_le _, fun y o hy => hlm y o (hs1 y o hy), nilS, hsl _ _ hd1, .none, fun y o hy => ⟨hsl _ _ (hs1 y o hy), fun ⟨n, c, e⟩ => by cases e⟩⟩
    · rintro j σ2 c' o ⟨g1, g2, g3, g4, lv, g5, g6, g7⟩ hc'
      have hk : ∀ y p, σ2 y = some p → (σ2.set c' o) y = some p := set_sub hc' fun _ _ h => h
      exact ⟨hk _ _ g1, hk _ _ g2, g3, g4, lv, hk _ _ g5, g6.new hc', g7.new hc'⟩
    · rintro j hj σ2 ⟨g1, g2, g3, g4, lv, g5, g6, g7⟩
      refine yield_to hA g1 rfl (by rw [hA, hB]; rfl) ?_
      have hbg := fun k fr1 σ1 => begun_b (P := Try.prog) (l := l) (fr := fr) (fr1 := fr1) (σ1 := σ1) (ps := [14]) (n := n) (assign := assign) (k := k) hB
      simp only [go_sem, hbg, Msg.one, Msg.len, reduceIte, Nat.reduceEqDiff, Nat.reduceAdd, Nat.reduceMul, Nat.reduceSub, Nat.reduceLT, Nat.reduceLeDiff, Nat.le_refl, Nat.zero_le, Nat.zero_add, Nat.add_zero, Nat.mul_one, splice_zero, Int.toNat_natCast, Int.natCast_nonneg, Int.reduceLE, Int.reduceLT, Int.reduceToNat, Int.reduceEq, Int.cast_ofNat_Int, ne_eq, not_true_eq_false, not_false_eq_true, imp_self, implies_true, true_implies, false_implies, and_self, List.length_map, List.length_drop]
      refine aNew_intro fun c2 hc2 hm2 => ?_
      have e1 : l ≠ c2 := hm2 _ _ g1
      have e2 : c ≠ c2 := hm2 _ _ g2
      have e3 : d ≠ c2 := hm2 _ _ g5
      simp only [go_sem, hbg, Msg.one, Msg.len, set_same, set_ne e1, reduceIte, Nat.reduceEqDiff, Nat.reduceAdd, Nat.reduceMul, Nat.reduceSub, Nat.reduceLT, Nat.reduceLeDiff, Nat.le_refl, Nat.zero_le, Nat.zero_add, Nat.add_zero, Nat.mul_one, splice_zero, Int.toNat_natCast, Int.natCast_nonneg, Int.reduceLE, Int.reduceLT, Int.reduceToNat, Int.reduceEq, Int.cast_ofNat_Int, ne_eq, not_true_eq_false, not_false_eq_true, imp_self, implies_true, true_implies, false_implies, and_self, List.length_map, List.length_drop]
      refine ⟨g1, ?_⟩
      have k1 : ((σ2.set c2 (.cells s.l[j].cs)).set l (.loop fr n [14] assign body .busy none)) c2 = some (.cells s.l[j].cs) := by rw [set_ne e1.symm, set_same]
      have k2 : ((σ2.set c2 (.cells s.l[j].cs)).set l (.loop fr n [14] assign body .busy none)) c = some (.cells [int stop]) := by rw [set_ne hlc, set_ne e2]; exact g2
      have k3 : ((σ2.set c2 (.cells s.l[j].cs)).set l (.loop fr n [14] assign body .busy none)) d = some (.cells [lv]) := by rw [set_ne hld, set_ne e3]; exact g5
      have k4 : ((σ2.set c2 (.cells s.l[j].cs)).set l (.loop fr n [14] assign body .busy none)) l = some (.loop fr n [14] assign body .busy none) := set_same
      have nl : ¬ Own lv l := fun ho => by obtain ⟨cap, h⟩ := g6.own_rows ho; rw [g1] at h; cases h
      have n2 : ¬ Own lv c2 := fun ho => by obtain ⟨cap, h⟩ := g6.own_rows ho; rw [hc2] at h; cases h
      have k5 : LAt 3 ((σ2.set c2 (.cells s.l[j].cs)).set l (.loop fr n [14] assign body .busy none)) lv ((s.l.take j).map Msg.cs) := g6.keep fun y o hy ho => by rw [set_ne (by rintro rfl; exact nl ho), set_ne (by rintro rfl; exact n2 ho)]; exact hy
      have k6 : Grow σ ((σ2.set c2 (.cells s.l[j].cs)).set l (.loop fr n [14] assign body .busy none)) lv := fun y o hy => by
        have h7 := g7 y o hy
        refine ⟨?_, h7.2⟩
        rw [set_ne (g4 y o hy), set_ne (hm2 _ _ h7.1)]
        exact h7.1
      revert k1 k2 k3 k4 k5 k6
      generalize (σ2.set c2 (.cells s.l[j].cs)).set l (.loop fr n [14] assign body .busy none) = σ3
      intro k1 k2 k3 k4 k5 k6
      simp only [go_sem, r_block, k1, k2, k3, f3, f5, k5.len, round_n, round_x, reduceIte, Nat.reduceEqDiff, Nat.reduceAdd, Nat.reduceMul, Nat.reduceSub, Nat.reduceLT, Nat.reduceLeDiff, Nat.le_refl, Nat.zero_le, Nat.zero_add, Nat.add_zero, Nat.mul_one, splice_zero, Int.toNat_natCast, Int.natCast_nonneg, Int.reduceLE, Int.reduceLT, Int.reduceToNat, Int.reduceEq, Int.cast_ofNat_Int, ne_eq, not_true_eq_false, not_false_eq_true, imp_self, implies_true, true_implies, false_implies, and_self, List.length_map, List.length_drop]
      have hlt : (s.l.take j).length = j := by rw [List.length_take]; omega
      refine aIf_by (fun q1 => ?_) (fun q1 => ?_)
      · simp only [go_sem, r_block, k1, k2, k3, f3, f5, round_n, round_x, reduceIte, Nat.reduceEqDiff, Nat.reduceAdd, Nat.reduceMul, Nat.reduceSub, Nat.reduceLT, Nat.reduceLeDiff, Nat.le_refl, Nat.zero_le, Nat.zero_add, Nat.add_zero, Nat.mul_one, splice_zero, Int.toNat_natCast, Int.natCast_nonneg, Int.reduceLE, Int.reduceLT, Int.reduceToNat, Int.reduceEq, Int.cast_ofNat_Int, ne_eq, not_true_eq_false, not_false_eq_true, imp_self, implies_true, true_implies, false_implies, and_self, List.length_map, List.length_drop]
        rw [hlt] at q1
        have hu : upto s.l stop = s.l.take j := by unfold upto; rw [if_pos (by omega)]; congr 1; omega
        refine ⟨⟨none, k4⟩, .inr ⟨g4, lv, by rw [set_ne hld]; exact k3, ?_, fun y o hy => ?_⟩⟩
        · rw [hu]; exact k5.keep fun y o hy ho => by rw [set_ne (by rintro rfl; exact nl ho)]; exact hy
        · rw [set_ne (g4 y o hy)]; exact k6 y o hy
      · simp only [go_sem, r_block, k1, k2, k3, f3, f5, round_n, round_x, Msg.len, Msg.one, Msg.take, reduceIte, Nat.reduceEqDiff, Nat.reduceAdd, Nat.reduceMul, Nat.reduceSub, Nat.reduceLT, Nat.reduceLeDiff, Nat.le_refl, Nat.zero_le, Nat.zero_add, Nat.add_zero, Nat.mul_one, splice_zero, Int.toNat_natCast, Int.natCast_nonneg, Int.reduceLE, Int.reduceLT, Int.reduceToNat, Int.reduceEq, Int.cast_ofNat_Int, ne_eq, not_true_eq_false, not_false_eq_true, imp_self, implies_true, true_implies, false_implies, and_self, List.length_map, List.length_drop]
        rw [hlt] at q1
        have hln := ho.ln
        refine aApp_by (ys := [s.l[j].cs]) rfl (by decide) (by decide) (by decide) (k5.app (by simp; omega) fun lv' σ4 hL4 hs4 => ?_)
        have m3 := hs4 _ _ k3 (k5.not_own k3)
        have m4 := hs4 _ _ k4 nl
        have m2 := hs4 _ _ k2 (k5.not_own k2)
        have m6 := k6.step hs4
        simp only [go_sem, r_block, m3.1, f5, hL4.one, hL4.cells, round_n, round_x, reduceIte, Nat.reduceEqDiff, Nat.reduceAdd, Nat.reduceMul, Nat.reduceSub, Nat.reduceLT, Nat.reduceLeDiff, Nat.le_refl, Nat.zero_le, Nat.zero_add, Nat.add_zero, Nat.mul_one, splice_zero, Int.toNat_natCast, Int.natCast_nonneg, Int.reduceLE, Int.reduceLT, Int.reduceToNat, Int.reduceEq, Int.cast_ofNat_Int, ne_eq, not_true_eq_false, not_false_eq_true, imp_self, implies_true, true_implies, false_implies, and_self, List.length_map, List.length_drop]
        refine ⟨⟨none, by rw [set_ne hld.symm]; exact m4.1⟩, .inl ⟨?_, fun h0 => ?_, g4, lv', ?_, ?_, fun y o hy => ?_⟩⟩
        · rw [set_ne hlc, set_ne hcd]; exact m2.1
        · have := g3 h0; omega
        · rw [set_ne hld]; exact set_same
        · rw [List.take_succ_eq_append_getElem hj, List.map_append]
          exact hL4.keep fun y o hy ho => by rw [set_ne (by rintro rfl; exact m4.2 ho), set_ne (by rintro rfl; exact m3.2 ho)]; exact hy
        · have h8 := m6 y o hy
          rw [set_ne (g4 y o hy)]
          rw [set_ne (hsd y o hy)]; exact h8
    · rintro r σ2 (⟨g1, g2, g3, g4, lv, g5, g6, g7⟩ | ⟨g1, g4, lv, g5, g6, g7⟩)
      · have hdel : ∀ y, y ≠ l → (σ2.del l) y = σ2 y := fun y hy => by simp only [St.del]; rw [if_neg hy]
        have nl : ¬ Own lv l := fun ho => by obtain ⟨cap, h⟩ := g6.own_rows ho; rw [g1] at h; cases h
        unfold aAfter
        rw [g1]
        refine ⟨(by intro h; cases h), ?_⟩
        unfold aPend
        dsimp only
        simp only [go_sem, reduceIte, Nat.reduceEqDiff, Nat.reduceAdd, Nat.reduceMul, Nat.reduceSub, Nat.reduceLT, Nat.reduceLeDiff, Nat.le_refl, Nat.zero_le, Nat.zero_add, Nat.add_zero, Nat.mul_one, splice_zero, Int.toNat_natCast, Int.natCast_nonneg, Int.reduceLE, Int.reduceLT, Int.reduceToNat, Int.reduceEq, Int.cast_ofNat_Int, ne_eq, not_true_eq_false, not_false_eq_true, imp_self, implies_true, true_implies, false_implies, and_self, List.length_map, List.length_drop]
        have hu : s.l.take s.l.length = upto s.l stop := by
          unfold upto
          split
          · rename_i h0; have := g3 h0; rw [List.take_of_length_le (Nat.le_refl _), List.take_of_length_le this]
          · rw [List.take_of_length_le (Nat.le_refl _)]
        rw [hu] at g6
        exact ⟨f5, lv, by rw [hdel d hld]; exact g5, g6.keep fun y o hy ho => by rw [hdel y (by rintro rfl; exact nl ho)]; exact hy, fun y o hy => by rw [hdel y (g4 y o hy)]; exact g7 y o hy⟩
      · have hdel : ∀ y, y ≠ l → (σ2.del l) y = σ2 y := fun y hy => by simp only [St.del]; rw [if_neg hy]
        have nl : ¬ Own lv l := fun ho => by obtain ⟨cap, h⟩ := g6.own_rows ho; rw [g1] at h; cases h
        unfold aAfter
        rw [g1]
        refine ⟨(by intro h; cases h), ?_⟩
        unfold aPend
        dsimp only
        simp only [go_sem, reduceIte, Nat.reduceEqDiff, Nat.reduceAdd, Nat.reduceMul, Nat.reduceSub, Nat.reduceLT, Nat.reduceLeDiff, Nat.le_refl, Nat.zero_le, Nat.zero_add, Nat.add_zero, Nat.mul_one, splice_zero, Int.toNat_natCast, Int.natCast_nonneg, Int.reduceLE, Int.reduceLT, Int.reduceToNat, Int.reduceEq, Int.cast_ofNat_Int, ne_eq, not_true_eq_false, not_false_eq_true, imp_self, implies_true, true_implies, false_implies, and_self, List.length_map, List.length_drop]
        exact ⟨f5, lv, by rw [hdel d hld]; exact g5, g6.keep fun y o hy ho => by rw [hdel y (by rintro rfl; exact nl ho)]; exact hy, fun y o hy => by rw [hdel y (g4 y o hy)]; exact g7 y o hy⟩
  rintro fr σ2 ⟨f5, lv, g5, g6, g7⟩
  simp only [go_sem, f5, g5, reduceIte, Nat.reduceEqDiff, Nat.reduceAdd, Nat.reduceMul, Nat.reduceSub, Nat.reduceLT, Nat.reduceLeDiff, Nat.le_refl, Nat.zero_le, Nat.zero_add, Nat.add_zero, Nat.mul_one, splice_zero, Int.toNat_natCast, Int.natCast_nonneg, Int.reduceLE, Int.reduceLT, Int.reduceToNat, Int.reduceEq, Int.cast_ofNat_Int, ne_eq, not_true_eq_false, not_false_eq_true, imp_self, implies_true, true_implies, false_implies, and_self, List.length_map, List.length_drop]
  exact aRet_view (r := lv) rfl _ σ (view_of (sv_of fun x o hx => .inl (g7.sub x o hx)) (g6.vw_same fun x hx => g7.own hx)) ⟨rfl, rfl⟩
end
end Go.Proofs.Ytebmjajdkhhhbaa
