/-
  NetDoes: the document's net (package avowalref22): Send, At.
  Conditions: none.
-/
import Derived.Test.YtebmjajdkhhhbaaNh
set_option linter.unusedVariables false
set_option linter.unusedSimpArgs false
namespace Go.Proofs.Ytebmjajdkhhhbaa
open Go Go.Av

/-- The document's net, at p; its messages in the slice lv. -/
structure Rf (p : Nat) (lv : AV) (σ : St) (s : Ns) : Prop where
  ob : σ p = some (.cells [lv, int s.last])
  l : LAt 3 σ lv (s.l.map Msg.cs)
/-- What is else tracked stays. -/
def Fm (p : Nat) (lv lv' : AV) (σ σ' : St) : Prop := ∀ y o, σ y = some o → y ≠ p → ¬ Own lv y → σ' y = some o ∧ ¬ Own lv' y
theorem Rf.own {p : Nat} {lv : AV} {σ : St} {s : Ns} (h : Rf p lv σ s) : ¬ Own lv p := h.l.not_own h.ob
theorem Fm.refl {p : Nat} {lv : AV} {σ : St} : Fm p lv lv σ σ := fun y o hy _ hn => ⟨hy, hn⟩

section
variable {σ σ' : St} {p : Nat} {lv : AV} {s : Ns}
set_option maxRecDepth 100000
set_option maxHeartbeats 1000000

theorem own_v {b n c y : Nat} (h : Own (.v (.slice (some ⟨b, 0, none⟩) n c)) y) : y = b := by
  obtain ⟨n', c', e⟩ := h
  injection e with e
  injection e with e
  injection e with e
  injection e with e
  exact e.symm

theorem rput_at (h : Rf p lv σ s) (ho : s.Ok) (to : ByteArray) {x : AV} {b : Byt} (hx : ∀ σ', (∀ y o, σ y = some o → y ≠ p → σ' y = some o) → src 1 true σ' x = some (byC b)) (hl : b.length ≤ 65536) :
    AT Try.prog 34 [ptr p, str to, x] σ fun r σ' => r = .tup [int (s.put to b).1.1, int (s.put to b).1.2] ∧ ∃ lv', Rf p lv' σ' (s.put to b).2 ∧ Fm p lv lv' σ σ' := by
  refine AT.of_body Try.func34 rfl (by decide) (by kernel_rfl) (by kernel_rfl) (Nat.le_of_ble_eq_true rfl) ?_
  have hp := h.ob
  have hln := ho.ln
  simp only [go_sem, hp, h.l.len, reduceIte, Nat.reduceEqDiff, Nat.reduceAdd, Nat.reduceMul, Nat.reduceSub, Nat.reduceLT, Nat.reduceLeDiff, Nat.le_refl, Nat.zero_le, Nat.zero_add, Nat.add_zero, Nat.mul_one, splice_zero, Int.toNat_natCast, Int.natCast_nonneg, Int.reduceLE, Int.reduceLT, Int.reduceToNat, Int.reduceEq, Int.cast_ofNat_Int, ne_eq, not_true_eq_false, not_false_eq_true, imp_self, implies_true, true_implies, false_implies, and_self, List.length_map, List.length_drop]
  refine aIf_by (fun k1 => ?_) (fun k1 => ?_)
  · simp only [go_sem, r_block, reduceIte, Nat.reduceEqDiff, Nat.reduceAdd, Nat.reduceMul, Nat.reduceSub, Nat.reduceLT, Nat.reduceLeDiff, Nat.le_refl, Nat.zero_le, Nat.zero_add, Nat.add_zero, Nat.mul_one, splice_zero, Int.toNat_natCast, Int.natCast_nonneg, Int.reduceLE, Int.reduceLT, Int.reduceToNat, Int.reduceEq, Int.cast_ofNat_Int, ne_eq, not_true_eq_false, not_false_eq_true, imp_self, implies_true, true_implies, false_implies, and_self, List.length_map, List.length_drop]
    have e : s.put to b = ((0, 150), s) := by unfold Ns.put; rw [if_pos (by omega)]
    rw [e]
    exact aRet_as (r := .tup [int 0, int 150]) rfl ⟨rfl, lv, h, .refl⟩
  · have e : s.put to b = (((s.last : Int) + 1, 0), ⟨s.l ++ [⟨(s.last : Int) + 1, to, b⟩], s.last + 1⟩) := by unfold Ns.put; rw [if_neg (by omega)]
    simp only [go_sem, hp, reduceIte, Nat.reduceEqDiff, Nat.reduceAdd, Nat.reduceMul, Nat.reduceSub, Nat.reduceLT, Nat.reduceLeDiff, Nat.le_refl, Nat.zero_le, Nat.zero_add, Nat.add_zero, Nat.mul_one, splice_zero, Int.toNat_natCast, Int.natCast_nonneg, Int.reduceLE, Int.reduceLT, Int.reduceToNat, Int.reduceEq, Int.cast_ofNat_Int, ne_eq, not_true_eq_false, not_false_eq_true, imp_self, implies_true, true_implies, false_implies, and_self, List.length_map, List.length_drop]
    have hla := ho.la
    rw [wrap64 (x := (s.last : Int) + 1) (by omega)]
    have w1 : (σ.set p (.cells [lv, int ((s.last : Int) + 1)])) p = some (.cells [lv, int ((s.last : Int) + 1)]) := set_same
    have hL1 : LAt 3 (σ.set p (.cells [lv, int ((s.last : Int) + 1)])) lv (s.l.map Msg.cs) := h.l.keep fun y o hy hw => by rw [set_ne (by rintro rfl; exact h.own hw)]; exact hy
    have hsr := hx (σ.set p (.cells [lv, int ((s.last : Int) + 1)])) fun y o hy hn => by rw [set_ne hn]; exact hy
    have hfr : ∀ y o, σ y = some o → y ≠ p → (σ.set p (.cells [lv, int ((s.last : Int) + 1)])) y = some o := fun y o hy hn => by rw [set_ne hn]; exact hy
    have hown := h.own
    revert w1 hL1 hsr hfr
    generalize σ.set p (.cells [lv, int ((s.last : Int) + 1)]) = σ1
    intro w1 hL1 hsr hfr
    refine aDraw_plan [.rd 0 false, .rd 1 false, .rd 2 false, .rd 3 false, .rd 4 true, .rd 5 false, .rd 6 false, .rd 7 false, .rd 8 true, .rd 9 false, .rd 10 false, .rd 11 false, .ef 12 [4, 8], .rd 13 false, .rd 14 false, .ef 15 [], .rd 16 false, .rd 17 false, .ef 18 []] (by kernel_rfl) (by kernel_rfl) (by kernel_rfl) ?_
    simp only [go_sem, w1, reduceIte, Nat.reduceEqDiff, Nat.reduceAdd, Nat.reduceMul, Nat.reduceSub, Nat.reduceLT, Nat.reduceLeDiff, Nat.le_refl, Nat.zero_le, Nat.zero_add, Nat.add_zero, Nat.mul_one, splice_zero, Int.toNat_natCast, Int.natCast_nonneg, Int.reduceLE, Int.reduceLT, Int.reduceToNat, Int.reduceEq, Int.cast_ofNat_Int, ne_eq, not_true_eq_false, not_false_eq_true, imp_self, implies_true, true_implies, false_implies, and_self, List.length_map, List.length_drop]
    refine aApp_by hsr (by decide) (by decide) (by decide) (LAt.full.app (by simp [byC_len]; omega) fun lb σ2 hb2 hs2 => ?_)
    have hno : ∀ x, ¬ Own (.fsl 1 []) x := fun x ⟨n, c, e⟩ => by cases e
    have hs2 : ∀ x o, σ1 x = some o → σ2 x = some o ∧ ¬ Own lb x := fun x o hx => hs2 x o hx (hno x)
    have w2 := (hs2 _ _ w1).1
    have hL2 : LAt 3 σ2 lv (s.l.map Msg.cs) := hL1.keep fun y o hy hw => (hs2 y o hy).1
    rw [List.nil_append] at hb2
    simp only [go_sem, w2, hb2.one, hb2.cells, reduceIte, Nat.reduceEqDiff, Nat.reduceAdd, Nat.reduceMul, Nat.reduceSub, Nat.reduceLT, Nat.reduceLeDiff, Nat.le_refl, Nat.zero_le, Nat.zero_add, Nat.add_zero, Nat.mul_one, splice_zero, Int.toNat_natCast, Int.natCast_nonneg, Int.reduceLE, Int.reduceLT, Int.reduceToNat, Int.reduceEq, Int.cast_ofNat_Int, ne_eq, not_true_eq_false, not_false_eq_true, imp_self, implies_true, true_implies, false_implies, and_self, List.length_map, List.length_drop]
    refine aApp_by (ys := [[int ((s.last : Int) + 1), str to, lb]]) rfl (by decide) (by decide) (by decide) (hL2.app_row (by simp) (by simp; omega) fun b3 cap σ3 hcap hb3 hs3 => ?_)
    have w3 := hs3 _ _ w2 (hL2.not_own w2)
    have hlb3 : ∀ x, Own lb x → ¬ Own lv x := fun x h1 h2 => by
      obtain ⟨cap, hc⟩ := hL1.own_rows h2
      exact (hs2 _ _ hc).2 h1
    have hb2' : LAt 1 σ3 lb (byC b) := hb2.keep fun y o hy hw => (hs3 y o hy (hlb3 y hw)).1
    have hlb4 : ∀ x, Own lb x → x ≠ b3 := fun x h1 => by
      obtain ⟨cap, hc⟩ := hb2.own_rows h1
      exact (hs3 _ _ hc (hlb3 x h1)).2
    have hlb5 : ∀ x, Own lb x → x ≠ p := fun x h1 e => (hs2 _ _ w1).2 (e ▸ h1)
    simp only [go_sem, w3.1, reduceIte, Nat.reduceEqDiff, Nat.reduceAdd, Nat.reduceMul, Nat.reduceSub, Nat.reduceLT, Nat.reduceLeDiff, Nat.le_refl, Nat.zero_le, Nat.zero_add, Nat.add_zero, Nat.mul_one, splice_zero, Int.toNat_natCast, Int.natCast_nonneg, Int.reduceLE, Int.reduceLT, Int.reduceToNat, Int.reduceEq, Int.cast_ofNat_Int, ne_eq, not_true_eq_false, not_false_eq_true, imp_self, implies_true, true_implies, false_implies, and_self, List.length_map, List.length_drop]
    have hl2 : (s.l.map Msg.cs).length + 1 = (s.l ++ [(⟨(s.last : Int) + 1, to, b⟩ : Msg)]).length := by simp
    refine aRet_view (r := .tup [int ((s.last : Int) + 1), int 0]) rfl _ ((St.free (σ3.set p (.cells [.v (.slice (some ⟨b3, 0, none⟩) (s.l.length + 1) cap), int ((s.last : Int) + 1)])) lb).set b3 (.rows 3 ((s.l ++ [(⟨(s.last : Int) + 1, to, b⟩ : Msg)]).map Msg.cs) false cap)) (view_of ?_ (.refl _)) ⟨by rw [e], .v (.slice (some ⟨b3, 0, none⟩) (s.l.length + 1) cap), ?_⟩
    · refine sv_set (o := .rows 3 (s.l.map Msg.cs ++ [[int ((s.last : Int) + 1), str to, lb]]) false cap) (by rw [set_ne w3.2.symm]; exact hb3) ⟨rfl, rfl, rfl, by simp, fun i hi => ?_⟩ fun x q hx hq => by
        by_cases hw : Own lb x
        · rw [free_own hw] at hq; cases hq
        · rwa [free_ne hw] at hq
      rw [List.map_append]
      by_cases hil : i < s.l.length
      · simp only [List.getD_eq_getElem?_getD]
        rw [List.getElem?_append_left (by simpa using hil), List.getElem?_append_left (by simpa using hil)]
        exact vws_refl _
      · have hi2 : i = s.l.length := by simp at hi; omega
        subst hi2
        have e1 : (s.l.map Msg.cs ++ [[int ((s.last : Int) + 1), str to, lb]]).getD s.l.length [] = [int ((s.last : Int) + 1), str to, lb] := by simp [List.getD_eq_getElem?_getD]
        have e2 : (s.l.map Msg.cs ++ [(⟨(s.last : Int) + 1, to, b⟩ : Msg)].map Msg.cs).getD s.l.length [] = [int ((s.last : Int) + 1), str to, .sl 1 (byC b)] := by simp [List.getD_eq_getElem?_getD, Msg.cs]
        rw [e1, e2]
        refine vws_same (vws_same (vws_cons ?_ vws_nil))
        have hb2'' : LAt 1 (σ3.set p (.cells [.v (.slice (some ⟨b3, 0, none⟩) (s.l.length + 1) cap), int ((s.last : Int) + 1)])) lb (byC b) := hb2'.keep fun y o hy hw => by rw [set_ne (hlb5 y hw)]; exact hy
        exact hb2''.vw_same fun x hw => by rw [set_ne (hlb4 x hw)]; exact free_own hw
    · rw [e]
      have hnp : ¬ Own lb p := fun h => hlb5 p h rfl
      refine ⟨⟨?_, .inr (.inr ⟨b3, cap, by simp, by simpa using hcap, set_same⟩)⟩, fun y o hy hyp hyl => ?_⟩
      · rw [set_ne w3.2, free_ne hnp, set_same]
        simp
      · have q1 := hs2 _ _ (hfr y o hy hyp)
        have q2 := hs3 _ _ q1.1 hyl
        exact ⟨by rw [set_ne q2.2, free_ne q1.2, set_ne hyp]; exact q2.1, fun hw => q2.2 (own_v hw)⟩

theorem src_sl {q : Nat} {byt : Bool} {σ : St} {es : List (List AV)} : src q byt σ (.sl q es) = some es := by simp [src]

theorem rsend_at (h : Rf p lv σ s) (ho : s.Ok) (to : ByteArray) (b : Byt) :
    AT Try.prog 20 [ptr p, str to, .sl 1 (byC b)] σ fun r σ' => r = .tup [int (s.send to b).1.1, int (s.send to b).1.2] ∧ ∃ lv', Rf p lv' σ' (s.send to b).2 ∧ Fm p lv lv' σ σ' := by
  refine AT.of_body Try.func20 rfl (by decide) (by kernel_rfl) (by kernel_rfl) (Nat.le_of_ble_eq_true rfl) ?_
  simp only [go_sem, byC_len, reduceIte, Nat.reduceEqDiff, Nat.reduceAdd, Nat.reduceMul, Nat.reduceSub, Nat.reduceLT, Nat.reduceLeDiff, Nat.le_refl, Nat.zero_le, Nat.zero_add, Nat.add_zero, Nat.mul_one, splice_zero, Int.toNat_natCast, Int.natCast_nonneg, Int.reduceLE, Int.reduceLT, Int.reduceToNat, Int.reduceEq, Int.cast_ofNat_Int, ne_eq, not_true_eq_false, not_false_eq_true, imp_self, implies_true, true_implies, false_implies, and_self, List.length_map, List.length_drop]
  refine aIf_by (fun k1 => ?_) (fun k1 => ?_)
  · simp only [go_sem, r_block, reduceIte, Nat.reduceEqDiff, Nat.reduceAdd, Nat.reduceMul, Nat.reduceSub, Nat.reduceLT, Nat.reduceLeDiff, Nat.le_refl, Nat.zero_le, Nat.zero_add, Nat.add_zero, Nat.mul_one, splice_zero, Int.toNat_natCast, Int.natCast_nonneg, Int.reduceLE, Int.reduceLT, Int.reduceToNat, Int.reduceEq, Int.cast_ofNat_Int, ne_eq, not_true_eq_false, not_false_eq_true, imp_self, implies_true, true_implies, false_implies, and_self, List.length_map, List.length_drop]
    have e : s.send to b = ((0, 3), s) := by unfold Ns.send; rw [if_pos (by omega)]
    rw [e]
    exact aRet_as (r := .tup [int 0, int 3]) rfl ⟨rfl, lv, h, .refl⟩
  · have e : s.send to b = s.put to b := by unfold Ns.send; rw [if_neg (by omega)]
    rw [e]
    simp only [go_sem, reduceIte, Nat.reduceEqDiff, Nat.reduceAdd, Nat.reduceMul, Nat.reduceSub, Nat.reduceLT, Nat.reduceLeDiff, Nat.le_refl, Nat.zero_le, Nat.zero_add, Nat.add_zero, Nat.mul_one, splice_zero, Int.toNat_natCast, Int.natCast_nonneg, Int.reduceLE, Int.reduceLT, Int.reduceToNat, Int.reduceEq, Int.cast_ofNat_Int, ne_eq, not_true_eq_false, not_false_eq_true, imp_self, implies_true, true_implies, false_implies, and_self, List.length_map, List.length_drop]
    refine (rput_at h ho to (fun _ _ => src_sl) (by omega)).mono ?_
    rintro _ σ1 ⟨rfl, h1⟩
    simp only [go_sem, reduceIte, Nat.reduceEqDiff, Nat.reduceAdd, Nat.reduceMul, Nat.reduceSub, Nat.reduceLT, Nat.reduceLeDiff, Nat.le_refl, Nat.zero_le, Nat.zero_add, Nat.add_zero, Nat.mul_one, splice_zero, Int.toNat_natCast, Int.natCast_nonneg, Int.reduceLE, Int.reduceLT, Int.reduceToNat, Int.reduceEq, Int.cast_ofNat_Int, ne_eq, not_true_eq_false, not_false_eq_true, imp_self, implies_true, true_implies, false_implies, and_self, List.length_map, List.length_drop]
    exact aRet_as (r := .tup [int (s.put to b).1.1, int (s.put to b).1.2]) rfl ⟨rfl, h1⟩

theorem at_at (h : Rf p lv σ s) (ho : s.Ok) (k : Int) : AT Try.prog 35 [ptr p, int k] σ fun r σ' => σ' = σ ∧ ((∃ (i : Nat) (hi : i < s.l.length), r = int i ∧ nFind k s.l = some s.l[i] ∧ nDel k s.l = s.l.take i ++ s.l.drop (i + 1)) ∨ (r = int (-1) ∧ nFind k s.l = none)) := by
  refine AT.of_body Try.func35 rfl (by decide) (by kernel_rfl) (by kernel_rfl) (Nat.le_of_ble_eq_true rfl) ?_
  simp only [go_sem, r_block, reduceIte, Nat.reduceEqDiff, Nat.reduceAdd, Nat.reduceMul, Nat.reduceSub, Nat.reduceLT, Nat.reduceLeDiff, Nat.le_refl, Nat.zero_le, Nat.zero_add, Nat.add_zero, Nat.mul_one, splice_zero, Int.toNat_natCast, Int.natCast_nonneg, Int.reduceLE, Int.reduceLT, Int.reduceToNat, Int.reduceEq, Int.cast_ofNat_Int, ne_eq, not_true_eq_false, not_false_eq_true, imp_self, implies_true, true_implies, false_implies, and_self, List.length_map, List.length_drop]
  have hp := h.ob
  have hln := ho.ln
  refine ⟨fun m fr σ' => ∃ i : Nat, m = s.l.length - i ∧ i ≤ s.l.length ∧ σ' = σ ∧ fr 0 = ptr p ∧ fr 1 = int k ∧ fr 5 = int i ∧ ∀ j (hj : j < s.l.length), j < i → s.l[j].num ≠ k, ⟨_, 0, rfl, by omega, rfl, rfl, rfl, rfl, fun j hj h => by omega⟩, ?_⟩
  rintro m fr σ ⟨i, rfl, h1, rfl, f0, f1, f5, hn⟩
  simp only [go_sem, f0, f1, f5, hp, h.l.len, reduceIte, Nat.reduceEqDiff, Nat.reduceAdd, Nat.reduceMul, Nat.reduceSub, Nat.reduceLT, Nat.reduceLeDiff, Nat.le_refl, Nat.zero_le, Nat.zero_add, Nat.add_zero, Nat.mul_one, splice_zero, Int.toNat_natCast, Int.natCast_nonneg, Int.reduceLE, Int.reduceLT, Int.reduceToNat, Int.reduceEq, Int.cast_ofNat_Int, ne_eq, not_true_eq_false, not_false_eq_true, imp_self, implies_true, true_implies, false_implies, and_self, List.length_map, List.length_drop]
  refine aIf_by (fun hlt => ?_) (fun hlt => ?_)
  · have hil : i < s.l.length := by simpa using hlt
    have eg := msgs_get hil
    simp only [go_sem, r_block, f0, f1, f5, hp, reduceIte, Nat.reduceEqDiff, Nat.reduceAdd, Nat.reduceMul, Nat.reduceSub, Nat.reduceLT, Nat.reduceLeDiff, Nat.le_refl, Nat.zero_le, Nat.zero_add, Nat.add_zero, Nat.mul_one, splice_zero, Int.toNat_natCast, Int.natCast_nonneg, Int.reduceLE, Int.reduceLT, Int.reduceToNat, Int.reduceEq, Int.cast_ofNat_Int, ne_eq, not_true_eq_false, not_false_eq_true, imp_self, implies_true, true_implies, false_implies, and_self, List.length_map, List.length_drop]
    refine h.l.elem (by omega) (by simpa using hil) fun a ha => ?_
    rw [Int.toNat_natCast, eg] at ha
    simp only [go_sem, r_block, reduceIte, Nat.reduceEqDiff, Nat.reduceAdd, Nat.reduceMul, Nat.reduceSub, Nat.reduceLT, Nat.reduceLeDiff, Nat.le_refl, Nat.zero_le, Nat.zero_add, Nat.add_zero, Nat.mul_one, splice_zero, Int.toNat_natCast, Int.natCast_nonneg, Int.reduceLE, Int.reduceLT, Int.reduceToNat, Int.reduceEq, Int.cast_ofNat_Int, ne_eq, not_true_eq_false, not_false_eq_true, imp_self, implies_true, true_implies, false_implies, and_self, List.length_map, List.length_drop]
    refine ha.fld (by decide) (by rw [Msg.len]; decide) fun a2 ha2 => ?_
    simp only [go_sem, r_block, reduceIte, Nat.reduceEqDiff, Nat.reduceAdd, Nat.reduceMul, Nat.reduceSub, Nat.reduceLT, Nat.reduceLeDiff, Nat.le_refl, Nat.zero_le, Nat.zero_add, Nat.add_zero, Nat.mul_one, splice_zero, Int.toNat_natCast, Int.natCast_nonneg, Int.reduceLE, Int.reduceLT, Int.reduceToNat, Int.reduceEq, Int.cast_ofNat_Int, ne_eq, not_true_eq_false, not_false_eq_true, imp_self, implies_true, true_implies, false_implies, and_self, List.length_map, List.length_drop]
    refine ha2.load1 (by decide) (by rw [Msg.len]; decide) ?_
    simp only [go_sem, r_block, Msg.at0, f0, f1, f5, reduceIte, Nat.reduceEqDiff, Nat.reduceAdd, Nat.reduceMul, Nat.reduceSub, Nat.reduceLT, Nat.reduceLeDiff, Nat.le_refl, Nat.zero_le, Nat.zero_add, Nat.add_zero, Nat.mul_one, splice_zero, Int.toNat_natCast, Int.natCast_nonneg, Int.reduceLE, Int.reduceLT, Int.reduceToNat, Int.reduceEq, Int.cast_ofNat_Int, ne_eq, not_true_eq_false, not_false_eq_true, imp_self, implies_true, true_implies, false_implies, and_self, List.length_map, List.length_drop]
    refine aIf_by (fun hc => ?_) (fun hc => ?_)
    · simp only [go_sem, r_block, f0, f1, f5, reduceIte, Nat.reduceEqDiff, Nat.reduceAdd, Nat.reduceMul, Nat.reduceSub, Nat.reduceLT, Nat.reduceLeDiff, Nat.le_refl, Nat.zero_le, Nat.zero_add, Nat.add_zero, Nat.mul_one, splice_zero, Int.toNat_natCast, Int.natCast_nonneg, Int.reduceLE, Int.reduceLT, Int.reduceToNat, Int.reduceEq, Int.cast_ofNat_Int, ne_eq, not_true_eq_false, not_false_eq_true, imp_self, implies_true, true_implies, false_implies, and_self, List.length_map, List.length_drop]
      have := nfind_at hil ho.rise hc
      exact aRet_as (r := int i) rfl ⟨rfl, .inl ⟨i, hil, rfl, this.1, this.2⟩⟩
    · simp only [go_sem, r_block, f0, f1, f5, reduceIte, Nat.reduceEqDiff, Nat.reduceAdd, Nat.reduceMul, Nat.reduceSub, Nat.reduceLT, Nat.reduceLeDiff, Nat.le_refl, Nat.zero_le, Nat.zero_add, Nat.add_zero, Nat.mul_one, splice_zero, Int.toNat_natCast, Int.natCast_nonneg, Int.reduceLE, Int.reduceLT, Int.reduceToNat, Int.reduceEq, Int.cast_ofNat_Int, ne_eq, not_true_eq_false, not_false_eq_true, imp_self, implies_true, true_implies, false_implies, and_self, List.length_map, List.length_drop]
      rw [next64 (by omega)]
      refine ⟨s.l.length - (i + 1), by omega, i + 1, rfl, by omega, rfl, fun j hj hji => ?_⟩
      by_cases e : j = i
      · subst e; exact hc
      · exact hn j hj (by omega)
  · simp only [go_sem, r_block, f0, f1, f5, reduceIte, Nat.reduceEqDiff, Nat.reduceAdd, Nat.reduceMul, Nat.reduceSub, Nat.reduceLT, Nat.reduceLeDiff, Nat.le_refl, Nat.zero_le, Nat.zero_add, Nat.add_zero, Nat.mul_one, splice_zero, Int.toNat_natCast, Int.natCast_nonneg, Int.reduceLE, Int.reduceLT, Int.reduceToNat, Int.reduceEq, Int.cast_ofNat_Int, ne_eq, not_true_eq_false, not_false_eq_true, imp_self, implies_true, true_implies, false_implies, and_self, List.length_map, List.length_drop]
    refine aRet_as (r := int (-1)) rfl ⟨rfl, .inr ⟨rfl, (nfind_none fun m hm => ?_).1⟩⟩
    obtain ⟨j, hj, rfl⟩ := List.getElem_of_mem hm
    have : (s.l.map Msg.cs).length = s.l.length := by simp
    exact hn j hj (by omega)

theorem rdouble_at (h : Rf p lv σ s) (ho : s.Ok) (k : Int) : AT Try.prog 23 [ptr p, int k] σ fun r σ' => r = .tup [int (s.double k).1.1, int (s.double k).1.2] ∧ ∃ lv', Rf p lv' σ' (s.double k).2 ∧ Fm p lv lv' σ σ' := by
  refine AT.of_body Try.func23 rfl (by decide) (by kernel_rfl) (by kernel_rfl) (Nat.le_of_ble_eq_true rfl) ?_
  simp only [go_sem, reduceIte, Nat.reduceEqDiff, Nat.reduceAdd, Nat.reduceMul, Nat.reduceSub, Nat.reduceLT, Nat.reduceLeDiff, Nat.le_refl, Nat.zero_le, Nat.zero_add, Nat.add_zero, Nat.mul_one, splice_zero, Int.toNat_natCast, Int.natCast_nonneg, Int.reduceLE, Int.reduceLT, Int.reduceToNat, Int.reduceEq, Int.cast_ofNat_Int, ne_eq, not_true_eq_false, not_false_eq_true, imp_self, implies_true, true_implies, false_implies, and_self, List.length_map, List.length_drop]
  refine (at_at h ho k).mono ?_
  rintro _ σ ⟨rfl, ⟨i, hi, rfl, e1, e2⟩ | ⟨rfl, e1⟩⟩
  · have hp := h.ob
    have e : s.double k = s.put s.l[i].to s.l[i].b := by unfold Ns.double; rw [e1]
    rw [e]
    have d0 : decide ((i : Int) < 0) = false := decide_eq_false (by omega)
    have eg := msgs_get hi
    simp only [go_sem, d0, reduceIte, Nat.reduceEqDiff, Nat.reduceAdd, Nat.reduceMul, Nat.reduceSub, Nat.reduceLT, Nat.reduceLeDiff, Nat.le_refl, Nat.zero_le, Nat.zero_add, Nat.add_zero, Nat.mul_one, splice_zero, Int.toNat_natCast, Int.natCast_nonneg, Int.reduceLE, Int.reduceLT, Int.reduceToNat, Int.reduceEq, Int.cast_ofNat_Int, ne_eq, not_true_eq_false, not_false_eq_true, imp_self, implies_true, true_implies, false_implies, and_self, List.length_map, List.length_drop]
    refine aDraw_plan [.rd 0 false, .rd 1 false, .rd 2 false, .rd 3 false, .rd 4 true, .rd 5 false, .rd 6 false, .rd 7 false, .rd 8 true, .rd 9 false, .rd 10 false, .rd 11 false, .rd 12 true, .rd 13 false, .rd 14 false, .rd 15 false, .rd 16 true, .ef 17 [], .rd 18 false, .rd 19 false, .rd 20 false, .rd 21 false] (by kernel_rfl) (by kernel_rfl) (by kernel_rfl) ?_
    simp only [go_sem, hp, reduceIte, Nat.reduceEqDiff, Nat.reduceAdd, Nat.reduceMul, Nat.reduceSub, Nat.reduceLT, Nat.reduceLeDiff, Nat.le_refl, Nat.zero_le, Nat.zero_add, Nat.add_zero, Nat.mul_one, splice_zero, Int.toNat_natCast, Int.natCast_nonneg, Int.reduceLE, Int.reduceLT, Int.reduceToNat, Int.reduceEq, Int.cast_ofNat_Int, ne_eq, not_true_eq_false, not_false_eq_true, imp_self, implies_true, true_implies, false_implies, and_self, List.length_map, List.length_drop]
    refine h.l.elem (by omega) (by simpa using hi) fun a ha => ?_
    rw [Int.toNat_natCast, eg] at ha
    simp only [go_sem, reduceIte, Nat.reduceEqDiff, Nat.reduceAdd, Nat.reduceMul, Nat.reduceSub, Nat.reduceLT, Nat.reduceLeDiff, Nat.le_refl, Nat.zero_le, Nat.zero_add, Nat.add_zero, Nat.mul_one, splice_zero, Int.toNat_natCast, Int.natCast_nonneg, Int.reduceLE, Int.reduceLT, Int.reduceToNat, Int.reduceEq, Int.cast_ofNat_Int, ne_eq, not_true_eq_false, not_false_eq_true, imp_self, implies_true, true_implies, false_implies, and_self, List.length_map, List.length_drop]
    refine ha.fld (by decide) (by rw [Msg.len]; decide) fun a2 ha2 => ?_
    simp only [go_sem, reduceIte, Nat.reduceEqDiff, Nat.reduceAdd, Nat.reduceMul, Nat.reduceSub, Nat.reduceLT, Nat.reduceLeDiff, Nat.le_refl, Nat.zero_le, Nat.zero_add, Nat.add_zero, Nat.mul_one, splice_zero, Int.toNat_natCast, Int.natCast_nonneg, Int.reduceLE, Int.reduceLT, Int.reduceToNat, Int.reduceEq, Int.cast_ofNat_Int, ne_eq, not_true_eq_false, not_false_eq_true, imp_self, implies_true, true_implies, false_implies, and_self, List.length_map, List.length_drop]
    refine ha2.load1 (by decide) (by rw [Msg.len]; decide) ?_
    simp only [go_sem, Msg.at1, hp, reduceIte, Nat.reduceEqDiff, Nat.reduceAdd, Nat.reduceMul, Nat.reduceSub, Nat.reduceLT, Nat.reduceLeDiff, Nat.le_refl, Nat.zero_le, Nat.zero_add, Nat.add_zero, Nat.mul_one, splice_zero, Int.toNat_natCast, Int.natCast_nonneg, Int.reduceLE, Int.reduceLT, Int.reduceToNat, Int.reduceEq, Int.cast_ofNat_Int, ne_eq, not_true_eq_false, not_false_eq_true, imp_self, implies_true, true_implies, false_implies, and_self, List.length_map, List.length_drop]
    refine h.l.elem (by omega) (by simpa using hi) fun a ha => ?_
    rw [Int.toNat_natCast, eg] at ha
    simp only [go_sem, reduceIte, Nat.reduceEqDiff, Nat.reduceAdd, Nat.reduceMul, Nat.reduceSub, Nat.reduceLT, Nat.reduceLeDiff, Nat.le_refl, Nat.zero_le, Nat.zero_add, Nat.add_zero, Nat.mul_one, splice_zero, Int.toNat_natCast, Int.natCast_nonneg, Int.reduceLE, Int.reduceLT, Int.reduceToNat, Int.reduceEq, Int.cast_ofNat_Int, ne_eq, not_true_eq_false, not_false_eq_true, imp_self, implies_true, true_implies, false_implies, and_self, List.length_map, List.length_drop]
    refine ha.fld (by decide) (by rw [Msg.len]; decide) fun a2 ha2 => ?_
    simp only [go_sem, reduceIte, Nat.reduceEqDiff, Nat.reduceAdd, Nat.reduceMul, Nat.reduceSub, Nat.reduceLT, Nat.reduceLeDiff, Nat.le_refl, Nat.zero_le, Nat.zero_add, Nat.add_zero, Nat.mul_one, splice_zero, Int.toNat_natCast, Int.natCast_nonneg, Int.reduceLE, Int.reduceLT, Int.reduceToNat, Int.reduceEq, Int.cast_ofNat_Int, ne_eq, not_true_eq_false, not_false_eq_true, imp_self, implies_true, true_implies, false_implies, and_self, List.length_map, List.length_drop]
    refine ha2.load1 (by decide) (by rw [Msg.len]; decide) ?_
    simp only [go_sem, Msg.at2, reduceIte, Nat.reduceEqDiff, Nat.reduceAdd, Nat.reduceMul, Nat.reduceSub, Nat.reduceLT, Nat.reduceLeDiff, Nat.le_refl, Nat.zero_le, Nat.zero_add, Nat.add_zero, Nat.mul_one, splice_zero, Int.toNat_natCast, Int.natCast_nonneg, Int.reduceLE, Int.reduceLT, Int.reduceToNat, Int.reduceEq, Int.cast_ofNat_Int, ne_eq, not_true_eq_false, not_false_eq_true, imp_self, implies_true, true_implies, false_implies, and_self, List.length_map, List.length_drop]
    refine (rput_at h ho _ (fun _ _ => src_sl) (ho.by_ _ (List.getElem_mem hi))).mono ?_
    rintro _ σ1 ⟨rfl, h1⟩
    simp only [go_sem, reduceIte, Nat.reduceEqDiff, Nat.reduceAdd, Nat.reduceMul, Nat.reduceSub, Nat.reduceLT, Nat.reduceLeDiff, Nat.le_refl, Nat.zero_le, Nat.zero_add, Nat.add_zero, Nat.mul_one, splice_zero, Int.toNat_natCast, Int.natCast_nonneg, Int.reduceLE, Int.reduceLT, Int.reduceToNat, Int.reduceEq, Int.cast_ofNat_Int, ne_eq, not_true_eq_false, not_false_eq_true, imp_self, implies_true, true_implies, false_implies, and_self, List.length_map, List.length_drop]
    exact aRet_as (r := .tup [int (s.put s.l[i].to s.l[i].b).1.1, int (s.put s.l[i].to s.l[i].b).1.2]) rfl ⟨rfl, h1⟩
  · have e : s.double k = ((0, 220), s) := by unfold Ns.double; rw [e1]
    rw [e]
    have d0 : decide ((-1 : Int) < 0) = true := by decide
    simp only [go_sem, d0, reduceIte, Nat.reduceEqDiff, Nat.reduceAdd, Nat.reduceMul, Nat.reduceSub, Nat.reduceLT, Nat.reduceLeDiff, Nat.le_refl, Nat.zero_le, Nat.zero_add, Nat.add_zero, Nat.mul_one, splice_zero, Int.toNat_natCast, Int.natCast_nonneg, Int.reduceLE, Int.reduceLT, Int.reduceToNat, Int.reduceEq, Int.cast_ofNat_Int, ne_eq, not_true_eq_false, not_false_eq_true, imp_self, implies_true, true_implies, false_implies, and_self, List.length_map, List.length_drop]
    exact aRet_as (r := .tup [int 0, int 220]) rfl ⟨rfl, lv, h, .refl⟩

theorem rtake_at (h : Rf p lv σ s) (ho : s.Ok) (k : Int) : AT Try.prog 21 [ptr p, int k] σ fun r σ' => r = .tup [.agg (s.take k).1.1.cs, int (s.take k).1.2] ∧ ∃ lv', Rf p lv' σ' (s.take k).2 ∧ Fm p lv lv' σ σ' := by
  refine AT.of_body Try.func21 rfl (by decide) (by kernel_rfl) (by kernel_rfl) (Nat.le_of_ble_eq_true rfl) ?_
  simp only [go_sem, reduceIte, Nat.reduceEqDiff, Nat.reduceAdd, Nat.reduceMul, Nat.reduceSub, Nat.reduceLT, Nat.reduceLeDiff, Nat.le_refl, Nat.zero_le, Nat.zero_add, Nat.add_zero, Nat.mul_one, splice_zero, Int.toNat_natCast, Int.natCast_nonneg, Int.reduceLE, Int.reduceLT, Int.reduceToNat, Int.reduceEq, Int.cast_ofNat_Int, ne_eq, not_true_eq_false, not_false_eq_true, imp_self, implies_true, true_implies, false_implies, and_self, List.length_map, List.length_drop]
  refine aNew_intro fun c hc hcm => ?_
  have hpc := hcm _ _ h.ob
  have hR : Rf p lv (σ.set c (.cells [int 0, str ⟨#[]⟩, nilS])) s := ⟨by rw [set_ne hpc]; exact h.ob, h.l.new hc⟩
  have hsub : ∀ x o, σ x = some o → (σ.set c (.cells [int 0, str ⟨#[]⟩, nilS])) x = some o := set_sub hc fun _ _ h => h
  have hc1 : (σ.set c (.cells [int 0, str ⟨#[]⟩, nilS])) c = some (.cells [int 0, str ⟨#[]⟩, nilS]) := set_same
  simp only [go_sem, reduceIte, Nat.reduceEqDiff, Nat.reduceAdd, Nat.reduceMul, Nat.reduceSub, Nat.reduceLT, Nat.reduceLeDiff, Nat.le_refl, Nat.zero_le, Nat.zero_add, Nat.add_zero, Nat.mul_one, splice_zero, Int.toNat_natCast, Int.natCast_nonneg, Int.reduceLE, Int.reduceLT, Int.reduceToNat, Int.reduceEq, Int.cast_ofNat_Int, ne_eq, not_true_eq_false, not_false_eq_true, imp_self, implies_true, true_implies, false_implies, and_self, List.length_map, List.length_drop]
  revert hR hsub hc1
  generalize σ.set c (.cells [int 0, str ⟨#[]⟩, nilS]) = σ1
  intro hR hsub hc1
  refine (at_at hR ho k).mono ?_
  rintro _ σ1 ⟨rfl, ⟨i, hi, rfl, e1, e2⟩ | ⟨rfl, e1⟩⟩
  · have e : s.take k = ((s.l[i], 0), ⟨nDel k s.l, s.last⟩) := by unfold Ns.take; rw [e1]
    rw [e, e2]
    have d0 : decide ((i : Int) < 0) = false := decide_eq_false (by omega)
    have eg := msgs_get hi
    have hp := hR.ob
    have hln := ho.ln
    simp only [go_sem, d0, hp, reduceIte, Nat.reduceEqDiff, Nat.reduceAdd, Nat.reduceMul, Nat.reduceSub, Nat.reduceLT, Nat.reduceLeDiff, Nat.le_refl, Nat.zero_le, Nat.zero_add, Nat.add_zero, Nat.mul_one, splice_zero, Int.toNat_natCast, Int.natCast_nonneg, Int.reduceLE, Int.reduceLT, Int.reduceToNat, Int.reduceEq, Int.cast_ofNat_Int, ne_eq, not_true_eq_false, not_false_eq_true, imp_self, implies_true, true_implies, false_implies, and_self, List.length_map, List.length_drop]
    refine hR.l.elem (by omega) (by simpa using hi) fun a ha => ?_
    rw [Int.toNat_natCast, eg] at ha
    simp only [go_sem, reduceIte, Nat.reduceEqDiff, Nat.reduceAdd, Nat.reduceMul, Nat.reduceSub, Nat.reduceLT, Nat.reduceLeDiff, Nat.le_refl, Nat.zero_le, Nat.zero_add, Nat.add_zero, Nat.mul_one, splice_zero, Int.toNat_natCast, Int.natCast_nonneg, Int.reduceLE, Int.reduceLT, Int.reduceToNat, Int.reduceEq, Int.cast_ofNat_Int, ne_eq, not_true_eq_false, not_false_eq_true, imp_self, implies_true, true_implies, false_implies, and_self, List.length_map, List.length_drop]
    refine ha.load (by decide) (by rw [Msg.len]; decide) ?_
    simp only [go_sem, Msg.take, List.drop_zero, reduceIte, Nat.reduceEqDiff, Nat.reduceAdd, Nat.reduceMul, Nat.reduceSub, Nat.reduceLT, Nat.reduceLeDiff, Nat.le_refl, Nat.zero_le, Nat.zero_add, Nat.add_zero, Nat.mul_one, splice_zero, Int.toNat_natCast, Int.natCast_nonneg, Int.reduceLE, Int.reduceLT, Int.reduceToNat, Int.reduceEq, Int.cast_ofNat_Int, ne_eq, not_true_eq_false, not_false_eq_true, imp_self, implies_true, true_implies, false_implies, and_self, List.length_map, List.length_drop]
    refine aNew_intro fun d hd hdm => ?_
    have hpd := hdm _ _ hR.ob
    have hcd := hdm _ _ hc1
    have hR2 : Rf p lv (σ1.set d (.cells s.l[i].cs)) s := ⟨by rw [set_ne hpd]; exact hR.ob, hR.l.new hd⟩
    have hsub2 : ∀ x o, σ x = some o → (σ1.set d (.cells s.l[i].cs)) x = some o := fun x o hx => set_sub hd (fun _ _ h => h) x o (hsub x o hx)
    have hc2 : (σ1.set d (.cells s.l[i].cs)) c = some (.cells [int 0, str ⟨#[]⟩, nilS]) := by rw [set_ne hcd]; exact hc1
    have hd2 : (σ1.set d (.cells s.l[i].cs)) d = some (.cells s.l[i].cs) := set_same
    simp only [go_sem, Msg.one, Msg.len, reduceIte, Nat.reduceEqDiff, Nat.reduceAdd, Nat.reduceMul, Nat.reduceSub, Nat.reduceLT, Nat.reduceLeDiff, Nat.le_refl, Nat.zero_le, Nat.zero_add, Nat.add_zero, Nat.mul_one, splice_zero, Int.toNat_natCast, Int.natCast_nonneg, Int.reduceLE, Int.reduceLT, Int.reduceToNat, Int.reduceEq, Int.cast_ofNat_Int, ne_eq, not_true_eq_false, not_false_eq_true, imp_self, implies_true, true_implies, false_implies, and_self, List.length_map, List.length_drop]
    have hdn : ∀ o, σ d ≠ some o := fun o hx => by have := hsub _ _ hx; rw [hd] at this; cases this
    revert hR2 hsub2 hc2 hd2
    generalize σ1.set d (.cells s.l[i].cs) = σ2
    intro hR2 hsub2 hc2 hd2
    clear hR hsub hc1 hp ha hd hdm hc
    have hp := hR2.ob
    simp only [go_sem, hp, reduceIte, Nat.reduceEqDiff, Nat.reduceAdd, Nat.reduceMul, Nat.reduceSub, Nat.reduceLT, Nat.reduceLeDiff, Nat.le_refl, Nat.zero_le, Nat.zero_add, Nat.add_zero, Nat.mul_one, splice_zero, Int.toNat_natCast, Int.natCast_nonneg, Int.reduceLE, Int.reduceLT, Int.reduceToNat, Int.reduceEq, Int.cast_ofNat_Int, ne_eq, not_true_eq_false, not_false_eq_true, imp_self, implies_true, true_implies, false_implies, and_self, List.length_map, List.length_drop]
    refine hR2.l.upto (j := i) (by omega) (by simp; omega) fun x hx => ?_
    simp only [go_sem, reduceIte, Nat.reduceEqDiff, Nat.reduceAdd, Nat.reduceMul, Nat.reduceSub, Nat.reduceLT, Nat.reduceLeDiff, Nat.le_refl, Nat.zero_le, Nat.zero_add, Nat.add_zero, Nat.mul_one, splice_zero, Int.toNat_natCast, Int.natCast_nonneg, Int.reduceLE, Int.reduceLT, Int.reduceToNat, Int.reduceEq, Int.cast_ofNat_Int, ne_eq, not_true_eq_false, not_false_eq_true, imp_self, implies_true, true_implies, false_implies, and_self, List.length_map, List.length_drop]
    refine aApp_by (hx _ _ hR2.l) (by decide) (by decide) (by decide) (LAt.full.app (by simp; omega) fun lo σ3 hlo hs3 => ?_)
    have hno : ∀ x, ¬ Own (.fsl 3 []) x := fun x ⟨n, c, e⟩ => by cases e
    have hs3 : ∀ x o, σ2 x = some o → σ3 x = some o ∧ ¬ Own lo x := fun x o hx => hs3 x o hx (hno x)
    rw [List.nil_append] at hlo
    have hp3 := (hs3 _ _ hp).1
    have hL3 : LAt 3 σ3 lv (s.l.map Msg.cs) := hR2.l.keep fun y o hy hw => (hs3 y o hy).1
    simp only [go_sem, hp3, reduceIte, Nat.reduceEqDiff, Nat.reduceAdd, Nat.reduceMul, Nat.reduceSub, Nat.reduceLT, Nat.reduceLeDiff, Nat.le_refl, Nat.zero_le, Nat.zero_add, Nat.add_zero, Nat.mul_one, splice_zero, Int.toNat_natCast, Int.natCast_nonneg, Int.reduceLE, Int.reduceLT, Int.reduceToNat, Int.reduceEq, Int.cast_ofNat_Int, ne_eq, not_true_eq_false, not_false_eq_true, imp_self, implies_true, true_implies, false_implies, and_self, List.length_map, List.length_drop]
    rw [next64 (by omega)]
    refine hL3.from (j := (i + 1 : Nat)) (by decide) (by omega) (by simp; omega) fun y hy => ?_
    simp only [go_sem, reduceIte, Nat.reduceEqDiff, Nat.reduceAdd, Nat.reduceMul, Nat.reduceSub, Nat.reduceLT, Nat.reduceLeDiff, Nat.le_refl, Nat.zero_le, Nat.zero_add, Nat.add_zero, Nat.mul_one, splice_zero, Int.toNat_natCast, Int.natCast_nonneg, Int.reduceLE, Int.reduceLT, Int.reduceToNat, Int.reduceEq, Int.cast_ofNat_Int, ne_eq, not_true_eq_false, not_false_eq_true, imp_self, implies_true, true_implies, false_implies, and_self, List.length_map, List.length_drop]
    refine aApp_by (hy _ _ hL3) (by decide) (by decide) (by decide) (hlo.app (by simp; omega) fun lw σ4 hlw hs4 => ?_)
    have hs5 : ∀ x o, σ2 x = some o → σ4 x = some o ∧ ¬ Own lw x := fun x o hx => hs4 x o (hs3 x o hx).1 (hs3 x o hx).2
    have hp4 := hs5 _ _ hp
    have hc4 := hs5 _ _ hc2
    have hd4 := hs5 _ _ hd2
    simp only [go_sem, hp4.1, hlw.one, hlw.cells, hd4.1, hc4.1, set_ne hpd.symm, set_ne hcd, hpc, hpc.symm, Msg.len, Msg.one, Msg.take, reduceIte, Nat.reduceEqDiff, Nat.reduceAdd, Nat.reduceMul, Nat.reduceSub, Nat.reduceLT, Nat.reduceLeDiff, Nat.le_refl, Nat.zero_le, Nat.zero_add, Nat.add_zero, Nat.mul_one, splice_zero, Int.toNat_natCast, Int.natCast_nonneg, Int.reduceLE, Int.reduceLT, Int.reduceToNat, Int.reduceEq, Int.cast_ofNat_Int, ne_eq, not_true_eq_false, not_false_eq_true, imp_self, implies_true, true_implies, false_implies, and_self, List.length_map, List.length_drop]
    refine aRet_as (r := .tup [.agg s.l[i].cs, int 0]) (by simp [aResult, aResL, aRes1, aResC, oneR, go_sem, Fr.up, Try.f21, Msg.len, Msg.take]) ⟨rfl, lw, ⟨?_, ?_⟩, fun y o hy hyp hyl => ?_⟩
    · rw [set_ne hpc, set_same]
    · have hwp : ¬ Own lw p := hp4.2
      have hwc : ¬ Own lw c := hc4.2
      have := hlw.keep (σ' := (σ4.set p (.cells [lw, int s.last])).set c (.cells s.l[i].cs)) fun y o hy hw => by
        rw [set_ne (by rintro rfl; exact hwc hw), set_ne (by rintro rfl; exact hwp hw)]; exact hy
      simpa [List.map_append, List.map_take, List.map_drop] using this
    · have h5 := hs5 _ _ (hsub2 y o hy)
      exact ⟨by rw [set_ne (hcm y o hy), set_ne hyp]; exact h5.1, h5.2⟩
  · have e : s.take k = ((⟨0, ⟨#[]⟩, []⟩, 220), s) := by unfold Ns.take; rw [e1]
    rw [e]
    have d0 : decide ((-1 : Int) < 0) = true := by decide
    simp only [go_sem, d0, hc1, reduceIte, Nat.reduceEqDiff, Nat.reduceAdd, Nat.reduceMul, Nat.reduceSub, Nat.reduceLT, Nat.reduceLeDiff, Nat.le_refl, Nat.zero_le, Nat.zero_add, Nat.add_zero, Nat.mul_one, splice_zero, Int.toNat_natCast, Int.natCast_nonneg, Int.reduceLE, Int.reduceLT, Int.reduceToNat, Int.reduceEq, Int.cast_ofNat_Int, ne_eq, not_true_eq_false, not_false_eq_true, imp_self, implies_true, true_implies, false_implies, and_self, List.length_map, List.length_drop]
    have hb : VWs (σ1.set c (.cells [int 0, str ⟨#[]⟩, nilS])) σ [int 0, str ⟨#[]⟩, nilS] (Msg.cs ⟨0, ⟨#[]⟩, []⟩) := vws_same (vws_same (vws_cons (.nil 1) vws_nil))
    refine aRet_view (r := .tup [.agg [int 0, str ⟨#[]⟩, nilS], int 220]) (by simp [aResult, aResL, aRes1, aResC, oneR, go_sem, Fr.up, Try.f21]) (.tup [.agg (Msg.cs ⟨0, ⟨#[]⟩, []⟩), int 220]) σ (view_of (sv_of fun x o hx => .inl ?_) (.tup _ _ rfl (vws_cons (.agg _ _ hb.1 hb.2) (vws_refl _)).2)) ⟨rfl, lv, h, .refl⟩
    rw [set_ne (hcm x o hx)]
    exact hsub x o hx
end
end Go.Proofs.Ytebmjajdkhhhbaa
