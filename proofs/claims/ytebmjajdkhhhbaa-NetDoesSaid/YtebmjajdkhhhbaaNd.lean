/-
  Messages on their way (package net): the examples; what stays true.
  Conditions: none.
-/
import Derived.Test.YtebmjajdkhhhbaaNc
set_option linter.unusedVariables false
set_option linter.unusedSimpArgs false
namespace Go.Proofs.Ytebmjajdkhhhbaa
open Go Go.Av

theorem rise_iff {l : List Msg} : Rise l ↔ l.Pairwise fun a b => a.num < b.num := by
  rw [List.pairwise_iff_getElem]
  exact ⟨fun h i j hi hj hij => h i j hij hj, fun h i j hij hj => h i j (by omega) hj hij⟩
theorem ndel_sub (k : Int) : ∀ l : List Msg, (nDel k l).Sublist l
  | [] => .slnil
  | m :: l => by
    simp only [nDel]
    split
    · exact List.sublist_cons_self _ _
    · exact (ndel_sub k l).cons_cons m

section
variable {s : Ns}
theorem ok0 : Ns.Ok ⟨[], 0⟩ := ⟨fun i j hi hj => by simp at hj, (fun m hm => by cases hm), (fun m hm => by cases hm), by simp, by simp⟩
theorem Ns.Ok.put (h : s.Ok) {to : ByteArray} {b : Byt} (hb : b.length ≤ 65536) (hl : s.last < 1000000000) : (s.put to b).2.Ok := by
  have hln := h.ln
  unfold Ns.put
  split
  · exact h
  · rename_i hn
    refine ⟨rise_iff.2 (List.pairwise_append.2 ⟨rise_iff.1 h.rise, by simp, fun a ha c hc => ?_⟩), fun m hm => ?_, fun m hm => ?_, by simp; omega, by simp only []; omega⟩
    · simp at hc; subst hc
      have := h.le a ha
      simp only []
      omega
    · simp at hm
      rcases hm with hm | rfl
      · have := h.le m hm; simp only []; omega
      · simp
    · simp at hm
      rcases hm with hm | rfl
      · exact h.by_ m hm
      · exact hb
theorem Ns.Ok.send (h : s.Ok) (to : ByteArray) (b : Byt) (hl : s.last < 1000000000) : (s.send to b).2.Ok := by
  unfold Ns.send
  split
  · exact h
  · exact h.put (by omega) hl
theorem Ns.Ok.double (h : s.Ok) (k : Int) (hl : s.last < 1000000000) : (s.double k).2.Ok := by
  unfold Ns.double
  split
  · exact h
  · rename_i m hm
    exact h.put (h.by_ m (nfind_mem hm).1) hl
theorem Ns.Ok.take (h : s.Ok) (k : Int) : (s.take k).2.Ok := by
  unfold Ns.take
  split
  · exact h
  · have hs := ndel_sub k s.l
    exact ⟨rise_iff.2 ((rise_iff.1 h.rise).sublist hs), fun m hm => h.le m (hs.subset hm), fun m hm => h.by_ m (hs.subset hm), Nat.le_trans hs.length_le h.ln, h.la⟩
theorem put_last (s : Ns) (to : ByteArray) (b : Byt) : (s.put to b).2.last ≤ s.last + 1 := by unfold Ns.put; split <;> simp
theorem send_last (s : Ns) (to : ByteArray) (b : Byt) : (s.send to b).2.last ≤ s.last + 1 := by unfold Ns.send; split; simp; exact put_last _ _ _
theorem double_last (s : Ns) (k : Int) : (s.double k).2.last ≤ s.last + 1 := by unfold Ns.double; split; simp; exact put_last _ _ _
theorem take_last (s : Ns) (k : Int) : (s.take k).2.last = s.last := by unfold Ns.take; split <;> rfl
end

theorem isB (b : Byt) : (byC b).all isByte = true := by
  induction b with
  | nil => rfl
  | cons x b ih => simp only [byC, List.map_cons, List.all_cons] at ih ⊢; rw [ih]; rfl
/-- The bytes as a text. -/
def txt (b : Byt) : ByteArray := ⟨b.toArray⟩
theorem strOf_by (b : Byt) : strOf (byC b) = txt b := by
  have : (byC b).map Av.byteOf = b := by
    induction b with
    | nil => rfl
    | cons x b ih =>
      simp only [byC, List.map_cons] at ih ⊢
      rw [ih]
      simp [byteEl, Av.byteOf]
  simp only [strOf, txt, this]
theorem txt_inj {a b : Byt} (h : txt a = txt b) : a = b := by
  simp only [txt, ByteArray.mk.injEq] at h
  exact congrArg Array.toList h

section
variable {σ σ' : St} {p : Nat} {s : Ns}
set_option maxRecDepth 100000
set_option maxHeartbeats 1000000

theorem same_at {x y : AV} {a b : Byt} (hx : vlook 1 σ x = some (byC a)) (hy : vlook 1 σ y = some (byC b)) : AT Try.prog 26 [x, y] σ fun r σ' => r = boo (decide (txt a = txt b)) ∧ σ' = σ := by
  refine AT.of_body Try.func26 rfl (by decide) (by kernel_rfl) (by kernel_rfl) (Nat.le_of_ble_eq_true rfl) ?_
  simp only [go_sem, reduceIte, Nat.reduceEqDiff, Nat.reduceAdd, Nat.reduceMul, Nat.reduceSub, Nat.reduceLT, Nat.reduceLeDiff, Nat.le_refl, Nat.zero_le, Nat.zero_add, Nat.add_zero, Nat.mul_one, splice_zero, Int.toNat_natCast, Int.natCast_nonneg, Int.reduceLE, Int.reduceLT, Int.reduceToNat, Int.reduceEq, Int.cast_ofNat_Int, ne_eq, not_true_eq_false, not_false_eq_true, imp_self, implies_true, true_implies, false_implies, and_self, List.length_map, List.length_drop]
  refine ⟨_, hx, isB a, ?_⟩
  refine ⟨_, hy, isB b, ?_⟩
  simp only [go_sem, strOf_by, reduceIte, Nat.reduceEqDiff, Nat.reduceAdd, Nat.reduceMul, Nat.reduceSub, Nat.reduceLT, Nat.reduceLeDiff, Nat.le_refl, Nat.zero_le, Nat.zero_add, Nat.add_zero, Nat.mul_one, splice_zero, Int.toNat_natCast, Int.natCast_nonneg, Int.reduceLE, Int.reduceLT, Int.reduceToNat, Int.reduceEq, Int.cast_ofNat_Int, ne_eq, not_true_eq_false, not_false_eq_true, imp_self, implies_true, true_implies, false_implies, and_self, List.length_map, List.length_drop]
  exact aRet_as (r := boo (decide (txt a = txt b))) rfl ⟨rfl, rfl⟩

def a97 : ByteArray := ⟨#[97]⟩
theorem live_at : AT Try.prog 9 [] σ fun r σ' => r = boo true ∧ σ' = σ := by
  refine AT.of_body Try.func9 rfl (by decide) (by kernel_rfl) (by kernel_rfl) (Nat.le_of_ble_eq_true rfl) ?_
  simp only [go_sem, reduceIte, Nat.reduceEqDiff, Nat.reduceAdd, Nat.reduceMul, Nat.reduceSub, Nat.reduceLT, Nat.reduceLeDiff, Nat.le_refl, Nat.zero_le, Nat.zero_add, Nat.add_zero, Nat.mul_one, splice_zero, Int.toNat_natCast, Int.natCast_nonneg, Int.reduceLE, Int.reduceLT, Int.reduceToNat, Int.reduceEq, Int.cast_ofNat_Int, ne_eq, not_true_eq_false, not_false_eq_true, imp_self, implies_true, true_implies, false_implies, and_self, List.length_map, List.length_drop]
  refine new_at.mono ?_
  rintro _ _ ⟨p, hp, rfl, rfl⟩
  have hsub : ∀ {o : AObj} x q, σ x = some q → (σ.set p o) x = some q := fun x q hx => set_sub hp (fun _ _ h => h) x q hx
  have hO : nO [] 0 = Ns.O ⟨[], 0⟩ := rfl
  rw [hO]
  simp only [go_sem, reduceIte, Nat.reduceEqDiff, Nat.reduceAdd, Nat.reduceMul, Nat.reduceSub, Nat.reduceLT, Nat.reduceLeDiff, Nat.le_refl, Nat.zero_le, Nat.zero_add, Nat.add_zero, Nat.mul_one, splice_zero, Int.toNat_natCast, Int.natCast_nonneg, Int.reduceLE, Int.reduceLT, Int.reduceToNat, Int.reduceEq, Int.cast_ofNat_Int, ne_eq, not_true_eq_false, not_false_eq_true, imp_self, implies_true, true_implies, false_implies, and_self, List.length_map, List.length_drop]
  refine (send_at (s := ⟨[], 0⟩) set_same ok0 a97 (b := [7]) (.inr .full)).mono ?_
  rintro _ _ ⟨rfl, rfl⟩
  rw [set_set]
  rw [show (Ns.send ⟨[], 0⟩ a97 [7]) = ((1, 0), ⟨[⟨1, a97, [7]⟩], 1⟩) from rfl]
  have ok1 : Ns.Ok ⟨[⟨1, a97, [7]⟩], 1⟩ := ok0.send a97 [7] (by decide)
  simp only [go_sem, reduceIte, Nat.reduceEqDiff, Nat.reduceAdd, Nat.reduceMul, Nat.reduceSub, Nat.reduceLT, Nat.reduceLeDiff, Nat.le_refl, Nat.zero_le, Nat.zero_add, Nat.add_zero, Nat.mul_one, splice_zero, Int.toNat_natCast, Int.natCast_nonneg, Int.reduceLE, Int.reduceLT, Int.reduceToNat, Int.reduceEq, Int.cast_ofNat_Int, ne_eq, not_true_eq_false, not_false_eq_true, imp_self, implies_true, true_implies, false_implies, and_self, List.length_map, List.length_drop]
  refine (double_at (s := ⟨[⟨1, a97, [7]⟩], 1⟩) set_same ok1 1).mono ?_
  rintro _ _ ⟨rfl, rfl⟩
  rw [set_set]
  rw [show (Ns.double ⟨[⟨1, a97, [7]⟩], 1⟩ 1) = ((2, 0), ⟨[⟨1, a97, [7]⟩, ⟨2, a97, [7]⟩], 2⟩) from rfl]
  have ok2 : Ns.Ok ⟨[⟨1, a97, [7]⟩, ⟨2, a97, [7]⟩], 2⟩ := ok1.double 1 (by decide)
  simp only [go_sem, reduceIte, Nat.reduceEqDiff, Nat.reduceAdd, Nat.reduceMul, Nat.reduceSub, Nat.reduceLT, Nat.reduceLeDiff, Nat.le_refl, Nat.zero_le, Nat.zero_add, Nat.add_zero, Nat.mul_one, splice_zero, Int.toNat_natCast, Int.natCast_nonneg, Int.reduceLE, Int.reduceLT, Int.reduceToNat, Int.reduceEq, Int.cast_ofNat_Int, ne_eq, not_true_eq_false, not_false_eq_true, imp_self, implies_true, true_implies, false_implies, and_self, List.length_map, List.length_drop]
  refine (take_at (s := ⟨[⟨1, a97, [7]⟩, ⟨2, a97, [7]⟩], 2⟩) set_same ok2 1).mono ?_
  rintro _ _ ⟨rfl, rfl⟩
  rw [set_set]
  rw [show (Ns.take ⟨[⟨1, a97, [7]⟩, ⟨2, a97, [7]⟩], 2⟩ 1) = ((⟨1, a97, [7]⟩, 0), ⟨[⟨2, a97, [7]⟩], 2⟩) from rfl]
  have ok3 : Ns.Ok ⟨[⟨2, a97, [7]⟩], 2⟩ := ok2.take 1
  simp only [go_sem, Msg.one, Msg.len, reduceIte, Nat.reduceEqDiff, Nat.reduceAdd, Nat.reduceMul, Nat.reduceSub, Nat.reduceLT, Nat.reduceLeDiff, Nat.le_refl, Nat.zero_le, Nat.zero_add, Nat.add_zero, Nat.mul_one, splice_zero, Int.toNat_natCast, Int.natCast_nonneg, Int.reduceLE, Int.reduceLT, Int.reduceToNat, Int.reduceEq, Int.cast_ofNat_Int, ne_eq, not_true_eq_false, not_false_eq_true, imp_self, implies_true, true_implies, false_implies, and_self, List.length_map, List.length_drop]
  refine aNew_intro fun c hc hcm => ?_
  have hpc : p ≠ c := hcm _ _ set_same
  simp only [go_sem, Msg.one, Msg.len, reduceIte, Nat.reduceEqDiff, Nat.reduceAdd, Nat.reduceMul, Nat.reduceSub, Nat.reduceLT, Nat.reduceLeDiff, Nat.le_refl, Nat.zero_le, Nat.zero_add, Nat.add_zero, Nat.mul_one, splice_zero, Int.toNat_natCast, Int.natCast_nonneg, Int.reduceLE, Int.reduceLT, Int.reduceToNat, Int.reduceEq, Int.cast_ofNat_Int, ne_eq, not_true_eq_false, not_false_eq_true, imp_self, implies_true, true_implies, false_implies, and_self, List.length_map, List.length_drop]
  generalize hσ : (σ.set p (Ns.O ⟨[⟨2, a97, [7]⟩], 2⟩)).set c (.cells (Msg.cs ⟨1, a97, [7]⟩)) = σ1
  have g1 : σ1 p = some (Ns.O ⟨[⟨2, a97, [7]⟩], 2⟩) := by rw [← hσ, set_ne hpc, set_same]
  have g2 : σ1 c = some (.cells (Msg.cs ⟨1, a97, [7]⟩)) := by rw [← hσ, set_same]
  have g3 : ∀ x o, σ x = some o → σ1 x = some o := fun x o hx => by
    have := hsub (o := Ns.O ⟨[⟨2, a97, [7]⟩], 2⟩) x o hx
    rw [← hσ, set_ne (hcm x o this)]; exact this
  clear hσ hc hcm
  refine (take_at g1 ok3 1).mono ?_
  rintro _ σ2 ⟨rfl, hσ2⟩
  rw [show (Ns.take ⟨[⟨2, a97, [7]⟩], 2⟩ 1) = ((⟨0, ⟨#[]⟩, []⟩, 220), ⟨[⟨2, a97, [7]⟩], 2⟩) from rfl, set_id g1] at hσ2
  subst hσ2
  rw [show (Ns.take ⟨[⟨2, a97, [7]⟩], 2⟩ 1) = ((⟨0, ⟨#[]⟩, []⟩, 220), ⟨[⟨2, a97, [7]⟩], 2⟩) from rfl]
  simp only [go_sem, Msg.one, Msg.len, reduceIte, Nat.reduceEqDiff, Nat.reduceAdd, Nat.reduceMul, Nat.reduceSub, Nat.reduceLT, Nat.reduceLeDiff, Nat.le_refl, Nat.zero_le, Nat.zero_add, Nat.add_zero, Nat.mul_one, splice_zero, Int.toNat_natCast, Int.natCast_nonneg, Int.reduceLE, Int.reduceLT, Int.reduceToNat, Int.reduceEq, Int.cast_ofNat_Int, ne_eq, not_true_eq_false, not_false_eq_true, imp_self, implies_true, true_implies, false_implies, and_self, List.length_map, List.length_drop]
  refine aNew_intro fun d hd hdm => ?_
  have hcd : c ≠ d := hdm _ _ g2
  have hpd : p ≠ d := hdm _ _ g1
  simp only [go_sem, Msg.one, Msg.len, set_ne hcd, set_ne hpd, g2, g1, Msg.at0, Msg.at1, Msg.at2, Msg.dr1, Msg.dr2, a97, reduceIte, Nat.reduceEqDiff, Nat.reduceAdd, Nat.reduceMul, Nat.reduceSub, Nat.reduceLT, Nat.reduceLeDiff, Nat.le_refl, Nat.zero_le, Nat.zero_add, Nat.add_zero, Nat.mul_one, splice_zero, Int.toNat_natCast, Int.natCast_nonneg, Int.reduceLE, Int.reduceLT, Int.reduceToNat, Int.reduceEq, Int.cast_ofNat_Int, ne_eq, not_true_eq_false, not_false_eq_true, imp_self, implies_true, true_implies, false_implies, and_self, List.length_map, List.length_drop]
  refine (same_at (a := [7]) (b := [7]) rfl rfl).mono ?_
  rintro _ σ3 ⟨rfl, hσ3⟩
  simp only [go_sem, reduceIte, Nat.reduceEqDiff, Nat.reduceAdd, Nat.reduceMul, Nat.reduceSub, Nat.reduceLT, Nat.reduceLeDiff, Nat.le_refl, Nat.zero_le, Nat.zero_add, Nat.add_zero, Nat.mul_one, splice_zero, Int.toNat_natCast, Int.natCast_nonneg, Int.reduceLE, Int.reduceLT, Int.reduceToNat, Int.reduceEq, Int.cast_ofNat_Int, ne_eq, not_true_eq_false, not_false_eq_true, imp_self, implies_true, true_implies, false_implies, and_self, List.length_map, List.length_drop]
  have g4 : σ3 p = some (Ns.O ⟨[⟨2, a97, [7]⟩], 2⟩) := by rw [hσ3, set_ne hpd]; exact g1
  refine (last_at g4).mono ?_
  rintro _ σ3 ⟨rfl, rfl⟩
  simp only [go_sem, reduceIte, Nat.reduceEqDiff, Nat.reduceAdd, Nat.reduceMul, Nat.reduceSub, Nat.reduceLT, Nat.reduceLeDiff, Nat.le_refl, Nat.zero_le, Nat.zero_add, Nat.add_zero, Nat.mul_one, splice_zero, Int.toNat_natCast, Int.natCast_nonneg, Int.reduceLE, Int.reduceLT, Int.reduceToNat, Int.reduceEq, Int.cast_ofNat_Int, ne_eq, not_true_eq_false, not_false_eq_true, imp_self, implies_true, true_implies, false_implies, and_self, List.length_map, List.length_drop]
  refine (len_at g4).mono ?_
  rintro _ σ3 ⟨rfl, rfl⟩
  simp only [go_sem, reduceIte, Nat.reduceEqDiff, Nat.reduceAdd, Nat.reduceMul, Nat.reduceSub, Nat.reduceLT, Nat.reduceLeDiff, Nat.le_refl, Nat.zero_le, Nat.zero_add, Nat.add_zero, Nat.mul_one, splice_zero, Int.toNat_natCast, Int.natCast_nonneg, Int.reduceLE, Int.reduceLT, Int.reduceToNat, Int.reduceEq, Int.cast_ofNat_Int, ne_eq, not_true_eq_false, not_false_eq_true, imp_self, implies_true, true_implies, false_implies, and_self, List.length_map, List.length_drop]
  exact aRet_view (r := boo true) rfl _ σ (view_drop (by rw [hσ3]; exact set_sub (none_of_sub g3 hd) g3)) ⟨rfl, rfl⟩
end
theorem by_of {n : Nat} : ∀ (es : List (List AV)), (∀ x ∈ es, Ty Try.prog (n + 1) 5 x) → ∃ b : Byt, es = byC b
  | [], _ => ⟨[], rfl⟩
  | x :: es, h => by
    obtain ⟨b, rfl⟩ := by_of es fun y hy => h y (by simp [hy])
    obtain ⟨v, rfl, hw⟩ := ty_int Try.underlying5 (h x (by simp))
    have hv : 0 ≤ v ∧ v ≤ 255 := by
      simp [Lit.wf, IntKind.min, IntKind.max, IntKind.signed, IntKind.bits] at hw
      omega
    refine ⟨UInt8.ofNat v.toNat :: b, ?_⟩
    have : ((UInt8.ofNat v.toNat).toNat : Int) = v := by
      rw [UInt8.toNat_ofNat']
      omega
    simp only [byC, List.map_cons, byteEl, this]
theorem bys_of {n : Nat} {a : AV} (h : TyA Try.prog (n + 2) 22 a) : ∃ b : Byt, a = .sl 1 (byC b) ∧ b.length ≤ 140737488351232 := by
  obtain ⟨es, rfl, hlen, he⟩ := tyA_sl Try.underlying22 h
  obtain ⟨b, rfl⟩ := by_of es he
  have e1 : Try.prog.cellsOf 5 = 1 := by kernel_rfl
  have e2 : Try.prog.bytesOf 5 = 1 := by kernel_rfl
  rw [e2, byC_len] at hlen
  exact ⟨b, by rw [e1], by omega⟩
end Go.Proofs.Ytebmjajdkhhhbaa
