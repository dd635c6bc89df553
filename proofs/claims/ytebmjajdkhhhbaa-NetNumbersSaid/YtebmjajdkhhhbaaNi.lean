/-
  NetNumbers: the walk.
  Conditions: none.
-/
import Derived.Test.YtebmjajdkhhhbaaNh
set_option linter.unusedVariables false
set_option linter.unusedSimpArgs false
namespace Go.Proofs.Ytebmjajdkhhhbaa
open Go Go.Av

/-- What a number and an error tell: the next number, and all is well; or none. -/
def Gave (s s2 : Ns) (x : Int × Int) : Prop := (x = ((s.last : Int) + 1, 0) ∧ s2.last = s.last + 1) ∨ (x.1 = 0 ∧ x.2 ≠ 0 ∧ s2.last = s.last)
theorem put_gave (s : Ns) (to : ByteArray) (b : Byt) : Gave s (s.put to b).2 (s.put to b).1 := by
  unfold Ns.put
  split
  · exact .inr ⟨rfl, (by show (150 : Int) ≠ 0; decide), rfl⟩
  · exact .inl ⟨rfl, rfl⟩
theorem send_gave (s : Ns) (to : ByteArray) (b : Byt) : Gave s (s.send to b).2 (s.send to b).1 := by
  unfold Ns.send
  split
  · exact .inr ⟨rfl, (by show (3 : Int) ≠ 0; decide), rfl⟩
  · exact put_gave _ _ _
theorem double_gave (s : Ns) (k : Int) : Gave s (s.double k).2 (s.double k).1 := by
  unfold Ns.double
  split
  · exact .inr ⟨rfl, (by show (220 : Int) ≠ 0; decide), rfl⟩
  · exact put_gave _ _ _

/-- Numbers are at least one. -/
def Ns.Ps (s : Ns) : Prop := ∀ m ∈ s.l, 1 ≤ m.num
theorem Ns.Ps.put {s : Ns} (h : s.Ps) (to : ByteArray) (b : Byt) : (s.put to b).2.Ps := by
  unfold Ns.put
  split
  · exact h
  · intro m hm
    rcases List.mem_append.1 hm with hm | hm
    · exact h m hm
    · simp only [List.mem_singleton] at hm
      subst hm
      show (1 : Int) ≤ (s.last : Int) + 1
      omega
theorem Ns.Ps.send {s : Ns} (h : s.Ps) (to : ByteArray) (b : Byt) : (s.send to b).2.Ps := by
  unfold Ns.send
  split
  · exact h
  · exact h.put _ _
theorem Ns.Ps.double {s : Ns} (h : s.Ps) (k : Int) : (s.double k).2.Ps := by
  unfold Ns.double
  split
  · exact h
  · exact h.put _ _
theorem Ns.Ps.take {s : Ns} (h : s.Ps) (k : Int) : (s.take k).2.Ps := by
  unfold Ns.take
  split
  · exact h
  · exact fun m hm => h m ((ndel_sub k s.l).subset hm)

section
variable {σ σ' : St} {p : Nat} {s : Ns}
set_option maxRecDepth 100000
set_option maxHeartbeats 1000000

theorem upto_all (l : List Msg) : upto l (-1) = l := rfl

theorem numbers_at (l : List Ac) (hx : ∀ a ∈ l, a.Ok) : AT Try.prog 5 [.sl 4 (l.map Ac.cs)] (fun _ => none) fun r _ => r = boo true := by
  refine AT.of_body Try.func5 rfl (by decide) (by kernel_rfl) (by kernel_rfl) (Nat.le_of_ble_eq_true rfl) ?_
  simp only [go_sem, r_block, reduceIte, Nat.reduceEqDiff, Nat.reduceAdd, Nat.reduceMul, Nat.reduceSub, Nat.reduceLT, Nat.reduceLeDiff, Nat.le_refl, Nat.zero_le, Nat.zero_add, Nat.add_zero, Nat.mul_one, splice_zero, Int.toNat_natCast, Int.natCast_nonneg, Int.reduceLE, Int.reduceLT, Int.reduceToNat, Int.reduceEq, Int.cast_ofNat_Int, ne_eq, not_true_eq_false, not_false_eq_true, imp_self, implies_true, true_implies, false_implies, and_self, List.length_map, List.length_drop]
  refine (light_at l hx).mono ?_
  rintro _ _ ⟨⟨b, rfl, hb⟩, rfl⟩
  simp only [go_sem, r_block, reduceIte, Nat.reduceEqDiff, Nat.reduceAdd, Nat.reduceMul, Nat.reduceSub, Nat.reduceLT, Nat.reduceLeDiff, Nat.le_refl, Nat.zero_le, Nat.zero_add, Nat.add_zero, Nat.mul_one, splice_zero, Int.toNat_natCast, Int.natCast_nonneg, Int.reduceLE, Int.reduceLT, Int.reduceToNat, Int.reduceEq, Int.cast_ofNat_Int, ne_eq, not_true_eq_false, not_false_eq_true, imp_self, implies_true, true_implies, false_implies, and_self, List.length_map, List.length_drop]
  refine aIf_bool (fun h => ?_) (fun h => ?_)
  rotate_left
  · simp only [go_sem, r_block, reduceIte, Nat.reduceEqDiff, Nat.reduceAdd, Nat.reduceMul, Nat.reduceSub, Nat.reduceLT, Nat.reduceLeDiff, Nat.le_refl, Nat.zero_le, Nat.zero_add, Nat.add_zero, Nat.mul_one, splice_zero, Int.toNat_natCast, Int.natCast_nonneg, Int.reduceLE, Int.reduceLT, Int.reduceToNat, Int.reduceEq, Int.cast_ofNat_Int, ne_eq, not_true_eq_false, not_false_eq_true, imp_self, implies_true, true_implies, false_implies, and_self, List.length_map, List.length_drop]
    refine live_at.mono ?_
    rintro _ _ ⟨rfl, rfl⟩
    simp only [go_sem, r_block, reduceIte, Nat.reduceEqDiff, Nat.reduceAdd, Nat.reduceMul, Nat.reduceSub, Nat.reduceLT, Nat.reduceLeDiff, Nat.le_refl, Nat.zero_le, Nat.zero_add, Nat.add_zero, Nat.mul_one, splice_zero, Int.toNat_natCast, Int.natCast_nonneg, Int.reduceLE, Int.reduceLT, Int.reduceToNat, Int.reduceEq, Int.cast_ofNat_Int, ne_eq, not_true_eq_false, not_false_eq_true, imp_self, implies_true, true_implies, false_implies, and_self, List.length_map, List.length_drop]
    exact aRet_as (r := boo true) rfl rfl
  have hl := hb h
  simp only [go_sem, reduceIte, Nat.reduceEqDiff, Nat.reduceAdd, Nat.reduceMul, Nat.reduceSub, Nat.reduceLT, Nat.reduceLeDiff, Nat.le_refl, Nat.zero_le, Nat.zero_add, Nat.add_zero, Nat.mul_one, splice_zero, Int.toNat_natCast, Int.natCast_nonneg, Int.reduceLE, Int.reduceLT, Int.reduceToNat, Int.reduceEq, Int.cast_ofNat_Int, ne_eq, not_true_eq_false, not_false_eq_true, imp_self, implies_true, true_implies, false_implies, and_self, List.length_map, List.length_drop]
  refine new_at.mono ?_
  rintro _ _ ⟨p, hp, rfl, rfl⟩
  simp only [go_sem, reduceIte, Nat.reduceEqDiff, Nat.reduceAdd, Nat.reduceMul, Nat.reduceSub, Nat.reduceLT, Nat.reduceLeDiff, Nat.le_refl, Nat.zero_le, Nat.zero_add, Nat.add_zero, Nat.mul_one, splice_zero, Int.toNat_natCast, Int.natCast_nonneg, Int.reduceLE, Int.reduceLT, Int.reduceToNat, Int.reduceEq, Int.cast_ofNat_Int, ne_eq, not_true_eq_false, not_false_eq_true, imp_self, implies_true, true_implies, false_implies, and_self, List.length_map, List.length_drop]
  refine aMeet (fun fr σ => ∃ s : Ns, fr 3 = ptr p ∧ fr 4 = int s.last ∧ σ p = some s.O ∧ s.Ok ∧ s.Ps) ?_ ?_
  · simp only [go_sem, r_block, reduceIte, Nat.reduceEqDiff, Nat.reduceAdd, Nat.reduceMul, Nat.reduceSub, Nat.reduceLT, Nat.reduceLeDiff, Nat.le_refl, Nat.zero_le, Nat.zero_add, Nat.add_zero, Nat.mul_one, splice_zero, Int.toNat_natCast, Int.natCast_nonneg, Int.reduceLE, Int.reduceLT, Int.reduceToNat, Int.reduceEq, Int.cast_ofNat_Int, ne_eq, not_true_eq_false, not_false_eq_true, imp_self, implies_true, true_implies, false_implies, and_self, List.length_map, List.length_drop]
    refine ⟨fun m fr σ => ∃ (i : Nat) (s : Ns), m = l.length - i ∧ i ≤ l.length ∧ s.last ≤ i ∧ fr 0 = .sl 4 (l.map Ac.cs) ∧ fr 3 = ptr p ∧ fr 4 = int s.last ∧ fr 5 = int i ∧ σ p = some s.O ∧ s.Ok ∧ s.Ps, ⟨_, 0, ⟨[], 0⟩, rfl, by omega, by exact Nat.le_refl 0, rfl, rfl, rfl, rfl, set_same, ok0, fun m hm => by cases hm⟩, ?_⟩
    rintro m fr σ ⟨i, s, rfl, h1, h2, f0, f3, f4, f5, hs, ho, hp2⟩
    simp only [go_sem, f0, f3, f4, f5, reduceIte, Nat.reduceEqDiff, Nat.reduceAdd, Nat.reduceMul, Nat.reduceSub, Nat.reduceLT, Nat.reduceLeDiff, Nat.le_refl, Nat.zero_le, Nat.zero_add, Nat.add_zero, Nat.mul_one, splice_zero, Int.toNat_natCast, Int.natCast_nonneg, Int.reduceLE, Int.reduceLT, Int.reduceToNat, Int.reduceEq, Int.cast_ofNat_Int, ne_eq, not_true_eq_false, not_false_eq_true, imp_self, implies_true, true_implies, false_implies, and_self, List.length_map, List.length_drop]
    refine aIf_by (fun hlt => ?_) (fun hlt => ?_)
    · have hil : i < l.length := by omega
      have eg := acs_get hil
      have hla : s.last < 1000000000 := by omega
      simp only [go_sem, f0, f3, f4, f5, reduceIte, Nat.reduceEqDiff, Nat.reduceAdd, Nat.reduceMul, Nat.reduceSub, Nat.reduceLT, Nat.reduceLeDiff, Nat.le_refl, Nat.zero_le, Nat.zero_add, Nat.add_zero, Nat.mul_one, splice_zero, Int.toNat_natCast, Int.natCast_nonneg, Int.reduceLE, Int.reduceLT, Int.reduceToNat, Int.reduceEq, Int.cast_ofNat_Int, ne_eq, not_true_eq_false, not_false_eq_true, imp_self, implies_true, true_implies, false_implies, and_self, List.length_map, List.length_drop]
      refine aMeet (fun fr σ => ∃ s : Ns, s.last ≤ i + 1 ∧ fr 0 = .sl 4 (l.map Ac.cs) ∧ fr 3 = ptr p ∧ fr 4 = int s.last ∧ fr 5 = int i ∧ σ p = some s.O ∧ s.Ok ∧ s.Ps) ?_ ?_
      · rw [r_block]
        simp only [go_sem, f0, f3, f4, f5, eg, Ac.len, Ac.at0, reduceIte, Nat.reduceEqDiff, Nat.reduceAdd, Nat.reduceMul, Nat.reduceSub, Nat.reduceLT, Nat.reduceLeDiff, Nat.le_refl, Nat.zero_le, Nat.zero_add, Nat.add_zero, Nat.mul_one, splice_zero, Int.toNat_natCast, Int.natCast_nonneg, Int.reduceLE, Int.reduceLT, Int.reduceToNat, Int.reduceEq, Int.cast_ofNat_Int, ne_eq, not_true_eq_false, not_false_eq_true, imp_self, implies_true, true_implies, false_implies, and_self, List.length_map, List.length_drop]
        refine ⟨hlt, ?_⟩
        refine aMeet (fun fr σ => ∃ (s2 : Ns) (k : Int × Int), Gave s s2 k ∧ fr 0 = .sl 4 (l.map Ac.cs) ∧ fr 3 = ptr p ∧ fr 4 = int s.last ∧ fr 5 = int i ∧ fr 6 = int k.1 ∧ fr 7 = int k.2 ∧ σ p = some s2.O ∧ s2.Ok ∧ s2.Ps) ?_ ?_
        · simp only [go_sem, r_block, f0, f3, f4, f5, eg, Ac.len, Ac.at0, reduceIte, Nat.reduceEqDiff, Nat.reduceAdd, Nat.reduceMul, Nat.reduceSub, Nat.reduceLT, Nat.reduceLeDiff, Nat.le_refl, Nat.zero_le, Nat.zero_add, Nat.add_zero, Nat.mul_one, splice_zero, Int.toNat_natCast, Int.natCast_nonneg, Int.reduceLE, Int.reduceLT, Int.reduceToNat, Int.reduceEq, Int.cast_ofNat_Int, ne_eq, not_true_eq_false, not_false_eq_true, imp_self, implies_true, true_implies, false_implies, and_self, List.length_map, List.length_drop]
          refine aIf_by (fun k0 => ?_) (fun k0 => ?_)
          · simp only [go_sem, r_block, f0, f3, f4, f5, reduceIte, Nat.reduceEqDiff, Nat.reduceAdd, Nat.reduceMul, Nat.reduceSub, Nat.reduceLT, Nat.reduceLeDiff, Nat.le_refl, Nat.zero_le, Nat.zero_add, Nat.add_zero, Nat.mul_one, splice_zero, Int.toNat_natCast, Int.natCast_nonneg, Int.reduceLE, Int.reduceLT, Int.reduceToNat, Int.reduceEq, Int.cast_ofNat_Int, ne_eq, not_true_eq_false, not_false_eq_true, imp_self, implies_true, true_implies, false_implies, and_self, List.length_map, List.length_drop]
            refine aDraw_plan [.rd 0 false, .rd 1 false, .rd 2 false, .rd 3 false, .rd 4 false, .rd 5 true, .rd 6 false, .rd 7 false, .rd 8 false, .rd 9 false, .rd 10 true, .ef 11 [], .rd 12 false, .rd 13 false, .rd 14 false, .rd 15 false, .rd 16 false] (by kernel_rfl) (by kernel_rfl) (by kernel_rfl) ?_
            simp only [go_sem, r_block, f0, f3, f4, f5, eg, Ac.len, Ac.at1, Ac.at2, Ac.dr1, Ac.dr2, reduceIte, Nat.reduceEqDiff, Nat.reduceAdd, Nat.reduceMul, Nat.reduceSub, Nat.reduceLT, Nat.reduceLeDiff, Nat.le_refl, Nat.zero_le, Nat.zero_add, Nat.add_zero, Nat.mul_one, splice_zero, Int.toNat_natCast, Int.natCast_nonneg, Int.reduceLE, Int.reduceLT, Int.reduceToNat, Int.reduceEq, Int.cast_ofNat_Int, ne_eq, not_true_eq_false, not_false_eq_true, imp_self, implies_true, true_implies, false_implies, and_self, List.length_map, List.length_drop]
            refine ⟨hlt, hlt, (send_at hs ho l[i].to .sl).mono ?_⟩
            rintro _ _ ⟨rfl, rfl⟩
            simp only [go_sem, r_block, f0, f3, f4, f5, reduceIte, Nat.reduceEqDiff, Nat.reduceAdd, Nat.reduceMul, Nat.reduceSub, Nat.reduceLT, Nat.reduceLeDiff, Nat.le_refl, Nat.zero_le, Nat.zero_add, Nat.add_zero, Nat.mul_one, splice_zero, Int.toNat_natCast, Int.natCast_nonneg, Int.reduceLE, Int.reduceLT, Int.reduceToNat, Int.reduceEq, Int.cast_ofNat_Int, ne_eq, not_true_eq_false, not_false_eq_true, imp_self, implies_true, true_implies, false_implies, and_self, List.length_map, List.length_drop]
            exact ⟨_, _, send_gave s _ _, rfl, rfl, rfl, ho.send _ _ hla, hp2.send _ _⟩
          · simp only [go_sem, r_block, f0, f3, f4, f5, eg, Ac.len, Ac.at0, reduceIte, Nat.reduceEqDiff, Nat.reduceAdd, Nat.reduceMul, Nat.reduceSub, Nat.reduceLT, Nat.reduceLeDiff, Nat.le_refl, Nat.zero_le, Nat.zero_add, Nat.add_zero, Nat.mul_one, splice_zero, Int.toNat_natCast, Int.natCast_nonneg, Int.reduceLE, Int.reduceLT, Int.reduceToNat, Int.reduceEq, Int.cast_ofNat_Int, ne_eq, not_true_eq_false, not_false_eq_true, imp_self, implies_true, true_implies, false_implies, and_self, List.length_map, List.length_drop]
            refine aIf_by (fun k1 => ?_) (fun k1 => ?_)
            · simp only [go_sem, r_block, f0, f3, f4, f5, eg, Ac.len, Ac.at3, Ac.dr3, reduceIte, Nat.reduceEqDiff, Nat.reduceAdd, Nat.reduceMul, Nat.reduceSub, Nat.reduceLT, Nat.reduceLeDiff, Nat.le_refl, Nat.zero_le, Nat.zero_add, Nat.add_zero, Nat.mul_one, splice_zero, Int.toNat_natCast, Int.natCast_nonneg, Int.reduceLE, Int.reduceLT, Int.reduceToNat, Int.reduceEq, Int.cast_ofNat_Int, ne_eq, not_true_eq_false, not_false_eq_true, imp_self, implies_true, true_implies, false_implies, and_self, List.length_map, List.length_drop]
              refine ⟨hlt, (take_at hs ho _).mono ?_⟩
              rintro _ _ ⟨rfl, rfl⟩
              simp only [go_sem, r_block, f0, f3, f4, f5, reduceIte, Nat.reduceEqDiff, Nat.reduceAdd, Nat.reduceMul, Nat.reduceSub, Nat.reduceLT, Nat.reduceLeDiff, Nat.le_refl, Nat.zero_le, Nat.zero_add, Nat.add_zero, Nat.mul_one, splice_zero, Int.toNat_natCast, Int.natCast_nonneg, Int.reduceLE, Int.reduceLT, Int.reduceToNat, Int.reduceEq, Int.cast_ofNat_Int, ne_eq, not_true_eq_false, not_false_eq_true, imp_self, implies_true, true_implies, false_implies, and_self, List.length_map, List.length_drop]
              exact ⟨(s.take l[i].n).2, by rw [take_last]; omega, by rw [take_last], rfl, ho.take _, hp2.take _⟩
            · simp only [go_sem, r_block, f0, f3, f4, f5, eg, Ac.len, Ac.at0, reduceIte, Nat.reduceEqDiff, Nat.reduceAdd, Nat.reduceMul, Nat.reduceSub, Nat.reduceLT, Nat.reduceLeDiff, Nat.le_refl, Nat.zero_le, Nat.zero_add, Nat.add_zero, Nat.mul_one, splice_zero, Int.toNat_natCast, Int.natCast_nonneg, Int.reduceLE, Int.reduceLT, Int.reduceToNat, Int.reduceEq, Int.cast_ofNat_Int, ne_eq, not_true_eq_false, not_false_eq_true, imp_self, implies_true, true_implies, false_implies, and_self, List.length_map, List.length_drop]
              refine aIf_by (fun k2 => ?_) (fun k2 => ?_)
              · simp only [go_sem, r_block, f0, f3, f4, f5, eg, Ac.len, Ac.at3, Ac.dr3, reduceIte, Nat.reduceEqDiff, Nat.reduceAdd, Nat.reduceMul, Nat.reduceSub, Nat.reduceLT, Nat.reduceLeDiff, Nat.le_refl, Nat.zero_le, Nat.zero_add, Nat.add_zero, Nat.mul_one, splice_zero, Int.toNat_natCast, Int.natCast_nonneg, Int.reduceLE, Int.reduceLT, Int.reduceToNat, Int.reduceEq, Int.cast_ofNat_Int, ne_eq, not_true_eq_false, not_false_eq_true, imp_self, implies_true, true_implies, false_implies, and_self, List.length_map, List.length_drop]
                refine ⟨hlt, (drop_at hs ho _).mono ?_⟩
                rintro _ _ ⟨rfl, rfl⟩
                simp only [go_sem, r_block, f0, f3, f4, f5, reduceIte, Nat.reduceEqDiff, Nat.reduceAdd, Nat.reduceMul, Nat.reduceSub, Nat.reduceLT, Nat.reduceLeDiff, Nat.le_refl, Nat.zero_le, Nat.zero_add, Nat.add_zero, Nat.mul_one, splice_zero, Int.toNat_natCast, Int.natCast_nonneg, Int.reduceLE, Int.reduceLT, Int.reduceToNat, Int.reduceEq, Int.cast_ofNat_Int, ne_eq, not_true_eq_false, not_false_eq_true, imp_self, implies_true, true_implies, false_implies, and_self, List.length_map, List.length_drop]
                exact ⟨(s.take l[i].n).2, by rw [take_last]; omega, by rw [take_last], rfl, ho.take _, hp2.take _⟩
              · simp only [go_sem, r_block, f0, f3, f4, f5, eg, Ac.len, Ac.at3, Ac.dr3, reduceIte, Nat.reduceEqDiff, Nat.reduceAdd, Nat.reduceMul, Nat.reduceSub, Nat.reduceLT, Nat.reduceLeDiff, Nat.le_refl, Nat.zero_le, Nat.zero_add, Nat.add_zero, Nat.mul_one, splice_zero, Int.toNat_natCast, Int.natCast_nonneg, Int.reduceLE, Int.reduceLT, Int.reduceToNat, Int.reduceEq, Int.cast_ofNat_Int, ne_eq, not_true_eq_false, not_false_eq_true, imp_self, implies_true, true_implies, false_implies, and_self, List.length_map, List.length_drop]
                refine ⟨hlt, (double_at hs ho _).mono ?_⟩
                rintro _ _ ⟨rfl, rfl⟩
                simp only [go_sem, r_block, f0, f3, f4, f5, reduceIte, Nat.reduceEqDiff, Nat.reduceAdd, Nat.reduceMul, Nat.reduceSub, Nat.reduceLT, Nat.reduceLeDiff, Nat.le_refl, Nat.zero_le, Nat.zero_add, Nat.add_zero, Nat.mul_one, splice_zero, Int.toNat_natCast, Int.natCast_nonneg, Int.reduceLE, Int.reduceLT, Int.reduceToNat, Int.reduceEq, Int.cast_ofNat_Int, ne_eq, not_true_eq_false, not_false_eq_true, imp_self, implies_true, true_implies, false_implies, and_self, List.length_map, List.length_drop]
                exact ⟨_, _, double_gave s _, rfl, rfl, rfl, ho.double _ hla, hp2.double _⟩
        · rintro fr σ ⟨s2, k, hg, f0, f3, f4, f5, f6, f7, hs2, ho2, hp2⟩
          rcases hg with ⟨rfl, hg⟩ | ⟨hk1, hk2, hg⟩
          · have e1 : IntKind.i64.wrap ((s.last : Int) + 1) = (s.last : Int) + 1 := wrap64 (by omega)
            simp only [go_sem, r_block, f0, f3, f4, f5, f6, f7, e1, decide_true, reduceIte, Nat.reduceEqDiff, Nat.reduceAdd, Nat.reduceMul, Nat.reduceSub, Nat.reduceLT, Nat.reduceLeDiff, Nat.le_refl, Nat.zero_le, Nat.zero_add, Nat.add_zero, Nat.mul_one, splice_zero, Int.toNat_natCast, Int.natCast_nonneg, Int.reduceLE, Int.reduceLT, Int.reduceToNat, Int.reduceEq, Int.cast_ofNat_Int, ne_eq, not_true_eq_false, not_false_eq_true, imp_self, implies_true, true_implies, false_implies, and_self, List.length_map, List.length_drop]
            refine (last_at hs2).mono ?_
            rintro _ _ ⟨rfl, rfl⟩
            have e2 : (s2.last : Int) = (s.last : Int) + 1 := by omega
            simp only [go_sem, r_block, f0, f3, f4, f5, f6, f7, e2, decide_true, reduceIte, Nat.reduceEqDiff, Nat.reduceAdd, Nat.reduceMul, Nat.reduceSub, Nat.reduceLT, Nat.reduceLeDiff, Nat.le_refl, Nat.zero_le, Nat.zero_add, Nat.add_zero, Nat.mul_one, splice_zero, Int.toNat_natCast, Int.natCast_nonneg, Int.reduceLE, Int.reduceLT, Int.reduceToNat, Int.reduceEq, Int.cast_ofNat_Int, ne_eq, not_true_eq_false, not_false_eq_true, imp_self, implies_true, true_implies, false_implies, and_self, List.length_map, List.length_drop]
            exact ⟨s2, by omega, by rw [e2], hs2, ho2, hp2⟩
          · have e1 : decide (k.2 = 0) = false := decide_eq_false hk2
            simp only [go_sem, r_block, f0, f3, f4, f5, f6, f7, e1, hk1, decide_true, reduceIte, Nat.reduceEqDiff, Nat.reduceAdd, Nat.reduceMul, Nat.reduceSub, Nat.reduceLT, Nat.reduceLeDiff, Nat.le_refl, Nat.zero_le, Nat.zero_add, Nat.add_zero, Nat.mul_one, splice_zero, Int.toNat_natCast, Int.natCast_nonneg, Int.reduceLE, Int.reduceLT, Int.reduceToNat, Int.reduceEq, Int.cast_ofNat_Int, ne_eq, not_true_eq_false, not_false_eq_true, imp_self, implies_true, true_implies, false_implies, and_self, List.length_map, List.length_drop]
            refine (last_at hs2).mono ?_
            rintro _ _ ⟨rfl, rfl⟩
            rw [hg]
            simp only [go_sem, r_block, f0, f3, f4, f5, f6, f7, decide_true, reduceIte, Nat.reduceEqDiff, Nat.reduceAdd, Nat.reduceMul, Nat.reduceSub, Nat.reduceLT, Nat.reduceLeDiff, Nat.le_refl, Nat.zero_le, Nat.zero_add, Nat.add_zero, Nat.mul_one, splice_zero, Int.toNat_natCast, Int.natCast_nonneg, Int.reduceLE, Int.reduceLT, Int.reduceToNat, Int.reduceEq, Int.cast_ofNat_Int, ne_eq, not_true_eq_false, not_false_eq_true, imp_self, implies_true, true_implies, false_implies, and_self, List.length_map, List.length_drop]
            exact ⟨s2, by omega, by rw [hg], hs2, ho2, hp2⟩
      · rintro fr σ ⟨s2, hl2, f0, f3, f4, f5, hs2, ho2, hp2⟩
        simp only [go_sem, r_block, f0, f3, f4, f5, reduceIte, Nat.reduceEqDiff, Nat.reduceAdd, Nat.reduceMul, Nat.reduceSub, Nat.reduceLT, Nat.reduceLeDiff, Nat.le_refl, Nat.zero_le, Nat.zero_add, Nat.add_zero, Nat.mul_one, splice_zero, Int.toNat_natCast, Int.natCast_nonneg, Int.reduceLE, Int.reduceLT, Int.reduceToNat, Int.reduceEq, Int.cast_ofNat_Int, ne_eq, not_true_eq_false, not_false_eq_true, imp_self, implies_true, true_implies, false_implies, and_self, List.length_map, List.length_drop]
        rw [next64 (by omega)]
        exact ⟨l.length - (i + 1), by omega, i + 1, s2, rfl, by omega, hl2, rfl, rfl, hs2, ho2, hp2⟩
    · simp only [go_sem, r_block, f0, f3, f4, f5, reduceIte, Nat.reduceEqDiff, Nat.reduceAdd, Nat.reduceMul, Nat.reduceSub, Nat.reduceLT, Nat.reduceLeDiff, Nat.le_refl, Nat.zero_le, Nat.zero_add, Nat.add_zero, Nat.mul_one, splice_zero, Int.toNat_natCast, Int.natCast_nonneg, Int.reduceLE, Int.reduceLT, Int.reduceToNat, Int.reduceEq, Int.cast_ofNat_Int, ne_eq, not_true_eq_false, not_false_eq_true, imp_self, implies_true, true_implies, false_implies, and_self, List.length_map, List.length_drop]
      exact ⟨s, rfl, hs, ho, hp2⟩
  · rintro fr σ ⟨s, f3, f4, hs, ho, hp2⟩
    simp only [go_sem, f3, f4, reduceIte, Nat.reduceEqDiff, Nat.reduceAdd, Nat.reduceMul, Nat.reduceSub, Nat.reduceLT, Nat.reduceLeDiff, Nat.le_refl, Nat.zero_le, Nat.zero_add, Nat.add_zero, Nat.mul_one, splice_zero, Int.toNat_natCast, Int.natCast_nonneg, Int.reduceLE, Int.reduceLT, Int.reduceToNat, Int.reduceEq, Int.cast_ofNat_Int, ne_eq, not_true_eq_false, not_false_eq_true, imp_self, implies_true, true_implies, false_implies, and_self, List.length_map, List.length_drop]
    refine (tell_at hs ho (-1)).mono ?_
    rintro _ σ ⟨rfl, rfl⟩
    rw [upto_all]
    simp only [go_sem, reduceIte, Nat.reduceEqDiff, Nat.reduceAdd, Nat.reduceMul, Nat.reduceSub, Nat.reduceLT, Nat.reduceLeDiff, Nat.le_refl, Nat.zero_le, Nat.zero_add, Nat.add_zero, Nat.mul_one, splice_zero, Int.toNat_natCast, Int.natCast_nonneg, Int.reduceLE, Int.reduceLT, Int.reduceToNat, Int.reduceEq, Int.cast_ofNat_Int, ne_eq, not_true_eq_false, not_false_eq_true, imp_self, implies_true, true_implies, false_implies, and_self, List.length_map, List.length_drop]
    refine aMeet (fun fr σ => True) ?_ ?_
    · simp only [go_sem, r_block, reduceIte, Nat.reduceEqDiff, Nat.reduceAdd, Nat.reduceMul, Nat.reduceSub, Nat.reduceLT, Nat.reduceLeDiff, Nat.le_refl, Nat.zero_le, Nat.zero_add, Nat.add_zero, Nat.mul_one, splice_zero, Int.toNat_natCast, Int.natCast_nonneg, Int.reduceLE, Int.reduceLT, Int.reduceToNat, Int.reduceEq, Int.cast_ofNat_Int, ne_eq, not_true_eq_false, not_false_eq_true, imp_self, implies_true, true_implies, false_implies, and_self, List.length_map, List.length_drop]
      refine ⟨fun m fr σ => ∃ i : Nat, m = s.l.length - i ∧ i ≤ s.l.length ∧ fr 4 = int s.last ∧ fr 8 = .sl 3 (s.l.map Msg.cs) ∧ fr 9 = int i, ⟨_, 0, rfl, by omega, f4, rfl, rfl⟩, ?_⟩
      rintro m fr σ ⟨i, rfl, h1, f4, f8, f9⟩
      have hln := ho.ln
      simp only [go_sem, f4, f8, f9, reduceIte, Nat.reduceEqDiff, Nat.reduceAdd, Nat.reduceMul, Nat.reduceSub, Nat.reduceLT, Nat.reduceLeDiff, Nat.le_refl, Nat.zero_le, Nat.zero_add, Nat.add_zero, Nat.mul_one, splice_zero, Int.toNat_natCast, Int.natCast_nonneg, Int.reduceLE, Int.reduceLT, Int.reduceToNat, Int.reduceEq, Int.cast_ofNat_Int, ne_eq, not_true_eq_false, not_false_eq_true, imp_self, implies_true, true_implies, false_implies, and_self, List.length_map, List.length_drop]
      refine aIf_by (fun hlt => ?_) (fun hlt => ?_)
      · have hil : i < s.l.length := by omega
        have eg := msgs_get hil
        have hm := List.getElem_mem hil
        have e1 : decide (s.l[i].num < 1) = false := decide_eq_false (by have := hp2 _ hm; omega)
        have e2 : decide ((s.last : Int) < s.l[i].num) = false := decide_eq_false (by have := ho.le _ hm; omega)
        simp only [go_sem, r_block, f4, f8, f9, reduceIte, Nat.reduceEqDiff, Nat.reduceAdd, Nat.reduceMul, Nat.reduceSub, Nat.reduceLT, Nat.reduceLeDiff, Nat.le_refl, Nat.zero_le, Nat.zero_add, Nat.add_zero, Nat.mul_one, splice_zero, Int.toNat_natCast, Int.natCast_nonneg, Int.reduceLE, Int.reduceLT, Int.reduceToNat, Int.reduceEq, Int.cast_ofNat_Int, ne_eq, not_true_eq_false, not_false_eq_true, imp_self, implies_true, true_implies, false_implies, and_self, List.length_map, List.length_drop]
        refine aDraw_plan [.rd 0 false, .rd 1 false, .rd 2 false, .rd 3 false, .rd 4 true, .rd 5 false, .rd 6 false, .rd 7 false, .rd 8 false, .rd 9 false, .rd 10 false, .rd 11 true, .rd 12 false, .rd 13 false, .rd 14 false, .rd 15 false, .rd 16 false, .rd 17 false, .rd 18 false, .rd 19 false, .rd 20 false, .rd 21 false, .rd 22 false, .rd 23 true, .rd 24 false, .rd 25 false, .rd 26 false, .rd 27 false, .rd 28 false, .rd 29 true, .rd 30 false, .rd 31 false, .rd 32 false] (by kernel_rfl) (by kernel_rfl) (by kernel_rfl) ?_
        simp only [go_sem, r_block, f4, f8, f9, eg, Msg.len, Msg.at0, e1, e2, reduceIte, Nat.reduceEqDiff, Nat.reduceAdd, Nat.reduceMul, Nat.reduceSub, Nat.reduceLT, Nat.reduceLeDiff, Nat.le_refl, Nat.zero_le, Nat.zero_add, Nat.add_zero, Nat.mul_one, splice_zero, Int.toNat_natCast, Int.natCast_nonneg, Int.reduceLE, Int.reduceLT, Int.reduceToNat, Int.reduceEq, Int.cast_ofNat_Int, ne_eq, not_true_eq_false, not_false_eq_true, imp_self, implies_true, true_implies, false_implies, and_self, List.length_map, List.length_drop]
        by_cases h0 : i = 0
        · subst h0
          refine ⟨hlt, hlt, aIf_by (fun h => absurd h (by decide)) (fun _ => ?_)⟩
          simp only [go_sem, r_block, f4, f8, f9, reduceIte, Nat.reduceEqDiff, Nat.reduceAdd, Nat.reduceMul, Nat.reduceSub, Nat.reduceLT, Nat.reduceLeDiff, Nat.le_refl, Nat.zero_le, Nat.zero_add, Nat.add_zero, Nat.mul_one, splice_zero, Int.toNat_natCast, Int.natCast_nonneg, Int.reduceLE, Int.reduceLT, Int.reduceToNat, Int.reduceEq, Int.cast_ofNat_Int, ne_eq, not_true_eq_false, not_false_eq_true, imp_self, implies_true, true_implies, false_implies, and_self, List.length_map, List.length_drop]
          exact ⟨s.l.length - 1, by omega, 1, rfl, by omega, rfl⟩
        · have e3 : decide (0 < (i : Int)) = true := decide_eq_true (by omega)
          simp only [go_sem, r_block, f4, f8, f9, eg, Msg.len, Msg.at0, e1, e2, e3, reduceIte, Nat.reduceEqDiff, Nat.reduceAdd, Nat.reduceMul, Nat.reduceSub, Nat.reduceLT, Nat.reduceLeDiff, Nat.le_refl, Nat.zero_le, Nat.zero_add, Nat.add_zero, Nat.mul_one, splice_zero, Int.toNat_natCast, Int.natCast_nonneg, Int.reduceLE, Int.reduceLT, Int.reduceToNat, Int.reduceEq, Int.cast_ofNat_Int, ne_eq, not_true_eq_false, not_false_eq_true, imp_self, implies_true, true_implies, false_implies, and_self, List.length_map, List.length_drop]
          obtain ⟨j, rfl⟩ : ∃ j, i = j + 1 := ⟨i - 1, by omega⟩
          have e4 : IntKind.i64.wrap (((j + 1 : Nat) : Int) - 1) = (j : Int) := by rw [wrap64 (by omega)]; omega
          have hjl : j < s.l.length := by omega
          have eg2 := msgs_get hjl
          have e5 : decide (s.l[j + 1].num ≤ s.l[j].num) = false := decide_eq_false (by have := ho.rise j (j + 1) (by omega) hil; omega)
          rw [e4]
          simp only [go_sem, r_block, eg2, Msg.len, Msg.at0, e5, reduceIte, Nat.reduceEqDiff, Nat.reduceAdd, Nat.reduceMul, Nat.reduceSub, Nat.reduceLT, Nat.reduceLeDiff, Nat.le_refl, Nat.zero_le, Nat.zero_add, Nat.add_zero, Nat.mul_one, splice_zero, Int.toNat_natCast, Int.natCast_nonneg, Int.reduceLE, Int.reduceLT, Int.reduceToNat, Int.reduceEq, Int.cast_ofNat_Int, ne_eq, not_true_eq_false, not_false_eq_true, imp_self, implies_true, true_implies, false_implies, and_self, List.length_map, List.length_drop]
          refine ⟨hlt, hlt, hlt, by omega, ?_⟩
          simp only [go_sem, r_block, f4, f8, f9, reduceIte, Nat.reduceEqDiff, Nat.reduceAdd, Nat.reduceMul, Nat.reduceSub, Nat.reduceLT, Nat.reduceLeDiff, Nat.le_refl, Nat.zero_le, Nat.zero_add, Nat.add_zero, Nat.mul_one, splice_zero, Int.toNat_natCast, Int.natCast_nonneg, Int.reduceLE, Int.reduceLT, Int.reduceToNat, Int.reduceEq, Int.cast_ofNat_Int, ne_eq, not_true_eq_false, not_false_eq_true, imp_self, implies_true, true_implies, false_implies, and_self, List.length_map, List.length_drop]
          rw [next64 (by omega)]
          exact ⟨s.l.length - (j + 1 + 1), by omega, j + 1 + 1, rfl, by omega, rfl⟩
      · simp only [go_sem, r_block, f4, f8, f9, reduceIte, Nat.reduceEqDiff, Nat.reduceAdd, Nat.reduceMul, Nat.reduceSub, Nat.reduceLT, Nat.reduceLeDiff, Nat.le_refl, Nat.zero_le, Nat.zero_add, Nat.add_zero, Nat.mul_one, splice_zero, Int.toNat_natCast, Int.natCast_nonneg, Int.reduceLE, Int.reduceLT, Int.reduceToNat, Int.reduceEq, Int.cast_ofNat_Int, ne_eq, not_true_eq_false, not_false_eq_true, imp_self, implies_true, true_implies, false_implies, and_self, List.length_map, List.length_drop]
    rintro fr σ -
    simp only [go_sem, reduceIte, Nat.reduceEqDiff, Nat.reduceAdd, Nat.reduceMul, Nat.reduceSub, Nat.reduceLT, Nat.reduceLeDiff, Nat.le_refl, Nat.zero_le, Nat.zero_add, Nat.add_zero, Nat.mul_one, splice_zero, Int.toNat_natCast, Int.natCast_nonneg, Int.reduceLE, Int.reduceLT, Int.reduceToNat, Int.reduceEq, Int.cast_ofNat_Int, ne_eq, not_true_eq_false, not_false_eq_true, imp_self, implies_true, true_implies, false_implies, and_self, List.length_map, List.length_drop]
    refine live_at.mono ?_
    rintro _ _ ⟨rfl, rfl⟩
    simp only [go_sem, reduceIte, Nat.reduceEqDiff, Nat.reduceAdd, Nat.reduceMul, Nat.reduceSub, Nat.reduceLT, Nat.reduceLeDiff, Nat.le_refl, Nat.zero_le, Nat.zero_add, Nat.add_zero, Nat.mul_one, splice_zero, Int.toNat_natCast, Int.natCast_nonneg, Int.reduceLE, Int.reduceLT, Int.reduceToNat, Int.reduceEq, Int.cast_ofNat_Int, ne_eq, not_true_eq_false, not_false_eq_true, imp_self, implies_true, true_implies, false_implies, and_self, List.length_map, List.length_drop]
    exact aRet_as (r := boo true) rfl rfl
end
end Go.Proofs.Ytebmjajdkhhhbaa
