/-
  Messages on their way (package net): acts; are they few?
  Conditions: none.
-/
import Derived.Test.YtebmjajdkhhhbaaNg
set_option linter.unusedVariables false
set_option linter.unusedSimpArgs false
namespace Go.Proofs.Ytebmjajdkhhhbaa
open Go Go.Av

/-- What is done with a net. -/
structure Ac where
  k : Int
  to : ByteArray
  b : Byt
  n : Int
def Ac.cs (a : Ac) : List AV := [int a.k, str a.to, .sl 1 (byC a.b), int a.n]
theorem Ac.len (m : Ac) : m.cs.length = 4 := rfl
theorem Ac.one (m : Ac) : m.cs.all AV.one = true := rfl
theorem Ac.take (m : Ac) : m.cs.take 4 = m.cs := rfl
theorem Ac.at0 (m : Ac) : m.cs.getD 0 (.v undef) = int m.k := rfl
theorem Ac.at1 (m : Ac) : m.cs.getD 1 (.v undef) = str m.to := rfl
theorem Ac.at2 (m : Ac) : m.cs.getD 2 (.v undef) = .sl 1 (byC m.b) := rfl
theorem Ac.at3 (m : Ac) : m.cs.getD 3 (.v undef) = int m.n := rfl
theorem Ac.dr1 (m : Ac) : (m.cs.drop 1).getD 0 (.v undef) = str m.to := rfl
theorem Ac.dr2 (m : Ac) : (m.cs.drop 2).getD 0 (.v undef) = .sl 1 (byC m.b) := rfl
theorem Ac.dr3 (m : Ac) : (m.cs.drop 3).getD 0 (.v undef) = int m.n := rfl
theorem acs_get {l : List Ac} {i : Nat} (h : i < l.length) : (l.map Ac.cs).getD i [] = l[i].cs := by simp [List.getD_eq_getElem?_getD, h]
def Ac.Ok (a : Ac) : Prop := a.to.size ≤ 140737488351232 ∧ a.b.length ≤ 140737488351232

section
variable {σ σ' : St} {p : Nat} {s : Ns}
set_option maxRecDepth 100000
set_option maxHeartbeats 1000000

theorem light_at (l : List Ac) (hx : ∀ a ∈ l, a.Ok) : AT Try.prog 16 [.sl 4 (l.map Ac.cs)] σ fun v σ' => (∃ b, v = boo b ∧ (b = true → l.length ≤ 200)) ∧ σ' = σ := by
  refine AT.of_body Try.func16 rfl (by decide) (by kernel_rfl) (by kernel_rfl) (Nat.le_of_ble_eq_true rfl) ?_
  simp only [go_sem, r_block, reduceIte, Nat.reduceEqDiff, Nat.reduceAdd, Nat.reduceMul, Nat.reduceSub, Nat.reduceLT, Nat.reduceLeDiff, Nat.le_refl, Nat.zero_le, Nat.zero_add, Nat.add_zero, Nat.mul_one, splice_zero, Int.toNat_natCast, Int.natCast_nonneg, Int.reduceLE, Int.reduceLT, Int.reduceToNat, Int.reduceEq, Int.cast_ofNat_Int, ne_eq, not_true_eq_false, not_false_eq_true, imp_self, implies_true, true_implies, false_implies, and_self, List.length_map, List.length_drop]
  refine ⟨fun m fr σ' => ∃ i n : Nat, m = 201 - i ∧ i ≤ l.length ∧ i ≤ n ∧ n ≤ 200 ∧ σ' = σ ∧ fr 0 = .sl 4 (l.map Ac.cs) ∧ fr 3 = int n ∧ fr 4 = int i, ⟨_, 0, 0, rfl, by omega, by omega, by omega, rfl, rfl, rfl, rfl⟩, ?_⟩
  rintro m fr σ ⟨i, n, rfl, h1, h2, h3, rfl, f0, f3, f4⟩
  simp only [go_sem, f0, f3, f4, reduceIte, Nat.reduceEqDiff, Nat.reduceAdd, Nat.reduceMul, Nat.reduceSub, Nat.reduceLT, Nat.reduceLeDiff, Nat.le_refl, Nat.zero_le, Nat.zero_add, Nat.add_zero, Nat.mul_one, splice_zero, Int.toNat_natCast, Int.natCast_nonneg, Int.reduceLE, Int.reduceLT, Int.reduceToNat, Int.reduceEq, Int.cast_ofNat_Int, ne_eq, not_true_eq_false, not_false_eq_true, imp_self, implies_true, true_implies, false_implies, and_self, List.length_map, List.length_drop]
  refine aIf_by (fun hlt => ?_) (fun hlt => ?_)
  · have hil : i < l.length := by omega
    have eg := acs_get hil
    have ho := hx _ (List.getElem_mem hil)
    simp only [go_sem, r_block, f0, f3, f4, reduceIte, Nat.reduceEqDiff, Nat.reduceAdd, Nat.reduceMul, Nat.reduceSub, Nat.reduceLT, Nat.reduceLeDiff, Nat.le_refl, Nat.zero_le, Nat.zero_add, Nat.add_zero, Nat.mul_one, splice_zero, Int.toNat_natCast, Int.natCast_nonneg, Int.reduceLE, Int.reduceLT, Int.reduceToNat, Int.reduceEq, Int.cast_ofNat_Int, ne_eq, not_true_eq_false, not_false_eq_true, imp_self, implies_true, true_implies, false_implies, and_self, List.length_map, List.length_drop]
    refine aDraw_plan [.rd 0 false, .rd 1 false, .rd 2 false, .rd 3 false, .rd 4 false, .rd 5 true, .rd 6 false, .rd 7 false, .rd 8 false, .rd 9 false, .rd 10 false, .rd 11 true, .rd 12 false, .rd 13 false, .rd 14 false, .rd 15 false, .rd 16 false, .rd 17 false] (by kernel_rfl) (by kernel_rfl) (by kernel_rfl) ?_
    simp only [go_sem, r_block, f0, f3, f4, eg, Ac.len, Ac.dr1, Ac.dr2, reduceIte, Nat.reduceEqDiff, Nat.reduceAdd, Nat.reduceMul, Nat.reduceSub, Nat.reduceLT, Nat.reduceLeDiff, Nat.le_refl, Nat.zero_le, Nat.zero_add, Nat.add_zero, Nat.mul_one, splice_zero, Int.toNat_natCast, Int.natCast_nonneg, Int.reduceLE, Int.reduceLT, Int.reduceToNat, Int.reduceEq, Int.cast_ofNat_Int, ne_eq, not_true_eq_false, not_false_eq_true, imp_self, implies_true, true_implies, false_implies, and_self, List.length_map, List.length_drop]
    have e1 : IntKind.i64.wrap ((l[i].to.size : Int) + ((byC l[i].b).length : Int)) = ((l[i].to.size + l[i].b.length : Nat) : Int) := by
      rw [byC_len, wrap64 (by have := ho.1; have := ho.2; omega)]; omega
    have e2 : ∀ x : Nat, ((x : Int)).tdiv 40 = ((x / 40 : Nat) : Int) := fun x => by
      rw [Int.tdiv_eq_ediv_of_nonneg (by omega)]; rfl
    have hb : (l[i].to.size + l[i].b.length) / 40 ≤ 140737488351232 := by have := ho.1; have := ho.2; omega
    obtain ⟨q, hq⟩ : ∃ q, q = (l[i].to.size + l[i].b.length) / 40 := ⟨_, rfl⟩
    rw [e1, e2, ← hq, wrap64 (x := (q : Int)) (by omega), wrap64 (x := 1 + (q : Int)) (by omega), wrap64 (x := (n : Int) + (1 + q)) (by omega)]
    refine ⟨by omega, by omega, ?_⟩
    refine aIf_by (fun hg => ?_) (fun hg => ?_)
    · simp only [go_sem, r_block, reduceIte, Nat.reduceEqDiff, Nat.reduceAdd, Nat.reduceMul, Nat.reduceSub, Nat.reduceLT, Nat.reduceLeDiff, Nat.le_refl, Nat.zero_le, Nat.zero_add, Nat.add_zero, Nat.mul_one, splice_zero, Int.toNat_natCast, Int.natCast_nonneg, Int.reduceLE, Int.reduceLT, Int.reduceToNat, Int.reduceEq, Int.cast_ofNat_Int, ne_eq, not_true_eq_false, not_false_eq_true, imp_self, implies_true, true_implies, false_implies, and_self, List.length_map, List.length_drop]
      exact aRet_as (r := boo false) rfl ⟨⟨false, rfl, fun h => by cases h⟩, rfl⟩
    · simp only [go_sem, r_block, f0, f3, f4, reduceIte, Nat.reduceEqDiff, Nat.reduceAdd, Nat.reduceMul, Nat.reduceSub, Nat.reduceLT, Nat.reduceLeDiff, Nat.le_refl, Nat.zero_le, Nat.zero_add, Nat.add_zero, Nat.mul_one, splice_zero, Int.toNat_natCast, Int.natCast_nonneg, Int.reduceLE, Int.reduceLT, Int.reduceToNat, Int.reduceEq, Int.cast_ofNat_Int, ne_eq, not_true_eq_false, not_false_eq_true, imp_self, implies_true, true_implies, false_implies, and_self, List.length_map, List.length_drop]
      rw [next64 (by omega)]
      exact ⟨201 - (i + 1), by omega, i + 1, n + (1 + q), rfl, by omega, by omega, by omega, rfl, rfl⟩
  · simp only [go_sem, r_block, f0, f3, f4, reduceIte, Nat.reduceEqDiff, Nat.reduceAdd, Nat.reduceMul, Nat.reduceSub, Nat.reduceLT, Nat.reduceLeDiff, Nat.le_refl, Nat.zero_le, Nat.zero_add, Nat.add_zero, Nat.mul_one, splice_zero, Int.toNat_natCast, Int.natCast_nonneg, Int.reduceLE, Int.reduceLT, Int.reduceToNat, Int.reduceEq, Int.cast_ofNat_Int, ne_eq, not_true_eq_false, not_false_eq_true, imp_self, implies_true, true_implies, false_implies, and_self, List.length_map, List.length_drop]
    exact aRet_as (r := boo true) rfl ⟨⟨true, rfl, fun _ => by omega⟩, rfl⟩

end
theorem acs_of {n : Nat} : ∀ (es : List (List AV)), (∀ x ∈ es, Ty Try.prog (n + 4) 40 x) → ∃ l : List Ac, es = l.map Ac.cs ∧ ∀ a ∈ l, a.Ok
  | [], _ => ⟨[], rfl, fun a ha => by cases ha⟩
  | x :: es, h => by
    obtain ⟨l, rfl, hl⟩ := acs_of es fun y hy => h y (by simp [hy])
    have hx := ty_st Try.underlying40 (h x (by simp))
    obtain ⟨x1, y1, rfl, h1, x2, y2, rfl, h2, x3, y3, rfl, h3, x4, y4, rfl, h4, rfl⟩ := hx
    obtain ⟨k, rfl, _⟩ := ty_int Try.underlying3 h1
    obtain ⟨to, rfl, ht⟩ := ty_str Try.underlying9 h2
    obtain ⟨es, rfl, hlen, he⟩ := ty_sl Try.underlying22 h3
    obtain ⟨b, rfl⟩ := by_of es he
    obtain ⟨m, rfl, _⟩ := ty_int Try.underlying3 h4
    have e1 : Try.prog.cellsOf 5 = 1 := by kernel_rfl
    have e2 : Try.prog.bytesOf 5 = 1 := by kernel_rfl
    rw [e2, byC_len] at hlen
    refine ⟨⟨k, to, b, m⟩ :: l, by rw [e1]; rfl, fun a ha => ?_⟩
    rcases List.mem_cons.1 ha with rfl | ha
    · exact ⟨ht, by show b.length ≤ _; omega⟩
    · exact hl a ha
end Go.Proofs.Ytebmjajdkhhhbaa
