/-
  NetStops: the walk.
  Conditions: none.
-/
import Derived.Test.YtebmjajdkhhhbaaNh
set_option linter.unusedVariables false
set_option linter.unusedSimpArgs false
namespace Go.Proofs.Ytebmjajdkhhhbaa
open Go Go.Av

def ls (l : List Byt) : List (List AV) := l.map fun b => [.sl 1 (byC b)]
theorem ls_get {l : List Byt} {i : Nat} (h : i < l.length) : (ls l).getD i [] = [.sl 1 (byC l[i])] := by simp [ls, List.getD_eq_getElem?_getD, h]
theorem ls_len (l : List Byt) : (ls l).length = l.length := by simp [ls]
/-- The first i, sent. -/
def sent (l : List Byt) (i : Nat) : List Msg := (List.range i).map fun (k : Nat) => ⟨(k : Int) + 1, a97, l.getD k []⟩
theorem sent_len (l : List Byt) (i : Nat) : (sent l i).length = i := by simp [sent]
theorem sent_succ (l : List Byt) (i : Nat) : sent l (i + 1) = sent l i ++ [⟨(i : Int) + 1, a97, l.getD i []⟩] := by simp [sent, List.range_succ]
theorem sent_get (l : List Byt) {i k : Nat} (h : k < (sent l i).length) : (sent l i)[k] = ⟨(k : Int) + 1, a97, l.getD k []⟩ := by simp [sent]
theorem sent_send {l : List Byt} {i : Nat} (hi : i < 4096) (hb : (l.getD i []).length ≤ 65536) : Ns.send ⟨sent l i, i⟩ a97 (l.getD i []) = (((i : Int) + 1, 0), ⟨sent l (i + 1), i + 1⟩) := by
  unfold Ns.send Ns.put
  rw [if_neg (by omega), if_neg (by simp only [sent_len]; omega)]
  simp only [sent_succ]

/-- Some are gone, as many have come. -/
def gone (l : List Byt) (j : Nat) (ys : List Msg) : Ns := ⟨(sent l l.length).drop j ++ ys, l.length + j⟩

theorem gone_step {l : List Byt} {j : Nat} {ys : List Msg} (hj : j < l.length) (hl : l.length ≤ 61) (hy : ys.length = j) (hb : (l.getD j []).length ≤ 500) (to : ByteArray) :
    ((gone l j ys).take ((j : Int) + 1)).2.send to (l.getD j []) = ((((l.length + j : Nat) : Int) + 1, 0), gone l (j + 1) (ys ++ [⟨((l.length + j : Nat) : Int) + 1, to, l.getD j []⟩])) ∧ ((gone l j ys).take ((j : Int) + 1)).1 = (⟨(j : Int) + 1, a97, l.getD j []⟩, 0) := by
  have hsl := sent_len l l.length
  have e1 : (sent l l.length).drop j = ⟨(j : Int) + 1, a97, l.getD j []⟩ :: (sent l l.length).drop (j + 1) := by
    rw [List.drop_eq_getElem_cons (by rw [hsl]; exact hj), sent_get]
  have e2 : (gone l j ys).take ((j : Int) + 1) = ((⟨(j : Int) + 1, a97, l.getD j []⟩, 0), ⟨(sent l l.length).drop (j + 1) ++ ys, l.length + j⟩) := by
    unfold Ns.take gone
    rw [e1]
    simp only [List.cons_append, nFind, nDel, if_true]
  rw [e2]
  refine ⟨?_, rfl⟩
  unfold Ns.send Ns.put gone
  rw [if_neg (by omega), if_neg (by simp only [List.length_append, List.length_drop, hsl]; omega)]
  simp only [List.append_assoc, Nat.add_assoc]

section
variable {σ σ' : St} {p : Nat} {s : Ns}
set_option maxRecDepth 100000
set_option maxHeartbeats 1000000

/-- What lies where. -/
structure Wd (c2 c4 c5 p : Nat) (l : List Byt) (s : Ns) (σ : St) : Prop where
  h2 : σ c2 = some (.cells [.sl 1 (ls l)])
  h4 : σ c4 = some (.cells [boo false])
  h5 : σ c5 = some (.cells [ptr p])
  hp : σ p = some s.O
  n2 : c2 ≠ p
  n4 : c4 ≠ p
  n5 : c5 ≠ p
theorem Wd.put {c2 c4 c5 p : Nat} {l : List Byt} {s s' : Ns} {σ : St} (h : Wd c2 c4 c5 p l s σ) : Wd c2 c4 c5 p l s' (σ.set p s'.O) :=
  ⟨by rw [set_ne h.n2]; exact h.h2, by rw [set_ne h.n4]; exact h.h4, by rw [set_ne h.n5]; exact h.h5, set_same, h.n2, h.n4, h.n5⟩
theorem Wd.new {c2 c4 c5 p c : Nat} {l : List Byt} {s : Ns} {σ : St} {o : AObj} (h : Wd c2 c4 c5 p l s σ) (hc : σ c = none) : Wd c2 c4 c5 p l s (σ.set c o) := by
  have hs : ∀ x p, σ x = some p → (σ.set c o) x = some p := set_sub hc fun _ _ h => h
  exact ⟨hs _ _ h.h2, hs _ _ h.h4, hs _ _ h.h5, hs _ _ h.hp, h.n2, h.n4, h.n5⟩

theorem Wd.oth {c2 c4 c5 p q : Nat} {l : List Byt} {s : Ns} {σ : St} {o : AObj} (h : Wd c2 c4 c5 p l s σ) (h2 : c2 ≠ q) (h4 : c4 ≠ q) (h5 : c5 ≠ q) (h6 : p ≠ q) : Wd c2 c4 c5 p l s (σ.set q o) :=
  ⟨by rw [set_ne h2]; exact h.h2, by rw [set_ne h4]; exact h.h4, by rw [set_ne h5]; exact h.h5, by rw [set_ne h6]; exact h.hp, h.n2, h.n4, h.n5⟩

theorem stops_at (l : List Byt) (stop : Int) (hx : ∀ b ∈ l, b.length ≤ 140737488351232) (hlen : l.length ≤ 140737488351232) : AT Try.prog 6 [.sl 1 (ls l), int stop] (fun _ => none) fun r _ => r = boo true := by
  refine AT.of_body Try.func6 rfl (by decide) (by kernel_rfl) (by kernel_rfl) (Nat.le_of_ble_eq_true rfl) ?_
  simp only [go_sem, reduceIte, Nat.reduceEqDiff, Nat.reduceAdd, Nat.reduceMul, Nat.reduceSub, Nat.reduceLT, Nat.reduceLeDiff, Nat.le_refl, Nat.zero_le, Nat.zero_add, Nat.add_zero, Nat.mul_one, splice_zero, Int.toNat_natCast, Int.natCast_nonneg, Int.reduceLE, Int.reduceLT, Int.reduceToNat, Int.reduceEq, Int.cast_ofNat_Int, ne_eq, not_true_eq_false, not_false_eq_true, imp_self, implies_true, true_implies, false_implies, and_self, List.length_map, List.length_drop]
  refine aNew_intro fun c2 hc2 _ => ?_
  simp only [go_sem, reduceIte, Nat.reduceEqDiff, Nat.reduceAdd, Nat.reduceMul, Nat.reduceSub, Nat.reduceLT, Nat.reduceLeDiff, Nat.le_refl, Nat.zero_le, Nat.zero_add, Nat.add_zero, Nat.mul_one, splice_zero, Int.toNat_natCast, Int.natCast_nonneg, Int.reduceLE, Int.reduceLT, Int.reduceToNat, Int.reduceEq, Int.cast_ofNat_Int, ne_eq, not_true_eq_false, not_false_eq_true, imp_self, implies_true, true_implies, false_implies, and_self, List.length_map, List.length_drop]
  refine aNew_intro fun c4 hc4 hm4 => ?_
  have n24 := hm4 _ _ set_same
  simp only [go_sem, reduceIte, Nat.reduceEqDiff, Nat.reduceAdd, Nat.reduceMul, Nat.reduceSub, Nat.reduceLT, Nat.reduceLeDiff, Nat.le_refl, Nat.zero_le, Nat.zero_add, Nat.add_zero, Nat.mul_one, splice_zero, Int.toNat_natCast, Int.natCast_nonneg, Int.reduceLE, Int.reduceLT, Int.reduceToNat, Int.reduceEq, Int.cast_ofNat_Int, ne_eq, not_true_eq_false, not_false_eq_true, imp_self, implies_true, true_implies, false_implies, and_self, List.length_map, List.length_drop]
  refine new_at.mono ?_
  rintro _ _ ⟨p, hp, rfl, rfl⟩
  have n4p : c4 ≠ p := by rintro rfl; rw [set_same] at hp; cases hp
  have n2p : c2 ≠ p := by rintro rfl; rw [set_ne n24, set_same] at hp; cases hp
  simp only [go_sem, reduceIte, Nat.reduceEqDiff, Nat.reduceAdd, Nat.reduceMul, Nat.reduceSub, Nat.reduceLT, Nat.reduceLeDiff, Nat.le_refl, Nat.zero_le, Nat.zero_add, Nat.add_zero, Nat.mul_one, splice_zero, Int.toNat_natCast, Int.natCast_nonneg, Int.reduceLE, Int.reduceLT, Int.reduceToNat, Int.reduceEq, Int.cast_ofNat_Int, ne_eq, not_true_eq_false, not_false_eq_true, imp_self, implies_true, true_implies, false_implies, and_self, List.length_map, List.length_drop]
  refine aNew_intro fun c5 hc5 hm5 => ?_
  have n5p := hm5 _ _ set_same
  have n25 : c2 ≠ c5 := hm5 _ _ (by rw [set_ne n2p, set_ne n24, set_same])
  have n45 : c4 ≠ c5 := hm5 _ _ (by rw [set_ne n4p, set_same])
  simp only [go_sem, reduceIte, Nat.reduceEqDiff, Nat.reduceAdd, Nat.reduceMul, Nat.reduceSub, Nat.reduceLT, Nat.reduceLeDiff, Nat.le_refl, Nat.zero_le, Nat.zero_add, Nat.add_zero, Nat.mul_one, splice_zero, Int.toNat_natCast, Int.natCast_nonneg, Int.reduceLE, Int.reduceLT, Int.reduceToNat, Int.reduceEq, Int.cast_ofNat_Int, ne_eq, not_true_eq_false, not_false_eq_true, imp_self, implies_true, true_implies, false_implies, and_self, List.length_map, List.length_drop]
  have hW : Wd c2 c4 c5 p l ⟨sent l 0, 0⟩ ((((St.set (fun x => none) c2 (.cells [.sl 1 (ls l)])).set c4 (.cells [boo false])).set p (nO [] 0)).set c5 (.cells [ptr p])) :=
    ⟨by rw [set_ne n25, set_ne n2p, set_ne n24, set_same], by rw [set_ne n45, set_ne n4p, set_same], set_same, by rw [set_ne n5p, set_same]; rfl, n2p, n4p, n5p.symm⟩
  revert hW
  generalize ((((St.set (fun x => none) c2 (.cells [.sl 1 (ls l)])).set c4 (.cells [boo false])).set p (nO [] 0)).set c5 (.cells [ptr p])) = σ1
  intro hW
  clear hm5 hc5 hp hm4 hc4 hc2
  refine aMeet (fun fr σ => fr 1 = int stop ∧ fr 2 = ptr c2 ∧ fr 4 = ptr c4 ∧ fr 5 = ptr c5 ∧ l.length ≤ 61 ∧ (∀ b ∈ l, b.length ≤ 500) ∧ Wd c2 c4 c5 p l ⟨sent l l.length, l.length⟩ σ ∧ Ns.Ok ⟨sent l l.length, l.length⟩) ?_ ?_
  · simp only [go_sem, r_block, reduceIte, Nat.reduceEqDiff, Nat.reduceAdd, Nat.reduceMul, Nat.reduceSub, Nat.reduceLT, Nat.reduceLeDiff, Nat.le_refl, Nat.zero_le, Nat.zero_add, Nat.add_zero, Nat.mul_one, splice_zero, Int.toNat_natCast, Int.natCast_nonneg, Int.reduceLE, Int.reduceLT, Int.reduceToNat, Int.reduceEq, Int.cast_ofNat_Int, ne_eq, not_true_eq_false, not_false_eq_true, imp_self, implies_true, true_implies, false_implies, and_self, List.length_map, List.length_drop]
    refine ⟨fun m fr σ => ∃ i : Nat, m = 62 - i ∧ i ≤ l.length ∧ i ≤ 61 ∧ (∀ k (hk : k < l.length), k < i → l[k].length ≤ 500) ∧ fr 1 = int stop ∧ fr 2 = ptr c2 ∧ fr 4 = ptr c4 ∧ fr 5 = ptr c5 ∧ fr 6 = int i ∧ Wd c2 c4 c5 p l ⟨sent l i, i⟩ σ ∧ Ns.Ok ⟨sent l i, i⟩, ⟨_, 0, rfl, by omega, by omega, fun k hk h => by omega, rfl, rfl, rfl, rfl, rfl, hW, ok0⟩, ?_⟩
    clear hW
    rintro m fr σ ⟨i, rfl, h1, h2, h3, f1, f2, f4, f5, f6, hW, ho⟩
    have w2 := hW.h2
    have w4 := hW.h4
    have w5 := hW.h5
    simp only [go_sem, f1, f2, f4, f5, f6, w2, w5, ls_len, reduceIte, Nat.reduceEqDiff, Nat.reduceAdd, Nat.reduceMul, Nat.reduceSub, Nat.reduceLT, Nat.reduceLeDiff, Nat.le_refl, Nat.zero_le, Nat.zero_add, Nat.add_zero, Nat.mul_one, splice_zero, Int.toNat_natCast, Int.natCast_nonneg, Int.reduceLE, Int.reduceLT, Int.reduceToNat, Int.reduceEq, Int.cast_ofNat_Int, ne_eq, not_true_eq_false, not_false_eq_true, imp_self, implies_true, true_implies, false_implies, and_self, List.length_map, List.length_drop]
    refine aIf_by (fun hlt => ?_) (fun hlt => ?_)
    · have hil : i < l.length := by omega
      have eg := ls_get hil
      have ge : l.getD i [] = l[i] := by simp [List.getD_eq_getElem?_getD, hil]
      have e60 : ∀ fr' σ', σ' c4 = some (.cells [boo true]) → fr' 4 = ptr c4 → aRet Try.prog (fun r _ => r = boo true) [.cell 4 4] fr' σ' := fun fr' σ' h4 f4 =>
        aRet_as (r := boo true) (by simp [aResult, aResL, aRes1, aResC, oneR, go_sem, f4, h4]) rfl
      by_cases h60 : 60 < (i : Int)
      · simp only [go_sem, r_block, f1, f2, f4, f5, f6, w2, w5, ls_len, decide_eq_true h60, reduceIte, Nat.reduceEqDiff, Nat.reduceAdd, Nat.reduceMul, Nat.reduceSub, Nat.reduceLT, Nat.reduceLeDiff, Nat.le_refl, Nat.zero_le, Nat.zero_add, Nat.add_zero, Nat.mul_one, splice_zero, Int.toNat_natCast, Int.natCast_nonneg, Int.reduceLE, Int.reduceLT, Int.reduceToNat, Int.reduceEq, Int.cast_ofNat_Int, ne_eq, not_true_eq_false, not_false_eq_true, imp_self, implies_true, true_implies, false_implies, and_self, List.length_map, List.length_drop]
        refine live_at.mono ?_
        rintro _ _ ⟨rfl, rfl⟩
        simp only [go_sem, r_block, f1, f2, f4, f5, f6, w4, reduceIte, Nat.reduceEqDiff, Nat.reduceAdd, Nat.reduceMul, Nat.reduceSub, Nat.reduceLT, Nat.reduceLeDiff, Nat.le_refl, Nat.zero_le, Nat.zero_add, Nat.add_zero, Nat.mul_one, splice_zero, Int.toNat_natCast, Int.natCast_nonneg, Int.reduceLE, Int.reduceLT, Int.reduceToNat, Int.reduceEq, Int.cast_ofNat_Int, ne_eq, not_true_eq_false, not_false_eq_true, imp_self, implies_true, true_implies, false_implies, and_self, List.length_map, List.length_drop]
        exact e60 _ _ set_same f4
      by_cases h500 : (500 : Int) < l[i].length
      · simp only [go_sem, r_block, f1, f2, f4, f5, f6, w2, w5, ls_len, eg, decide_eq_false h60, byC_len, decide_eq_true h500, reduceIte, Nat.reduceEqDiff, Nat.reduceAdd, Nat.reduceMul, Nat.reduceSub, Nat.reduceLT, Nat.reduceLeDiff, Nat.le_refl, Nat.zero_le, Nat.zero_add, Nat.add_zero, Nat.mul_one, splice_zero, Int.toNat_natCast, Int.natCast_nonneg, Int.reduceLE, Int.reduceLT, Int.reduceToNat, Int.reduceEq, Int.cast_ofNat_Int, ne_eq, not_true_eq_false, not_false_eq_true, imp_self, implies_true, true_implies, false_implies, and_self, List.length_map, List.length_drop]
        refine ⟨hlt, live_at.mono ?_⟩
        rintro _ _ ⟨rfl, rfl⟩
        simp only [go_sem, r_block, f1, f2, f4, f5, f6, w4, reduceIte, Nat.reduceEqDiff, Nat.reduceAdd, Nat.reduceMul, Nat.reduceSub, Nat.reduceLT, Nat.reduceLeDiff, Nat.le_refl, Nat.zero_le, Nat.zero_add, Nat.add_zero, Nat.mul_one, splice_zero, Int.toNat_natCast, Int.natCast_nonneg, Int.reduceLE, Int.reduceLT, Int.reduceToNat, Int.reduceEq, Int.cast_ofNat_Int, ne_eq, not_true_eq_false, not_false_eq_true, imp_self, implies_true, true_implies, false_implies, and_self, List.length_map, List.length_drop]
        exact e60 _ _ set_same f4
      · simp only [go_sem, r_block, f1, f2, f4, f5, f6, w2, w5, ls_len, eg, decide_eq_false h60, byC_len, decide_eq_false h500, reduceIte, Nat.reduceEqDiff, Nat.reduceAdd, Nat.reduceMul, Nat.reduceSub, Nat.reduceLT, Nat.reduceLeDiff, Nat.le_refl, Nat.zero_le, Nat.zero_add, Nat.add_zero, Nat.mul_one, splice_zero, Int.toNat_natCast, Int.natCast_nonneg, Int.reduceLE, Int.reduceLT, Int.reduceToNat, Int.reduceEq, Int.cast_ofNat_Int, ne_eq, not_true_eq_false, not_false_eq_true, imp_self, implies_true, true_implies, false_implies, and_self, List.length_map, List.length_drop]
        refine ⟨hlt, ?_⟩
        refine aDraw_plan [.rd 0 true, .rd 1 true, .rd 2 false, .rd 3 false, .rd 4 true, .ef 5 []] (by kernel_rfl) (by kernel_rfl) (by kernel_rfl) ?_
        simp only [go_sem, r_block, f1, f2, f4, f5, f6, w2, w5, ls_len, eg, reduceIte, Nat.reduceEqDiff, Nat.reduceAdd, Nat.reduceMul, Nat.reduceSub, Nat.reduceLT, Nat.reduceLeDiff, Nat.le_refl, Nat.zero_le, Nat.zero_add, Nat.add_zero, Nat.mul_one, splice_zero, Int.toNat_natCast, Int.natCast_nonneg, Int.reduceLE, Int.reduceLT, Int.reduceToNat, Int.reduceEq, Int.cast_ofNat_Int, ne_eq, not_true_eq_false, not_false_eq_true, imp_self, implies_true, true_implies, false_implies, and_self, List.length_map, List.length_drop]
        refine ⟨hlt, (send_at hW.hp ho ⟨#[97]⟩ .sl).mono ?_⟩
        rintro _ _ ⟨rfl, rfl⟩
        have hsd := sent_send (l := l) (i := i) (by omega) (by rw [ge]; omega)
        have hok := ho.send ⟨#[97]⟩ l[i] (by show i < _; omega)
        rw [ge] at hsd
        rw [show (Ns.send ⟨sent l i, i⟩ ⟨#[97]⟩ l[i]) = _ from hsd] at hok ⊢
        simp only [go_sem, r_block, f1, f2, f4, f5, f6, reduceIte, Nat.reduceEqDiff, Nat.reduceAdd, Nat.reduceMul, Nat.reduceSub, Nat.reduceLT, Nat.reduceLeDiff, Nat.le_refl, Nat.zero_le, Nat.zero_add, Nat.add_zero, Nat.mul_one, splice_zero, Int.toNat_natCast, Int.natCast_nonneg, Int.reduceLE, Int.reduceLT, Int.reduceToNat, Int.reduceEq, Int.cast_ofNat_Int, ne_eq, not_true_eq_false, not_false_eq_true, imp_self, implies_true, true_implies, false_implies, and_self, List.length_map, List.length_drop]
        rw [next64 (by omega)]
        refine ⟨62 - (i + 1), by omega, i + 1, rfl, by omega, by omega, fun k hk hki => ?_, rfl, hW.put, hok⟩
        by_cases e : k = i
        · subst e; omega
        · exact h3 k hk (by omega)
    · simp only [go_sem, r_block, f1, f2, f4, f5, f6, reduceIte, Nat.reduceEqDiff, Nat.reduceAdd, Nat.reduceMul, Nat.reduceSub, Nat.reduceLT, Nat.reduceLeDiff, Nat.le_refl, Nat.zero_le, Nat.zero_add, Nat.add_zero, Nat.mul_one, splice_zero, Int.toNat_natCast, Int.natCast_nonneg, Int.reduceLE, Int.reduceLT, Int.reduceToNat, Int.reduceEq, Int.cast_ofNat_Int, ne_eq, not_true_eq_false, not_false_eq_true, imp_self, implies_true, true_implies, false_implies, and_self, List.length_map, List.length_drop]
      obtain rfl : i = l.length := by omega
      refine ⟨h2, fun b hb => ?_, hW, ho⟩
      obtain ⟨k, hk, rfl⟩ := List.getElem_of_mem hb
      exact h3 k hk hk
  clear hW
  rintro fr σ2 ⟨f1, f2, f4, f5, hl, hb, hW, ho⟩
  have w2 := hW.h2
  have w4 := hW.h4
  have w5 := hW.h5
  simp only [go_sem, f1, f2, f4, f5, w5, reduceIte, Nat.reduceEqDiff, Nat.reduceAdd, Nat.reduceMul, Nat.reduceSub, Nat.reduceLT, Nat.reduceLeDiff, Nat.le_refl, Nat.zero_le, Nat.zero_add, Nat.add_zero, Nat.mul_one, splice_zero, Int.toNat_natCast, Int.natCast_nonneg, Int.reduceLE, Int.reduceLT, Int.reduceToNat, Int.reduceEq, Int.cast_ofNat_Int, ne_eq, not_true_eq_false, not_false_eq_true, imp_self, implies_true, true_implies, false_implies, and_self, List.length_map, List.length_drop]
  refine (tell_at hW.hp ho (-1)).mono ?_
  rintro _ σ2 ⟨rfl, rfl⟩
  rw [show upto (Ns.l ⟨sent l l.length, l.length⟩) (-1) = sent l l.length from rfl]
  simp only [go_sem, f1, f2, f4, f5, w5, reduceIte, Nat.reduceEqDiff, Nat.reduceAdd, Nat.reduceMul, Nat.reduceSub, Nat.reduceLT, Nat.reduceLeDiff, Nat.le_refl, Nat.zero_le, Nat.zero_add, Nat.add_zero, Nat.mul_one, splice_zero, Int.toNat_natCast, Int.natCast_nonneg, Int.reduceLE, Int.reduceLT, Int.reduceToNat, Int.reduceEq, Int.cast_ofNat_Int, ne_eq, not_true_eq_false, not_false_eq_true, imp_self, implies_true, true_implies, false_implies, and_self, List.length_map, List.length_drop]
  refine aNew_intro fun c7 hc7 hm7 => ?_
  have n57 := hm7 _ _ w5
  simp only [go_sem, f1, f2, f4, f5, w5, set_ne n57, reduceIte, Nat.reduceEqDiff, Nat.reduceAdd, Nat.reduceMul, Nat.reduceSub, Nat.reduceLT, Nat.reduceLeDiff, Nat.le_refl, Nat.zero_le, Nat.zero_add, Nat.add_zero, Nat.mul_one, splice_zero, Int.toNat_natCast, Int.natCast_nonneg, Int.reduceLE, Int.reduceLT, Int.reduceToNat, Int.reduceEq, Int.cast_ofNat_Int, ne_eq, not_true_eq_false, not_false_eq_true, imp_self, implies_true, true_implies, false_implies, and_self, List.length_map, List.length_drop]
  have hW7 := hW.new (o := .cells [.sl 3 ((sent l l.length).map Msg.cs)]) hc7
  refine (tell_at hW7.hp ho stop).mono ?_
  rintro _ _ ⟨rfl, rfl⟩
  obtain ⟨L, hL⟩ : ∃ L, L = upto (Ns.l ⟨sent l l.length, l.length⟩) stop := ⟨_, rfl⟩
  have hLl : L.length ≤ l.length ∧ (0 ≤ stop → stop ≤ l.length → (L.length : Int) = stop) := by
    have hsl := sent_len l l.length
    rw [hL]
    unfold upto
    split
    · simp only [List.length_take, hsl]; omega
    · simp only [hsl]; omega
  rw [← hL]
  have w7 : (σ2.set c7 (.cells [.sl 3 ((sent l l.length).map Msg.cs)])) c7 = some (.cells [.sl 3 ((sent l l.length).map Msg.cs)]) := set_same
  revert w7 hW7
  generalize σ2.set c7 (.cells [.sl 3 ((sent l l.length).map Msg.cs)]) = σ3
  intro hW7 w7
  clear hL hc7 hm7 hW w2 w4 w5
  have w2 := hW7.h2
  have w4 := hW7.h4
  have w5 := hW7.h5
  have d1 : decide ((l.length : Int) < (L.length : Int)) = false := decide_eq_false (by omega)
  obtain ⟨b1, hb1⟩ : ∃ b, decide (0 ≤ stop) = b := ⟨_, rfl⟩
  obtain ⟨b2, hb2⟩ : ∃ b, decide (stop ≤ (l.length : Int)) = b := ⟨_, rfl⟩
  have hb3 : b1 = true → b2 = true → (L.length : Int) = stop := fun h1 h2 => hLl.2 (of_decide_eq_true (hb1.trans h1)) (of_decide_eq_true (hb2.trans h2))
  have hb4 : b1 = true → b2 = true → decide ((L.length : Int) = stop) = true := fun h1 h2 => decide_eq_true (hb3 h1 h2)
  cases b1 <;> cases b2
  all_goals
    (try have hb5 := hb4 rfl rfl)
    (try simp only [go_sem, f1, f2, f4, f5, w5, w7, List.length_map, sent_len, d1, hb1, hb2, hb5, reduceIte, Nat.reduceEqDiff, Nat.reduceAdd, Nat.reduceMul, Nat.reduceSub, Nat.reduceLT, Nat.reduceLeDiff, Nat.le_refl, Nat.zero_le, Nat.zero_add, Nat.add_zero, Nat.mul_one, splice_zero, Int.toNat_natCast, Int.natCast_nonneg, Int.reduceLE, Int.reduceLT, Int.reduceToNat, Int.reduceEq, Int.cast_ofNat_Int, ne_eq, not_true_eq_false, not_false_eq_true, imp_self, implies_true, true_implies, false_implies, and_self, List.length_map, List.length_drop])
    (try simp only [go_sem, f1, f2, f4, f5, w5, w7, List.length_map, sent_len, d1, hb1, hb2, reduceIte, Nat.reduceEqDiff, Nat.reduceAdd, Nat.reduceMul, Nat.reduceSub, Nat.reduceLT, Nat.reduceLeDiff, Nat.le_refl, Nat.zero_le, Nat.zero_add, Nat.add_zero, Nat.mul_one, splice_zero, Int.toNat_natCast, Int.natCast_nonneg, Int.reduceLE, Int.reduceLT, Int.reduceToNat, Int.reduceEq, Int.cast_ofNat_Int, ne_eq, not_true_eq_false, not_false_eq_true, imp_self, implies_true, true_implies, false_implies, and_self, List.length_map, List.length_drop])
    refine (all_at (ptr p) rfl rfl).mono ?_
    rintro _ _ ⟨x, hx, rfl, rfl⟩
    have hW8 := hW7.new (o := .cells [ptr p]) hx
    have s8 : ∀ y o, σ3 y = some o → (σ3.set x (.cells [ptr p])) y = some o := set_sub hx fun _ _ h => h
    have w78 := s8 _ _ w7
    have wx : (σ3.set x (.cells [ptr p])) x = some (.cells [ptr p]) := set_same
    revert hW8 w78 wx
    generalize σ3.set x (.cells [ptr p]) = σ4
    intro hW8 w78 wx
    simp only [go_sem, reduceIte, Nat.reduceEqDiff, Nat.reduceAdd, Nat.reduceMul, Nat.reduceSub, Nat.reduceLT, Nat.reduceLeDiff, Nat.le_refl, Nat.zero_le, Nat.zero_add, Nat.add_zero, Nat.mul_one, splice_zero, Int.toNat_natCast, Int.natCast_nonneg, Int.reduceLE, Int.reduceLT, Int.reduceToNat, Int.reduceEq, Int.cast_ofNat_Int, ne_eq, not_true_eq_false, not_false_eq_true, imp_self, implies_true, true_implies, false_implies, and_self, List.length_map, List.length_drop]
    refine ⟨by kernel_rfl, ?_⟩
    refine aNew_intro fun c10 hc10 hm10 => ?_
    have n710 := hm10 _ _ w78
    simp only [go_sem, reduceIte, Nat.reduceEqDiff, Nat.reduceAdd, Nat.reduceMul, Nat.reduceSub, Nat.reduceLT, Nat.reduceLeDiff, Nat.le_refl, Nat.zero_le, Nat.zero_add, Nat.add_zero, Nat.mul_one, splice_zero, Int.toNat_natCast, Int.natCast_nonneg, Int.reduceLE, Int.reduceLT, Int.reduceToNat, Int.reduceEq, Int.cast_ofNat_Int, ne_eq, not_true_eq_false, not_false_eq_true, imp_self, implies_true, true_implies, false_implies, and_self, List.length_map, List.length_drop]
    have hW9 := hW8.new (o := .cells [int 0]) hc10
    have s9 : ∀ y o, σ4 y = some o → (σ4.set c10 (.cells [int 0])) y = some o := set_sub hc10 fun _ _ h => h
    have w79 := s9 _ _ w78
    have wx9 := s9 _ _ wx
    have w10 : (σ4.set c10 (.cells [int 0])) c10 = some (.cells [int 0]) := set_same
    have np10 := hm10 _ _ hW8.hp
    have np7 : c7 ≠ p := by rintro rfl; rw [hW8.hp] at w78; simp [Ns.O, nO] at w78
    have n510 := hm10 _ _ hW8.h5
    have n410 := hm10 _ _ hW8.h4
    have n210 := hm10 _ _ hW8.h2
    revert hW9 w79 wx9 w10
    generalize σ4.set c10 (.cells [int 0]) = σ5
    intro hW9 w79 wx9 w10
    refine aMeet (fun fr σ' => fr 4 = ptr c4 ∧ fr 5 = ptr c5 ∧ fr 7 = ptr c7 ∧ fr 10 = ptr c10 ∧ σ' c7 = some (.cells [.sl 3 ((sent l l.length).map Msg.cs)]) ∧ σ' c10 = some (.cells [int l.length]) ∧ ∃ ys, ys.length = l.length ∧ Wd c2 c4 c5 p l (gone l l.length ys) σ' ∧ (gone l l.length ys).Ok) ?_ ?_
    · simp only [go_sem, r_block, reduceIte, Nat.reduceEqDiff, Nat.reduceAdd, Nat.reduceMul, Nat.reduceSub, Nat.reduceLT, Nat.reduceLeDiff, Nat.le_refl, Nat.zero_le, Nat.zero_add, Nat.add_zero, Nat.mul_one, splice_zero, Int.toNat_natCast, Int.natCast_nonneg, Int.reduceLE, Int.reduceLT, Int.reduceToNat, Int.reduceEq, Int.cast_ofNat_Int, ne_eq, not_true_eq_false, not_false_eq_true, imp_self, implies_true, true_implies, false_implies, and_self, List.length_map, List.length_drop]
      refine gen_range (fun fr => fr 2 = ptr c2 ∧ fr 4 = ptr c4 ∧ fr 5 = ptr c5 ∧ fr 7 = ptr c7 ∧ fr 10 = ptr c10) ⟨f2, f4, f5, rfl, rfl⟩ fun assign body fr hA hB ⟨f2, f4, f5, f7, f10⟩ => ?_
      intro n q hq hqm
      have hsl : ∀ y o, σ5 y = some o → (σ5.set q (.loop fr n [67] assign body .ready none)) y = some o := set_sub hq fun _ _ h => h
      have hq10 := hqm _ _ w10
      have hqp := hqm _ _ hW9.hp
      refine (iter_at (Inv := fun j σ' => σ' q = some (.loop fr n [67] assign body .ready none) ∧ σ' c7 = some (.cells [.sl 3 ((sent l l.length).map Msg.cs)]) ∧ σ' c10 = some (.cells [int j]) ∧ ∃ ys, ys.length = j ∧ Wd c2 c4 c5 p l (gone l j ys) σ' ∧ (gone l j ys).Ok)
        (Stop := fun σ' => False)
        (hsl _ _ wx9) (hsl _ _ hW9.hp) ho ?_ ?_ ?_).mono ?_
      · refine ⟨set_same, hsl _ _ w79, hsl _ _ w10, [], rfl, ?_, ?_⟩
        · have := hW9.new (o := .loop fr n [67] assign body .ready none) hq
          simpa [gone] using this
        · simpa [gone] using ho
      · rintro j σ6 c o ⟨g1, g2, g3, ys, g4, g5, g6⟩ hc
        have hk : ∀ y p, σ6 y = some p → (σ6.set c o) y = some p := set_sub hc fun _ _ h => h
        exact ⟨hk _ _ g1, hk _ _ g2, hk _ _ g3, ys, g4, g5.new hc, g6⟩
      · rintro j hj σ6 ⟨g1, g2, g3, ys, g4, g5, g6⟩
        have hjl : j < l.length := by rw [show (Ns.l ⟨sent l l.length, l.length⟩).length = l.length from sent_len _ _] at hj; exact hj
        rw [show (Ns.l ⟨sent l l.length, l.length⟩)[j] = ⟨(j : Int) + 1, a97, l.getD j []⟩ from sent_get l hj]
        refine yield_to hA g1 rfl (by rw [hA, hB]; rfl) ?_
        have hbg := fun k fr1 σ1 => begun_b (P := Try.prog) (l := q) (fr := fr) (fr1 := fr1) (σ1 := σ1) (ps := [67]) (n := n) (assign := assign) (k := k) hB
        simp only [go_sem, hbg, Msg.one, Msg.len, reduceIte, Nat.reduceEqDiff, Nat.reduceAdd, Nat.reduceMul, Nat.reduceSub, Nat.reduceLT, Nat.reduceLeDiff, Nat.le_refl, Nat.zero_le, Nat.zero_add, Nat.add_zero, Nat.mul_one, splice_zero, Int.toNat_natCast, Int.natCast_nonneg, Int.reduceLE, Int.reduceLT, Int.reduceToNat, Int.reduceEq, Int.cast_ofNat_Int, ne_eq, not_true_eq_false, not_false_eq_true, imp_self, implies_true, true_implies, false_implies, and_self, List.length_map, List.length_drop]
        refine aNew_intro fun c11 hc11 hm11 => ?_
        simp only [go_sem, hbg, Msg.one, Msg.len, reduceIte, Nat.reduceEqDiff, Nat.reduceAdd, Nat.reduceMul, Nat.reduceSub, Nat.reduceLT, Nat.reduceLeDiff, Nat.le_refl, Nat.zero_le, Nat.zero_add, Nat.add_zero, Nat.mul_one, splice_zero, Int.toNat_natCast, Int.natCast_nonneg, Int.reduceLE, Int.reduceLT, Int.reduceToNat, Int.reduceEq, Int.cast_ofNat_Int, ne_eq, not_true_eq_false, not_false_eq_true, imp_self, implies_true, true_implies, false_implies, and_self, List.length_map, List.length_drop]
        refine ⟨by rw [set_ne (hm11 _ _ g1)]; exact g1, ?_⟩
        have e11 := hm11 _ _ g1
        have q2 := hqm _ _ hW9.h2
        have q4 := hqm _ _ hW9.h4
        have q5 := hqm _ _ hW9.h5
        have q7 := hqm _ _ w79
        have k11 : ((σ6.set c11 (.cells (Msg.cs ⟨(j : Int) + 1, a97, l.getD j []⟩))).set q (.loop fr n [67] assign body .busy none)) c11 = some (.cells (Msg.cs ⟨(j : Int) + 1, a97, l.getD j []⟩)) := by rw [set_ne e11.symm, set_same]
        have k7 : ((σ6.set c11 (.cells (Msg.cs ⟨(j : Int) + 1, a97, l.getD j []⟩))).set q (.loop fr n [67] assign body .busy none)) c7 = some (.cells [.sl 3 ((sent l l.length).map Msg.cs)]) := by rw [set_ne q7, set_ne (hm11 _ _ g2)]; exact g2
        have k10 : ((σ6.set c11 (.cells (Msg.cs ⟨(j : Int) + 1, a97, l.getD j []⟩))).set q (.loop fr n [67] assign body .busy none)) c10 = some (.cells [int j]) := by rw [set_ne hq10, set_ne (hm11 _ _ g3)]; exact g3
        have kq : ((σ6.set c11 (.cells (Msg.cs ⟨(j : Int) + 1, a97, l.getD j []⟩))).set q (.loop fr n [67] assign body .busy none)) q = some (.loop fr n [67] assign body .busy none) := set_same
        have kW : Wd c2 c4 c5 p l (gone l j ys) ((σ6.set c11 (.cells (Msg.cs ⟨(j : Int) + 1, a97, l.getD j []⟩))).set q (.loop fr n [67] assign body .busy none)) := (g5.new hc11).oth q2 q4 q5 hqp
        have np11 := hm11 _ _ g5.hp
        revert k11 k7 k10 kq kW
        generalize (σ6.set c11 (.cells (Msg.cs ⟨(j : Int) + 1, a97, l.getD j []⟩))).set q (.loop fr n [67] assign body .busy none) = σ7
        intro k11 k7 k10 kq kW
        have v2 := kW.h2
        have v5 := kW.h5
        have d1 : decide ((l.length : Int) ≤ (j : Int)) = false := decide_eq_false (by omega)
        have eg := msgs_get (l := sent l l.length) (i := j) (by rw [sent_len]; exact hjl)
        rw [sent_get] at eg
        have el := ls_get hjl
        have ge : l.getD j [] = l[j] := by simp [List.getD_eq_getElem?_getD, hjl]
        rw [← ge] at el
        simp only [go_sem, r_block, reduceIte, Nat.reduceEqDiff, Nat.reduceAdd, Nat.reduceMul, Nat.reduceSub, Nat.reduceLT, Nat.reduceLeDiff, Nat.le_refl, Nat.zero_le, Nat.zero_add, Nat.add_zero, Nat.mul_one, splice_zero, Int.toNat_natCast, Int.natCast_nonneg, Int.reduceLE, Int.reduceLT, Int.reduceToNat, Int.reduceEq, Int.cast_ofNat_Int, ne_eq, not_true_eq_false, not_false_eq_true, imp_self, implies_true, true_implies, false_implies, and_self, List.length_map, List.length_drop]
        refine aDraw_plan [.rd 0 true, .rd 1 true, .rd 2 false, .rd 3 false, .rd 4 false, .rd 5 false, .rd 6 true, .rd 7 true, .rd 8 true, .rd 9 false, .rd 10 false, .rd 11 true, .rd 12 false, .rd 13 false, .rd 14 false, .rd 15 false, .rd 16 true, .rd 17 true, .rd 18 true, .rd 19 true, .rd 20 false, .rd 21 true, .rd 22 true, .rd 23 false, .rd 24 false] (by kernel_rfl) (by kernel_rfl) (by kernel_rfl) ?_
        simp only [go_sem, r_block, k11, k7, k10, v2, v5, f2, f4, f5, f7, f10, List.length_map, sent_len, d1, eg, el, ls_len, Msg.len, Msg.at0, Msg.dr2, decide_true, isB, reduceIte, Nat.reduceEqDiff, Nat.reduceAdd, Nat.reduceMul, Nat.reduceSub, Nat.reduceLT, Nat.reduceLeDiff, Nat.le_refl, Nat.zero_le, Nat.zero_add, Nat.add_zero, Nat.mul_one, splice_zero, Int.toNat_natCast, Int.natCast_nonneg, Int.reduceLE, Int.reduceLT, Int.reduceToNat, Int.reduceEq, Int.cast_ofNat_Int, ne_eq, not_true_eq_false, not_false_eq_true, imp_self, implies_true, true_implies, false_implies, and_self, List.length_map, List.length_drop]
        refine ⟨by omega, byC _, rfl, isB _, by omega, byC _, rfl, isB _, ?_⟩
        simp only [go_sem, r_block, k11, k7, k10, v2, v5, f2, f4, f5, f7, f10, Msg.len, Msg.at0, Msg.at2, Msg.dr2, decide_true, decide_false, reduceIte, Nat.reduceEqDiff, Nat.reduceAdd, Nat.reduceMul, Nat.reduceSub, Nat.reduceLT, Nat.reduceLeDiff, Nat.le_refl, Nat.zero_le, Nat.zero_add, Nat.add_zero, Nat.mul_one, splice_zero, Int.toNat_natCast, Int.natCast_nonneg, Int.reduceLE, Int.reduceLT, Int.reduceToNat, Int.reduceEq, Int.cast_ofNat_Int, ne_eq, not_true_eq_false, not_false_eq_true, imp_self, implies_true, true_implies, false_implies, and_self, List.length_map, List.length_drop]
        have hbj : (l.getD j []).length ≤ 500 := by rw [ge]; exact hb _ (List.getElem_mem hjl)
        have hgs := gone_step (ys := ys) hjl hl g4 hbj ⟨#[98]⟩
        have hok1 := g6.take ((j : Int) + 1)
        have hok2 := hok1.send ⟨#[98]⟩ (l.getD j []) (by rw [take_last]; unfold gone; simp only; omega)
        rw [hgs.1] at hok2
        refine (drop_at kW.hp g6 _).mono ?_
        rintro _ σ8 ⟨rfl, rfl⟩
        have kW8 : Wd c2 c4 c5 p l ((gone l j ys).take ((j : Int) + 1)).2 (σ7.set p ((gone l j ys).take ((j : Int) + 1)).2.O) := kW.put
        have v5' := kW8.h5
        have v11 : (σ7.set p ((gone l j ys).take ((j : Int) + 1)).2.O) c11 = _ := (set_ne np11.symm).trans k11
        simp only [go_sem, r_block, v5', v11, f5, Msg.len, Msg.at2, Msg.dr2, reduceIte, Nat.reduceEqDiff, Nat.reduceAdd, Nat.reduceMul, Nat.reduceSub, Nat.reduceLT, Nat.reduceLeDiff, Nat.le_refl, Nat.zero_le, Nat.zero_add, Nat.add_zero, Nat.mul_one, splice_zero, Int.toNat_natCast, Int.natCast_nonneg, Int.reduceLE, Int.reduceLT, Int.reduceToNat, Int.reduceEq, Int.cast_ofNat_Int, ne_eq, not_true_eq_false, not_false_eq_true, imp_self, implies_true, true_implies, false_implies, and_self, List.length_map, List.length_drop]
        refine (send_at kW8.hp hok1 ⟨#[98]⟩ .sl).mono ?_
        rintro _ σ8 ⟨rfl, rfl⟩
        rw [hgs.1, set_set]
        have v10 : (σ7.set p (gone l (j + 1) (ys ++ [⟨((l.length + j : Nat) : Int) + 1, ⟨#[98]⟩, l.getD j []⟩])).O) c10 = _ := (set_ne np10.symm).trans k10
        simp only [go_sem, r_block, v10, f10, reduceIte, Nat.reduceEqDiff, Nat.reduceAdd, Nat.reduceMul, Nat.reduceSub, Nat.reduceLT, Nat.reduceLeDiff, Nat.le_refl, Nat.zero_le, Nat.zero_add, Nat.add_zero, Nat.mul_one, splice_zero, Int.toNat_natCast, Int.natCast_nonneg, Int.reduceLE, Int.reduceLT, Int.reduceToNat, Int.reduceEq, Int.cast_ofNat_Int, ne_eq, not_true_eq_false, not_false_eq_true, imp_self, implies_true, true_implies, false_implies, and_self, List.length_map, List.length_drop]
        rw [round_n, next64 (by omega)]
        have m10 : c10 ≠ c2 ∧ c10 ≠ c4 ∧ c10 ≠ c5 := ⟨n210.symm, n410.symm, n510.symm⟩
        refine ⟨⟨none, by rw [set_ne hq10.symm, set_ne hqp.symm]; exact kq⟩, .inl ⟨rfl, set_same, ?_, ?_, ys ++ [⟨((l.length + j : Nat) : Int) + 1, ⟨#[98]⟩, l.getD j []⟩], by simp [g4], ?_, hok2⟩⟩
        · rw [set_ne q7, set_ne n710, set_ne np7]; exact k7
        · rw [set_ne hq10, set_same]
        · exact ((kW.put (s' := gone l (j + 1) _)).oth n210 n410 n510 np10).oth q2 q4 q5 hqp
      · rintro r σ6 (⟨g1, g2, g3, ys, g4, g5, g6⟩ | h)
        · have hdel : ∀ y, y ≠ q → (σ6.del q) y = σ6 y := fun y hy => by simp only [St.del]; rw [if_neg hy]
          unfold aAfter
          rw [g1]
          refine ⟨(by intro h; cases h), ?_⟩
          unfold aPend
          dsimp only
          simp only [go_sem, reduceIte, Nat.reduceEqDiff, Nat.reduceAdd, Nat.reduceMul, Nat.reduceSub, Nat.reduceLT, Nat.reduceLeDiff, Nat.le_refl, Nat.zero_le, Nat.zero_add, Nat.add_zero, Nat.mul_one, splice_zero, Int.toNat_natCast, Int.natCast_nonneg, Int.reduceLE, Int.reduceLT, Int.reduceToNat, Int.reduceEq, Int.cast_ofNat_Int, ne_eq, not_true_eq_false, not_false_eq_true, imp_self, implies_true, true_implies, false_implies, and_self, List.length_map, List.length_drop]
          have hsl2 : (Ns.l ⟨sent l l.length, l.length⟩).length = l.length := sent_len _ _
          rw [hsl2] at g3 g4 g5 g6
          exact ⟨f4, f5, f7, f10, by rw [hdel _ (hqm _ _ w79)]; exact g2, by rw [hdel _ hq10]; exact g3, ys, g4, ⟨by rw [hdel _ (hqm _ _ hW9.h2)]; exact g5.h2, by rw [hdel _ (hqm _ _ hW9.h4)]; exact g5.h4, by rw [hdel _ (hqm _ _ hW9.h5)]; exact g5.h5, by rw [hdel _ hqp]; exact g5.hp, g5.n2, g5.n4, g5.n5⟩, g6⟩
        · exact h.elim
    rintro fr σ6 ⟨f4, f5, f7, f10, g2, g3, ys, g4, g5, g6⟩
    have v5 := g5.h5
    have v4 := g5.h4
    refine aDraw_plan [.rd 0 true, .rd 1 true, .rd 2 false, .rd 3 false, .rd 4 false, .rd 5 true, .rd 7 true, .rd 8 false, .ef 6 [7], .rd 9 false, .rd 10 false, .rd 11 false, .ef 12 [], .rd 13 false, .ef 14 []] (by kernel_rfl) (by kernel_rfl) (by kernel_rfl) ?_
    simp only [go_sem, f4, f5, f7, f10, g2, g3, v5, v4, List.length_map, sent_len, decide_true, reduceIte, Nat.reduceEqDiff, Nat.reduceAdd, Nat.reduceMul, Nat.reduceSub, Nat.reduceLT, Nat.reduceLeDiff, Nat.le_refl, Nat.zero_le, Nat.zero_add, Nat.add_zero, Nat.mul_one, splice_zero, Int.toNat_natCast, Int.natCast_nonneg, Int.reduceLE, Int.reduceLT, Int.reduceToNat, Int.reduceEq, Int.cast_ofNat_Int, ne_eq, not_true_eq_false, not_false_eq_true, imp_self, implies_true, true_implies, false_implies, and_self, List.length_map, List.length_drop]
    refine (len_at g5.hp).mono ?_
    rintro _ _ ⟨rfl, rfl⟩
    have e3 : (gone l l.length ys).l.length = l.length := by unfold gone; simp [sent_len, g4]
    simp only [go_sem, f4, f5, f7, f10, g2, g3, v5, v4, List.length_map, sent_len, decide_true, e3, reduceIte, Nat.reduceEqDiff, Nat.reduceAdd, Nat.reduceMul, Nat.reduceSub, Nat.reduceLT, Nat.reduceLeDiff, Nat.le_refl, Nat.zero_le, Nat.zero_add, Nat.add_zero, Nat.mul_one, splice_zero, Int.toNat_natCast, Int.natCast_nonneg, Int.reduceLE, Int.reduceLT, Int.reduceToNat, Int.reduceEq, Int.cast_ofNat_Int, ne_eq, not_true_eq_false, not_false_eq_true, imp_self, implies_true, true_implies, false_implies, and_self, List.length_map, List.length_drop]
    refine live_at.mono ?_
    rintro _ _ ⟨rfl, rfl⟩
    simp only [go_sem, f4, f5, f7, f10, g2, g3, v5, v4, List.length_map, sent_len, decide_true, reduceIte, Nat.reduceEqDiff, Nat.reduceAdd, Nat.reduceMul, Nat.reduceSub, Nat.reduceLT, Nat.reduceLeDiff, Nat.le_refl, Nat.zero_le, Nat.zero_add, Nat.add_zero, Nat.mul_one, splice_zero, Int.toNat_natCast, Int.natCast_nonneg, Int.reduceLE, Int.reduceLT, Int.reduceToNat, Int.reduceEq, Int.cast_ofNat_Int, ne_eq, not_true_eq_false, not_false_eq_true, imp_self, implies_true, true_implies, false_implies, and_self, List.length_map, List.length_drop]
    exact aRet_as (r := boo true) (by simp [aResult, aResL, aRes1, aResC, oneR, go_sem, f4, set_same]) rfl
end
theorem bl_of {n : Nat} : ∀ (es : List (List AV)), (∀ x ∈ es, Ty Try.prog (n + 2) 22 x) → ∃ l : List Byt, es = ls l ∧ ∀ b ∈ l, b.length ≤ 140737488351232
  | [], _ => ⟨[], rfl, fun a ha => by cases ha⟩
  | x :: es, h => by
    obtain ⟨l, rfl, hl⟩ := bl_of es fun y hy => h y (by simp [hy])
    obtain ⟨es, rfl, hlen, he⟩ := ty_sl Try.underlying22 (h x (by simp))
    obtain ⟨b, rfl⟩ := by_of es he
    have e1 : Try.prog.cellsOf 5 = 1 := by kernel_rfl
    have e2 : Try.prog.bytesOf 5 = 1 := by kernel_rfl
    rw [e2, byC_len] at hlen
    refine ⟨b :: l, by rw [e1]; rfl, fun a ha => ?_⟩
    rcases List.mem_cons.1 ha with rfl | ha
    · omega
    · exact hl a ha
end Go.Proofs.Ytebmjajdkhhhbaa
