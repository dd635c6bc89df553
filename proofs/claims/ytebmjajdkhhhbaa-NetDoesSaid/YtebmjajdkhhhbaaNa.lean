/-
  Messages on their way (package net): what its small functions compute.
  Conditions: none.
-/
import Derived.Test.YtebmjajdkhhhbaaTy
import Derived.Test.YtebmjajdkhhhbaaAvRow
import Derived.Test.YtebmjajdkhhhbaaAvElem
set_option linter.unusedVariables false
set_option linter.unusedSimpArgs false
namespace Go.Proofs.Ytebmjajdkhhhbaa
open Go Go.Av

abbrev ptr (b : Nat) : AV := .v (.pointer (some ⟨b, 0, none⟩))
abbrev int (n : Int) : AV := .v (.int .i64 n)
abbrev boo (b : Bool) : AV := .v (.bool b)
abbrev str (s : ByteArray) : AV := .v (.string s)
abbrev nilS : AV := .v (.slice none 0 0)
abbrev Byt := List UInt8
def byC (b : Byt) : List (List AV) := b.map byteEl
theorem byC_len (b : Byt) : (byC b).length = b.length := by simp [byC]

/-- A message. -/
structure Msg where
  num : Int
  to : ByteArray
  b : Byt
def Msg.cs (m : Msg) : List AV := [int m.num, str m.to, .sl 1 (byC m.b)]
theorem Msg.len (m : Msg) : m.cs.length = 3 := rfl
theorem Msg.one (m : Msg) : m.cs.all AV.one = true := rfl
theorem Msg.take (m : Msg) : m.cs.take 3 = m.cs := rfl
theorem Msg.at0 (m : Msg) : m.cs.getD 0 (.v undef) = int m.num := rfl
theorem Msg.at1 (m : Msg) : m.cs.getD 1 (.v undef) = str m.to := rfl
theorem Msg.at2 (m : Msg) : m.cs.getD 2 (.v undef) = .sl 1 (byC m.b) := rfl
theorem Msg.dr1 (m : Msg) : (m.cs.drop 1).getD 0 (.v undef) = str m.to := rfl
theorem Msg.dr2 (m : Msg) : (m.cs.drop 2).getD 0 (.v undef) = .sl 1 (byC m.b) := rfl
theorem msgs_get {l : List Msg} {i : Nat} (h : i < l.length) : (l.map Msg.cs).getD i [] = l[i].cs := by simp [List.getD_eq_getElem?_getD, h]

/-- What can be read of a slice: of a frozen one, or of one that the walk owns. -/
def Rd (q : Nat) (σ : St) (lv : AV) (es : List (List AV)) : Prop := lv = .sl q es ∨ LAt q σ lv es
theorem Rd.sl {q : Nat} {σ : St} {es : List (List AV)} : Rd q σ (.sl q es) es := .inl rfl

theorem lat_src {q : Nat} {σ : St} {lv : AV} {es : List (List AV)} (hq : 0 < q) (h : LAt q σ lv es) : src q true σ lv = some es := by
  rcases h with ⟨rfl, rfl⟩ | rfl | ⟨b, cap, rfl, hc, hb⟩
  · rfl
  · simp [src]
  · simp only [src, hb]
    rw [if_pos ⟨trivial, by simp, by simp⟩]
    simp
def nO (l : List Msg) (last : Int) : AObj := .cells [.sl 3 (l.map Msg.cs), int last, boo true]

section
variable {σ σ' : St} {p : Nat} {l : List Msg} {last : Int}
set_option maxRecDepth 100000

theorem none_at (h : σ p = some (nO l last)) : AT Try.prog 27 [ptr p] σ fun r σ' => r = boo false ∧ σ' = σ := by
  refine AT.of_body Try.func27 rfl (by decide) (by kernel_rfl) (by kernel_rfl) (Nat.le_of_ble_eq_true rfl) ?_
  have h' := h
  unfold nO at h'
  simp only [go_sem, r_block, h', reduceIte, Nat.reduceEqDiff, Nat.reduceAdd, Nat.reduceMul, Nat.reduceSub, Nat.reduceLT, Nat.reduceLeDiff, Nat.le_refl, Nat.zero_le, Nat.zero_add, Nat.add_zero, Nat.mul_one, splice_zero, Int.toNat_natCast, Int.natCast_nonneg, Int.reduceLE, Int.reduceLT, Int.reduceToNat, Int.reduceEq, Int.cast_ofNat_Int, ne_eq, not_true_eq_false, not_false_eq_true, imp_self, implies_true, true_implies, false_implies, and_self, List.length_map, List.length_drop]
  exact aRet_as (r := boo false) rfl ⟨rfl, rfl⟩

theorem new_at : AT Try.prog 10 [] σ fun r σ' => ∃ p, σ p = none ∧ r = ptr p ∧ σ' = σ.set p (nO [] 0) := by
  refine AT.of_body Try.func10 rfl (by decide) (by kernel_rfl) (by kernel_rfl) (Nat.le_of_ble_eq_true rfl) ?_
  simp only [go_sem, r_block, reduceIte, Nat.reduceEqDiff, Nat.reduceAdd, Nat.reduceMul, Nat.reduceSub, Nat.reduceLT, Nat.reduceLeDiff, Nat.le_refl, Nat.zero_le, Nat.zero_add, Nat.add_zero, Nat.mul_one, splice_zero, Int.toNat_natCast, Int.natCast_nonneg, Int.reduceLE, Int.reduceLT, Int.reduceToNat, Int.reduceEq, Int.cast_ofNat_Int, ne_eq, not_true_eq_false, not_false_eq_true, imp_self, implies_true, true_implies, false_implies, and_self, List.length_map, List.length_drop]
  refine aNew_intro fun b hb _ => ?_
  simp only [go_sem, r_block, reduceIte, Nat.reduceEqDiff, Nat.reduceAdd, Nat.reduceMul, Nat.reduceSub, Nat.reduceLT, Nat.reduceLeDiff, Nat.le_refl, Nat.zero_le, Nat.zero_add, Nat.add_zero, Nat.mul_one, splice_zero, Int.toNat_natCast, Int.natCast_nonneg, Int.reduceLE, Int.reduceLT, Int.reduceToNat, Int.reduceEq, Int.cast_ofNat_Int, ne_eq, not_true_eq_false, not_false_eq_true, imp_self, implies_true, true_implies, false_implies, and_self, List.length_map, List.length_drop]
  exact aRet_view (r := ptr b) rfl _ (σ.set b (nO [] 0)) (view_of (sv_set set_same (vws_cons (.nil 3) (vws_refl _)) fun x p hx hp => by rw [set_ne hx]; exact hp) (.refl _)) ⟨b, hb, rfl, rfl⟩

theorem len_at (h : σ p = some (nO l last)) : AT Try.prog 14 [ptr p] σ fun r σ' => r = int l.length ∧ σ' = σ := by
  refine AT.of_body Try.func14 rfl (by decide) (by kernel_rfl) (by kernel_rfl) (Nat.le_of_ble_eq_true rfl) ?_
  simp only [go_sem, r_block, reduceIte, Nat.reduceEqDiff, Nat.reduceAdd, Nat.reduceMul, Nat.reduceSub, Nat.reduceLT, Nat.reduceLeDiff, Nat.le_refl, Nat.zero_le, Nat.zero_add, Nat.add_zero, Nat.mul_one, splice_zero, Int.toNat_natCast, Int.natCast_nonneg, Int.reduceLE, Int.reduceLT, Int.reduceToNat, Int.reduceEq, Int.cast_ofNat_Int, ne_eq, not_true_eq_false, not_false_eq_true, imp_self, implies_true, true_implies, false_implies, and_self, List.length_map, List.length_drop]
  refine (none_at h).mono ?_
  rintro _ σ ⟨rfl, rfl⟩
  have h' := h
  unfold nO at h'
  simp only [go_sem, r_block, h', reduceIte, Nat.reduceEqDiff, Nat.reduceAdd, Nat.reduceMul, Nat.reduceSub, Nat.reduceLT, Nat.reduceLeDiff, Nat.le_refl, Nat.zero_le, Nat.zero_add, Nat.add_zero, Nat.mul_one, splice_zero, Int.toNat_natCast, Int.natCast_nonneg, Int.reduceLE, Int.reduceLT, Int.reduceToNat, Int.reduceEq, Int.cast_ofNat_Int, ne_eq, not_true_eq_false, not_false_eq_true, imp_self, implies_true, true_implies, false_implies, and_self, List.length_map, List.length_drop]
  exact aRet_as (r := int l.length) rfl ⟨rfl, rfl⟩

theorem last_at (h : σ p = some (nO l last)) : AT Try.prog 17 [ptr p] σ fun r σ' => r = int last ∧ σ' = σ := by
  refine AT.of_body Try.func17 rfl (by decide) (by kernel_rfl) (by kernel_rfl) (Nat.le_of_ble_eq_true rfl) ?_
  simp only [go_sem, r_block, reduceIte, Nat.reduceEqDiff, Nat.reduceAdd, Nat.reduceMul, Nat.reduceSub, Nat.reduceLT, Nat.reduceLeDiff, Nat.le_refl, Nat.zero_le, Nat.zero_add, Nat.add_zero, Nat.mul_one, splice_zero, Int.toNat_natCast, Int.natCast_nonneg, Int.reduceLE, Int.reduceLT, Int.reduceToNat, Int.reduceEq, Int.cast_ofNat_Int, ne_eq, not_true_eq_false, not_false_eq_true, imp_self, implies_true, true_implies, false_implies, and_self, List.length_map, List.length_drop]
  refine (none_at h).mono ?_
  rintro _ σ ⟨rfl, rfl⟩
  have h' := h
  unfold nO at h'
  simp only [go_sem, r_block, h', reduceIte, Nat.reduceEqDiff, Nat.reduceAdd, Nat.reduceMul, Nat.reduceSub, Nat.reduceLT, Nat.reduceLeDiff, Nat.le_refl, Nat.zero_le, Nat.zero_add, Nat.add_zero, Nat.mul_one, splice_zero, Int.toNat_natCast, Int.natCast_nonneg, Int.reduceLE, Int.reduceLT, Int.reduceToNat, Int.reduceEq, Int.cast_ofNat_Int, ne_eq, not_true_eq_false, not_false_eq_true, imp_self, implies_true, true_implies, false_implies, and_self, List.length_map, List.length_drop]
  exact aRet_as (r := int last) rfl ⟨rfl, rfl⟩

/-- Bytes, cloned: a row of one's own. -/
theorem bclone_at {lv : AV} {es : List (List AV)} (h : Rd 1 σ lv es) (hl : es.length ≤ 140737488355328) : AT Try.prog 32 [lv] σ fun r σ' => LAt 1 σ' r es ∧ Grow σ σ' r := by
  refine AT.of_body Try.func32 rfl (by decide) (by kernel_rfl) (by kernel_rfl) (Nat.le_of_ble_eq_true rfl) ?_
  have app : ∀ {x : AV} {K : AV → St → Prop}, src 1 true σ x = some es → (∀ lv' σ', LAt 1 σ' lv' es → Grow σ σ' lv' → K lv' σ') → aApp (tk Try.prog 22) σ (.fsl 1 []) x K := fun hx hk => by
    rw [tk22]
    refine aApp_by hx (by decide) (by decide) (by decide) (LAt.full.app (by simpa using hl) fun lv' σ' h1 h2 => ?_)
    have hno : ∀ x, ¬ Own (.fsl 1 []) x := fun x ⟨n, c, e⟩ => by cases e
    exact hk _ _ (by simpa using h1) fun y o hy => h2 y o hy (hno y)
  rcases h with rfl | h
  · simp only [go_sem, reduceIte, Nat.reduceEqDiff, Nat.reduceAdd, Nat.reduceMul, Nat.reduceSub, Nat.reduceLT, Nat.reduceLeDiff, Nat.le_refl, Nat.zero_le, Nat.zero_add, Nat.add_zero, Nat.mul_one, splice_zero, Int.toNat_natCast, Int.natCast_nonneg, Int.reduceLE, Int.reduceLT, Int.reduceToNat, Int.reduceEq, Int.cast_ofNat_Int, ne_eq, not_true_eq_false, not_false_eq_true, imp_self, implies_true, true_implies, false_implies, and_self, List.length_map, List.length_drop]
    refine ⟨fun he => ?_, fun he b => ?_⟩
    · rw [← tk22]
      refine app (by simp [src]) fun lv' σ' h1 h2 => ?_
      simp only [go_sem, reduceIte, Nat.reduceEqDiff, Nat.reduceAdd, Nat.reduceMul, Nat.reduceSub, Nat.reduceLT, Nat.reduceLeDiff, Nat.le_refl, Nat.zero_le, Nat.zero_add, Nat.add_zero, Nat.mul_one, splice_zero, Int.toNat_natCast, Int.natCast_nonneg, Int.reduceLE, Int.reduceLT, Int.reduceToNat, Int.reduceEq, Int.cast_ofNat_Int, ne_eq, not_true_eq_false, not_false_eq_true, imp_self, implies_true, true_implies, false_implies, and_self, List.length_map, List.length_drop]
      exact aRet_as (r := lv') rfl ⟨h1, h2⟩
    · refine aIf_bool (fun hb => ?_) (fun hb => ?_)
      · simp only [go_sem, reduceIte, Nat.reduceEqDiff, Nat.reduceAdd, Nat.reduceMul, Nat.reduceSub, Nat.reduceLT, Nat.reduceLeDiff, Nat.le_refl, Nat.zero_le, Nat.zero_add, Nat.add_zero, Nat.mul_one, splice_zero, Int.toNat_natCast, Int.natCast_nonneg, Int.reduceLE, Int.reduceLT, Int.reduceToNat, Int.reduceEq, Int.cast_ofNat_Int, ne_eq, not_true_eq_false, not_false_eq_true, imp_self, implies_true, true_implies, false_implies, and_self, List.length_map, List.length_drop]
        exact aRet_as (r := nilS) rfl ⟨.inl ⟨rfl, he⟩, .nil⟩
      · simp only [go_sem, reduceIte, Nat.reduceEqDiff, Nat.reduceAdd, Nat.reduceMul, Nat.reduceSub, Nat.reduceLT, Nat.reduceLeDiff, Nat.le_refl, Nat.zero_le, Nat.zero_add, Nat.add_zero, Nat.mul_one, splice_zero, Int.toNat_natCast, Int.natCast_nonneg, Int.reduceLE, Int.reduceLT, Int.reduceToNat, Int.reduceEq, Int.cast_ofNat_Int, ne_eq, not_true_eq_false, not_false_eq_true, imp_self, implies_true, true_implies, false_implies, and_self, List.length_map, List.length_drop]
        rw [← tk22]
        refine app (by simp [src]) fun lv' σ' h1 h2 => ?_
        simp only [go_sem, reduceIte, Nat.reduceEqDiff, Nat.reduceAdd, Nat.reduceMul, Nat.reduceSub, Nat.reduceLT, Nat.reduceLeDiff, Nat.le_refl, Nat.zero_le, Nat.zero_add, Nat.add_zero, Nat.mul_one, splice_zero, Int.toNat_natCast, Int.natCast_nonneg, Int.reduceLE, Int.reduceLT, Int.reduceToNat, Int.reduceEq, Int.cast_ofNat_Int, ne_eq, not_true_eq_false, not_false_eq_true, imp_self, implies_true, true_implies, false_implies, and_self, List.length_map, List.length_drop]
        exact aRet_as (r := lv') rfl ⟨h1, h2⟩
  have hsrc := lat_src (by decide) h
  have fe : ∀ {t : TypeId} {q : Nat} {es : List (List AV)} {K : AV → Prop}, aBin Try.prog .eql t (.fsl q es) nilS K = (isSl Try.prog t = true ∧ (es ≠ [] → K (.v (.bool false))) ∧ (es = [] → ∀ b, K (.v (.bool b)))) := _root_.id rfl
  rcases h with ⟨rfl, he⟩ | rfl | ⟨b, cap, rfl, hc, hb⟩
  · simp only [go_sem, reduceIte, Nat.reduceEqDiff, Nat.reduceAdd, Nat.reduceMul, Nat.reduceSub, Nat.reduceLT, Nat.reduceLeDiff, Nat.le_refl, Nat.zero_le, Nat.zero_add, Nat.add_zero, Nat.mul_one, splice_zero, Int.toNat_natCast, Int.natCast_nonneg, Int.reduceLE, Int.reduceLT, Int.reduceToNat, Int.reduceEq, Int.cast_ofNat_Int, ne_eq, not_true_eq_false, not_false_eq_true, imp_self, implies_true, true_implies, false_implies, and_self, List.length_map, List.length_drop]
    exact aRet_as (r := nilS) rfl ⟨.inl ⟨rfl, he⟩, .nil⟩
  · simp only [go_sem, fe, reduceIte, Nat.reduceEqDiff, Nat.reduceAdd, Nat.reduceMul, Nat.reduceSub, Nat.reduceLT, Nat.reduceLeDiff, Nat.le_refl, Nat.zero_le, Nat.zero_add, Nat.add_zero, Nat.mul_one, splice_zero, Int.toNat_natCast, Int.natCast_nonneg, Int.reduceLE, Int.reduceLT, Int.reduceToNat, Int.reduceEq, Int.cast_ofNat_Int, ne_eq, not_true_eq_false, not_false_eq_true, imp_self, implies_true, true_implies, false_implies, and_self, List.length_map, List.length_drop]
    refine ⟨fun he => ?_, fun he b => ?_⟩
    · rw [← tk22]
      refine app hsrc fun lv' σ' h1 h2 => ?_
      simp only [go_sem, reduceIte, Nat.reduceEqDiff, Nat.reduceAdd, Nat.reduceMul, Nat.reduceSub, Nat.reduceLT, Nat.reduceLeDiff, Nat.le_refl, Nat.zero_le, Nat.zero_add, Nat.add_zero, Nat.mul_one, splice_zero, Int.toNat_natCast, Int.natCast_nonneg, Int.reduceLE, Int.reduceLT, Int.reduceToNat, Int.reduceEq, Int.cast_ofNat_Int, ne_eq, not_true_eq_false, not_false_eq_true, imp_self, implies_true, true_implies, false_implies, and_self, List.length_map, List.length_drop]
      exact aRet_as (r := lv') rfl ⟨h1, h2⟩
    · refine aIf_bool (fun hb => ?_) (fun hb => ?_)
      · simp only [go_sem, reduceIte, Nat.reduceEqDiff, Nat.reduceAdd, Nat.reduceMul, Nat.reduceSub, Nat.reduceLT, Nat.reduceLeDiff, Nat.le_refl, Nat.zero_le, Nat.zero_add, Nat.add_zero, Nat.mul_one, splice_zero, Int.toNat_natCast, Int.natCast_nonneg, Int.reduceLE, Int.reduceLT, Int.reduceToNat, Int.reduceEq, Int.cast_ofNat_Int, ne_eq, not_true_eq_false, not_false_eq_true, imp_self, implies_true, true_implies, false_implies, and_self, List.length_map, List.length_drop]
        exact aRet_as (r := nilS) rfl ⟨.inl ⟨rfl, he⟩, .nil⟩
      · simp only [go_sem, reduceIte, Nat.reduceEqDiff, Nat.reduceAdd, Nat.reduceMul, Nat.reduceSub, Nat.reduceLT, Nat.reduceLeDiff, Nat.le_refl, Nat.zero_le, Nat.zero_add, Nat.add_zero, Nat.mul_one, splice_zero, Int.toNat_natCast, Int.natCast_nonneg, Int.reduceLE, Int.reduceLT, Int.reduceToNat, Int.reduceEq, Int.cast_ofNat_Int, ne_eq, not_true_eq_false, not_false_eq_true, imp_self, implies_true, true_implies, false_implies, and_self, List.length_map, List.length_drop]
        rw [← tk22]
        refine app hsrc fun lv' σ' h1 h2 => ?_
        simp only [go_sem, reduceIte, Nat.reduceEqDiff, Nat.reduceAdd, Nat.reduceMul, Nat.reduceSub, Nat.reduceLT, Nat.reduceLeDiff, Nat.le_refl, Nat.zero_le, Nat.zero_add, Nat.add_zero, Nat.mul_one, splice_zero, Int.toNat_natCast, Int.natCast_nonneg, Int.reduceLE, Int.reduceLT, Int.reduceToNat, Int.reduceEq, Int.cast_ofNat_Int, ne_eq, not_true_eq_false, not_false_eq_true, imp_self, implies_true, true_implies, false_implies, and_self, List.length_map, List.length_drop]
        exact aRet_as (r := lv') rfl ⟨h1, h2⟩
  · simp only [go_sem, reduceIte, Nat.reduceEqDiff, Nat.reduceAdd, Nat.reduceMul, Nat.reduceSub, Nat.reduceLT, Nat.reduceLeDiff, Nat.le_refl, Nat.zero_le, Nat.zero_add, Nat.add_zero, Nat.mul_one, splice_zero, Int.toNat_natCast, Int.natCast_nonneg, Int.reduceLE, Int.reduceLT, Int.reduceToNat, Int.reduceEq, Int.cast_ofNat_Int, ne_eq, not_true_eq_false, not_false_eq_true, imp_self, implies_true, true_implies, false_implies, and_self, List.length_map, List.length_drop]
    rw [← tk22]
    refine app hsrc fun lv' σ' h1 h2 => ?_
    simp only [go_sem, reduceIte, Nat.reduceEqDiff, Nat.reduceAdd, Nat.reduceMul, Nat.reduceSub, Nat.reduceLT, Nat.reduceLeDiff, Nat.le_refl, Nat.zero_le, Nat.zero_add, Nat.add_zero, Nat.mul_one, splice_zero, Int.toNat_natCast, Int.natCast_nonneg, Int.reduceLE, Int.reduceLT, Int.reduceToNat, Int.reduceEq, Int.cast_ofNat_Int, ne_eq, not_true_eq_false, not_false_eq_true, imp_self, implies_true, true_implies, false_implies, and_self, List.length_map, List.length_drop]
    exact aRet_as (r := lv') rfl ⟨h1, h2⟩
/-- .. and frozen. -/
theorem bclone_sl {lv : AV} {es : List (List AV)} (h : Rd 1 σ lv es) (hl : es.length ≤ 140737488355328) : AT Try.prog 32 [lv] σ fun r σ' => r = .sl 1 es ∧ σ' = σ :=
  (bclone_at h hl).post (by kernel_rfl) fun r σ' ⟨h1, h2⟩ => ⟨.sl 1 es, σ, view_of (sv_of fun x o hx => .inl (h2.sub x o hx)) (h1.vw_same fun x hx => h2.own hx), rfl, rfl⟩

/-- Messages, cloned: a row of one's own. -/
theorem mclone_at {es : List (List AV)} (hl : es.length ≤ 1000000) : AT Try.prog 31 [.sl 3 es] σ fun r σ' => LAt 3 σ' r es ∧ Grow σ σ' r := by
  refine AT.of_body Try.func31 rfl (by decide) (by kernel_rfl) (by kernel_rfl) (Nat.le_of_ble_eq_true rfl) ?_
  have app : ∀ {x : AV} {K : AV → St → Prop}, src 3 false σ x = some es → (∀ lv' σ', LAt 3 σ' lv' es → Grow σ σ' lv' → K lv' σ') → aApp (tk Try.prog 41) σ (.fsl 3 []) x K := fun hx hk => by
    rw [tk41]
    refine aApp_by hx (by decide) (by decide) (by decide) (LAt.full.app (by simp; omega) fun lv' σ' h1 h2 => ?_)
    have hno : ∀ x, ¬ Own (.fsl 3 []) x := fun x ⟨n, c, e⟩ => by cases e
    exact hk _ _ (by simpa using h1) fun y o hy => h2 y o hy (hno y)
  simp only [go_sem, reduceIte, Nat.reduceEqDiff, Nat.reduceAdd, Nat.reduceMul, Nat.reduceSub, Nat.reduceLT, Nat.reduceLeDiff, Nat.le_refl, Nat.zero_le, Nat.zero_add, Nat.add_zero, Nat.mul_one, splice_zero, Int.toNat_natCast, Int.natCast_nonneg, Int.reduceLE, Int.reduceLT, Int.reduceToNat, Int.reduceEq, Int.cast_ofNat_Int, ne_eq, not_true_eq_false, not_false_eq_true, imp_self, implies_true, true_implies, false_implies, and_self, List.length_map, List.length_drop]
  refine ⟨fun he => ?_, fun he b => ?_⟩
  · rw [← tk41]
    refine app (by simp [src]) fun lv' σ' h1 h2 => ?_
    simp only [go_sem, reduceIte, Nat.reduceEqDiff, Nat.reduceAdd, Nat.reduceMul, Nat.reduceSub, Nat.reduceLT, Nat.reduceLeDiff, Nat.le_refl, Nat.zero_le, Nat.zero_add, Nat.add_zero, Nat.mul_one, splice_zero, Int.toNat_natCast, Int.natCast_nonneg, Int.reduceLE, Int.reduceLT, Int.reduceToNat, Int.reduceEq, Int.cast_ofNat_Int, ne_eq, not_true_eq_false, not_false_eq_true, imp_self, implies_true, true_implies, false_implies, and_self, List.length_map, List.length_drop]
    exact aRet_as (r := lv') rfl ⟨h1, h2⟩
  · refine aIf_bool (fun hb => ?_) (fun hb => ?_)
    · simp only [go_sem, reduceIte, Nat.reduceEqDiff, Nat.reduceAdd, Nat.reduceMul, Nat.reduceSub, Nat.reduceLT, Nat.reduceLeDiff, Nat.le_refl, Nat.zero_le, Nat.zero_add, Nat.add_zero, Nat.mul_one, splice_zero, Int.toNat_natCast, Int.natCast_nonneg, Int.reduceLE, Int.reduceLT, Int.reduceToNat, Int.reduceEq, Int.cast_ofNat_Int, ne_eq, not_true_eq_false, not_false_eq_true, imp_self, implies_true, true_implies, false_implies, and_self, List.length_map, List.length_drop]
      exact aRet_as (r := nilS) rfl ⟨.inl ⟨rfl, he⟩, .nil⟩
    · simp only [go_sem, reduceIte, Nat.reduceEqDiff, Nat.reduceAdd, Nat.reduceMul, Nat.reduceSub, Nat.reduceLT, Nat.reduceLeDiff, Nat.le_refl, Nat.zero_le, Nat.zero_add, Nat.add_zero, Nat.mul_one, splice_zero, Int.toNat_natCast, Int.natCast_nonneg, Int.reduceLE, Int.reduceLT, Int.reduceToNat, Int.reduceEq, Int.cast_ofNat_Int, ne_eq, not_true_eq_false, not_false_eq_true, imp_self, implies_true, true_implies, false_implies, and_self, List.length_map, List.length_drop]
      rw [← tk41]
      refine app (by simp [src]) fun lv' σ' h1 h2 => ?_
      simp only [go_sem, reduceIte, Nat.reduceEqDiff, Nat.reduceAdd, Nat.reduceMul, Nat.reduceSub, Nat.reduceLT, Nat.reduceLeDiff, Nat.le_refl, Nat.zero_le, Nat.zero_add, Nat.add_zero, Nat.mul_one, splice_zero, Int.toNat_natCast, Int.natCast_nonneg, Int.reduceLE, Int.reduceLT, Int.reduceToNat, Int.reduceEq, Int.cast_ofNat_Int, ne_eq, not_true_eq_false, not_false_eq_true, imp_self, implies_true, true_implies, false_implies, and_self, List.length_map, List.length_drop]
      exact aRet_as (r := lv') rfl ⟨h1, h2⟩
theorem mclone_sl {es : List (List AV)} (hl : es.length ≤ 1000000) : AT Try.prog 31 [.sl 3 es] σ fun r σ' => r = .sl 3 es ∧ σ' = σ :=
  (mclone_at hl).post (by kernel_rfl) fun r σ' ⟨h1, h2⟩ => ⟨.sl 3 es, σ, view_of (sv_of fun x o hx => .inl (h2.sub x o hx)) (h1.vw_same fun x hx => h2.own hx), rfl, rfl⟩

/-- What holding a message against a number answers. -/
def cmpN (m : Msg) (k : Int) : Int := if m.num < k then -1 else if k < m.num then 1 else 0
theorem cmp_at (m : Msg) (k : Int) : AT Try.prog 37 [.agg m.cs, int k] σ fun r σ' => r = int (cmpN m k) ∧ σ' = σ := by
  refine AT.of_body Try.func37 rfl (by decide) (by kernel_rfl) (by kernel_rfl) (Nat.le_of_ble_eq_true rfl) ?_
  simp only [go_sem, m.one, reduceIte, Nat.reduceEqDiff, Nat.reduceAdd, Nat.reduceMul, Nat.reduceSub, Nat.reduceLT, Nat.reduceLeDiff, Nat.le_refl, Nat.zero_le, Nat.zero_add, Nat.add_zero, Nat.mul_one, splice_zero, Int.toNat_natCast, Int.natCast_nonneg, Int.reduceLE, Int.reduceLT, Int.reduceToNat, Int.reduceEq, Int.cast_ofNat_Int, ne_eq, not_true_eq_false, not_false_eq_true, imp_self, implies_true, true_implies, false_implies, and_self, List.length_map, List.length_drop]
  refine aNew_intro fun b hb _ => ?_
  have hd : ∀ r, View (σ.set b (.cells m.cs)) r σ r := fun r => view_drop (set_sub hb fun _ _ h => h)
  simp only [go_sem, r_block, set_same, m.len, m.at0, reduceIte, Nat.reduceEqDiff, Nat.reduceAdd, Nat.reduceMul, Nat.reduceSub, Nat.reduceLT, Nat.reduceLeDiff, Nat.le_refl, Nat.zero_le, Nat.zero_add, Nat.add_zero, Nat.mul_one, splice_zero, Int.toNat_natCast, Int.natCast_nonneg, Int.reduceLE, Int.reduceLT, Int.reduceToNat, Int.reduceEq, Int.cast_ofNat_Int, ne_eq, not_true_eq_false, not_false_eq_true, imp_self, implies_true, true_implies, false_implies, and_self, List.length_map, List.length_drop]
  refine aIf_by (fun h1 => ?_) (fun h1 => ?_)
  · simp only [go_sem, r_block, reduceIte, Nat.reduceEqDiff, Nat.reduceAdd, Nat.reduceMul, Nat.reduceSub, Nat.reduceLT, Nat.reduceLeDiff, Nat.le_refl, Nat.zero_le, Nat.zero_add, Nat.add_zero, Nat.mul_one, splice_zero, Int.toNat_natCast, Int.natCast_nonneg, Int.reduceLE, Int.reduceLT, Int.reduceToNat, Int.reduceEq, Int.cast_ofNat_Int, ne_eq, not_true_eq_false, not_false_eq_true, imp_self, implies_true, true_implies, false_implies, and_self, List.length_map, List.length_drop]
    exact aRet_view (r := int (-1)) rfl _ σ (hd _) ⟨by unfold cmpN; rw [if_pos h1], rfl⟩
  · simp only [go_sem, r_block, set_same, m.len, m.at0, reduceIte, Nat.reduceEqDiff, Nat.reduceAdd, Nat.reduceMul, Nat.reduceSub, Nat.reduceLT, Nat.reduceLeDiff, Nat.le_refl, Nat.zero_le, Nat.zero_add, Nat.add_zero, Nat.mul_one, splice_zero, Int.toNat_natCast, Int.natCast_nonneg, Int.reduceLE, Int.reduceLT, Int.reduceToNat, Int.reduceEq, Int.cast_ofNat_Int, ne_eq, not_true_eq_false, not_false_eq_true, imp_self, implies_true, true_implies, false_implies, and_self, List.length_map, List.length_drop]
    refine aIf_by (fun h2 => ?_) (fun h2 => ?_)
    · simp only [go_sem, r_block, reduceIte, Nat.reduceEqDiff, Nat.reduceAdd, Nat.reduceMul, Nat.reduceSub, Nat.reduceLT, Nat.reduceLeDiff, Nat.le_refl, Nat.zero_le, Nat.zero_add, Nat.add_zero, Nat.mul_one, splice_zero, Int.toNat_natCast, Int.natCast_nonneg, Int.reduceLE, Int.reduceLT, Int.reduceToNat, Int.reduceEq, Int.cast_ofNat_Int, ne_eq, not_true_eq_false, not_false_eq_true, imp_self, implies_true, true_implies, false_implies, and_self, List.length_map, List.length_drop]
      exact aRet_view (r := int 1) rfl _ σ (hd _) ⟨by unfold cmpN; rw [if_neg h1, if_pos h2], rfl⟩
    · simp only [go_sem, r_block, reduceIte, Nat.reduceEqDiff, Nat.reduceAdd, Nat.reduceMul, Nat.reduceSub, Nat.reduceLT, Nat.reduceLeDiff, Nat.le_refl, Nat.zero_le, Nat.zero_add, Nat.add_zero, Nat.mul_one, splice_zero, Int.toNat_natCast, Int.natCast_nonneg, Int.reduceLE, Int.reduceLT, Int.reduceToNat, Int.reduceEq, Int.cast_ofNat_Int, ne_eq, not_true_eq_false, not_false_eq_true, imp_self, implies_true, true_implies, false_implies, and_self, List.length_map, List.length_drop]
      exact aRet_view (r := int 0) rfl _ σ (hd _) ⟨by unfold cmpN; rw [if_neg h1, if_neg h2], rfl⟩

theorem mid_at {lo hi : Nat} (h : lo + hi ≤ 4000000) : IntKind.i64.wrap ((IntKind.u64.wrap (IntKind.i64.wrap (lo + hi))).fdiv (2 ^ min 1 64)) = (((lo + hi) / 2 : Nat) : Int) := by
  rw [wrap64 (x := (lo : Int) + hi) (by omega)]
  have e : IntKind.u64.wrap ((lo : Int) + hi) = ((lo + hi : Nat) : Int) := by
    unfold IntKind.wrap
    simp [IntKind.bits, IntKind.signed]
    omega
  rw [e, show ((2 : Int) ^ min 1 64) = 2 from rfl, Int.fdiv_eq_ediv_of_nonneg _ (by decide), wrap64 (by omega)]
  omega
/-- Numbers rise. -/
def Rise (l : List Msg) : Prop := ∀ i j (hi : i < j) (hj : j < l.length), (l[i]'(by omega)).num < l[j].num

theorem search_at (l : List Msg) (k : Int) (hr : Rise l) (hl : l.length ≤ 1000000) : AT Try.prog 36 [.sl 3 (l.map Msg.cs), int k, .v (.func (.func 37) #[] #[])] σ fun r σ' => σ' = σ ∧ ((∃ (i : Nat) (hi : i < l.length), r = .tup [int i, boo true] ∧ l[i].num = k) ∨ ∃ i, r = .tup [int i, boo false] ∧ ∀ m ∈ l, m.num ≠ k) := by
  refine AT.of_body Try.func36 rfl (by decide) (by kernel_rfl) (by kernel_rfl) (Nat.le_of_ble_eq_true rfl) ?_
  simp only [go_sem, r_block, reduceIte, Nat.reduceEqDiff, Nat.reduceAdd, Nat.reduceMul, Nat.reduceSub, Nat.reduceLT, Nat.reduceLeDiff, Nat.le_refl, Nat.zero_le, Nat.zero_add, Nat.add_zero, Nat.mul_one, splice_zero, Int.toNat_natCast, Int.natCast_nonneg, Int.reduceLE, Int.reduceLT, Int.reduceToNat, Int.reduceEq, Int.cast_ofNat_Int, ne_eq, not_true_eq_false, not_false_eq_true, imp_self, implies_true, true_implies, false_implies, and_self, List.length_map, List.length_drop]
  refine ⟨fun m fr σ' => ∃ lo hi : Nat, m = hi - lo ∧ lo ≤ hi ∧ hi ≤ l.length ∧ σ' = σ ∧ fr 0 = .sl 3 (l.map Msg.cs) ∧ fr 1 = int k ∧ fr 2 = .v (.func (.func 37) #[] #[]) ∧ fr 8 = int l.length ∧ fr 9 = int lo ∧ fr 10 = int hi ∧ (∀ j (hj : j < l.length), j < lo → l[j].num < k) ∧ (∀ j (hj : j < l.length), hi ≤ j → k ≤ l[j].num), ⟨_, 0, l.length, rfl, by omega, by omega, rfl, rfl, rfl, rfl, rfl, rfl, rfl, fun j hj h => by omega, fun j hj h => by omega⟩, ?_⟩
  rintro m fr σ ⟨lo, hi, rfl, h1, h2, rfl, f0, f1, f2, f8, f9, f10, g1, g2⟩
  simp only [go_sem, f0, f1, f2, f8, f9, f10, reduceIte, Nat.reduceEqDiff, Nat.reduceAdd, Nat.reduceMul, Nat.reduceSub, Nat.reduceLT, Nat.reduceLeDiff, Nat.le_refl, Nat.zero_le, Nat.zero_add, Nat.add_zero, Nat.mul_one, splice_zero, Int.toNat_natCast, Int.natCast_nonneg, Int.reduceLE, Int.reduceLT, Int.reduceToNat, Int.reduceEq, Int.cast_ofNat_Int, ne_eq, not_true_eq_false, not_false_eq_true, imp_self, implies_true, true_implies, false_implies, and_self, List.length_map, List.length_drop]
  refine aIf_by (fun hlt => ?_) (fun hlt => ?_)
  · simp only [go_sem, r_block, f0, f1, f2, f8, f9, f10, reduceIte, Nat.reduceEqDiff, Nat.reduceAdd, Nat.reduceMul, Nat.reduceSub, Nat.reduceLT, Nat.reduceLeDiff, Nat.le_refl, Nat.zero_le, Nat.zero_add, Nat.add_zero, Nat.mul_one, splice_zero, Int.toNat_natCast, Int.natCast_nonneg, Int.reduceLE, Int.reduceLT, Int.reduceToNat, Int.reduceEq, Int.cast_ofNat_Int, ne_eq, not_true_eq_false, not_false_eq_true, imp_self, implies_true, true_implies, false_implies, and_self, List.length_map, List.length_drop]
    rw [mid_at (by omega)]
    obtain ⟨md, hmd⟩ : ∃ md, md = (lo + hi) / 2 := ⟨_, rfl⟩
    rw [← hmd]
    have hml : md < l.length := by omega
    have eg := msgs_get hml
    simp only [go_sem, r_block, eg, Msg.len, Msg.take, reduceIte, Nat.reduceEqDiff, Nat.reduceAdd, Nat.reduceMul, Nat.reduceSub, Nat.reduceLT, Nat.reduceLeDiff, Nat.le_refl, Nat.zero_le, Nat.zero_add, Nat.add_zero, Nat.mul_one, splice_zero, Int.toNat_natCast, Int.natCast_nonneg, Int.reduceLE, Int.reduceLT, Int.reduceToNat, Int.reduceEq, Int.cast_ofNat_Int, ne_eq, not_true_eq_false, not_false_eq_true, imp_self, implies_true, true_implies, false_implies, and_self, List.length_map, List.length_drop]
    refine ⟨by omega, (cmp_at l[md] k).mono ?_⟩
    rintro _ σ ⟨rfl, rfl⟩
    simp only [go_sem, r_block, f0, f1, f2, f8, f9, f10, reduceIte, Nat.reduceEqDiff, Nat.reduceAdd, Nat.reduceMul, Nat.reduceSub, Nat.reduceLT, Nat.reduceLeDiff, Nat.le_refl, Nat.zero_le, Nat.zero_add, Nat.add_zero, Nat.mul_one, splice_zero, Int.toNat_natCast, Int.natCast_nonneg, Int.reduceLE, Int.reduceLT, Int.reduceToNat, Int.reduceEq, Int.cast_ofNat_Int, ne_eq, not_true_eq_false, not_false_eq_true, imp_self, implies_true, true_implies, false_implies, and_self, List.length_map, List.length_drop]
    refine aIf_by (fun hc => ?_) (fun hc => ?_)
    · simp only [go_sem, r_block, f0, f1, f2, f8, f9, f10, reduceIte, Nat.reduceEqDiff, Nat.reduceAdd, Nat.reduceMul, Nat.reduceSub, Nat.reduceLT, Nat.reduceLeDiff, Nat.le_refl, Nat.zero_le, Nat.zero_add, Nat.add_zero, Nat.mul_one, splice_zero, Int.toNat_natCast, Int.natCast_nonneg, Int.reduceLE, Int.reduceLT, Int.reduceToNat, Int.reduceEq, Int.cast_ofNat_Int, ne_eq, not_true_eq_false, not_false_eq_true, imp_self, implies_true, true_implies, false_implies, and_self, List.length_map, List.length_drop]
      rw [next64 (by omega)]
      have hm : l[md].num < k := by
        unfold cmpN at hc
        split at hc
        · assumption
        · split at hc <;> omega
      refine ⟨hi - (md + 1), by omega, md + 1, hi, rfl, by omega, h2, rfl, rfl, fun j hj hjm => ?_, g2⟩
      by_cases e : j = md
      · subst e; exact hm
      · exact Int.lt_trans (hr j md (by omega) hml) hm
    · simp only [go_sem, r_block, f0, f1, f2, f8, f9, f10, reduceIte, Nat.reduceEqDiff, Nat.reduceAdd, Nat.reduceMul, Nat.reduceSub, Nat.reduceLT, Nat.reduceLeDiff, Nat.le_refl, Nat.zero_le, Nat.zero_add, Nat.add_zero, Nat.mul_one, splice_zero, Int.toNat_natCast, Int.natCast_nonneg, Int.reduceLE, Int.reduceLT, Int.reduceToNat, Int.reduceEq, Int.cast_ofNat_Int, ne_eq, not_true_eq_false, not_false_eq_true, imp_self, implies_true, true_implies, false_implies, and_self, List.length_map, List.length_drop]
      have hm : k ≤ l[md].num := by
        unfold cmpN at hc
        split at hc
        · omega
        · split at hc <;> omega
      refine ⟨md - lo, by omega, lo, md, rfl, by omega, by omega, rfl, rfl, g1, fun j hj hjm => ?_⟩
      by_cases e : j = md
      · subst e; exact hm
      · exact Int.le_trans hm (Int.le_of_lt (hr md j (by omega) hj))
  · simp only [go_sem, r_block, f0, f1, f2, f8, f9, f10, reduceIte, Nat.reduceEqDiff, Nat.reduceAdd, Nat.reduceMul, Nat.reduceSub, Nat.reduceLT, Nat.reduceLeDiff, Nat.le_refl, Nat.zero_le, Nat.zero_add, Nat.add_zero, Nat.mul_one, splice_zero, Int.toNat_natCast, Int.natCast_nonneg, Int.reduceLE, Int.reduceLT, Int.reduceToNat, Int.reduceEq, Int.cast_ofNat_Int, ne_eq, not_true_eq_false, not_false_eq_true, imp_self, implies_true, true_implies, false_implies, and_self, List.length_map, List.length_drop]
    obtain rfl : lo = hi := by omega
    refine aIf_by (fun hlt2 => ?_) (fun hlt2 => ?_)
    · have hml : lo < l.length := by omega
      have eg := msgs_get hml
      simp only [go_sem, r_block, f0, f1, f2, f8, f9, f10, decide_eq_true hlt2, eg, Msg.len, Msg.take, reduceIte, Nat.reduceEqDiff, Nat.reduceAdd, Nat.reduceMul, Nat.reduceSub, Nat.reduceLT, Nat.reduceLeDiff, Nat.le_refl, Nat.zero_le, Nat.zero_add, Nat.add_zero, Nat.mul_one, splice_zero, Int.toNat_natCast, Int.natCast_nonneg, Int.reduceLE, Int.reduceLT, Int.reduceToNat, Int.reduceEq, Int.cast_ofNat_Int, ne_eq, not_true_eq_false, not_false_eq_true, imp_self, implies_true, true_implies, false_implies, and_self, List.length_map, List.length_drop]
      refine ⟨hlt2, (cmp_at l[lo] k).mono ?_⟩
      rintro _ σ ⟨rfl, rfl⟩
      simp only [go_sem, r_block, f0, f1, f2, f8, f9, f10, decide_eq_true hlt2, reduceIte, Nat.reduceEqDiff, Nat.reduceAdd, Nat.reduceMul, Nat.reduceSub, Nat.reduceLT, Nat.reduceLeDiff, Nat.le_refl, Nat.zero_le, Nat.zero_add, Nat.add_zero, Nat.mul_one, splice_zero, Int.toNat_natCast, Int.natCast_nonneg, Int.reduceLE, Int.reduceLT, Int.reduceToNat, Int.reduceEq, Int.cast_ofNat_Int, ne_eq, not_true_eq_false, not_false_eq_true, imp_self, implies_true, true_implies, false_implies, and_self, List.length_map, List.length_drop]
      by_cases e : l[lo].num = k
      · have ec : cmpN l[lo] k = 0 := by unfold cmpN; rw [if_neg (by omega), if_neg (by omega)]
        exact aRet_as (r := .tup [int lo, boo (decide (cmpN l[lo] k = 0))]) rfl ⟨rfl, .inl ⟨lo, hml, by rw [ec]; rfl, e⟩⟩
      · have ec : cmpN l[lo] k ≠ 0 := by unfold cmpN; split; decide; split; decide; omega
        refine aRet_as (r := .tup [int lo, boo (decide (cmpN l[lo] k = 0))]) rfl ⟨rfl, .inr ⟨lo, by rw [decide_eq_false ec], fun m hm => ?_⟩⟩
        obtain ⟨j, hj, rfl⟩ := List.getElem_of_mem hm
        have q1 := g2 lo hml (Nat.le_refl _)
        rcases Nat.lt_trichotomy j lo with h | h | h
        · have := g1 j hj h; omega
        · subst h; exact e
        · have := hr lo j h hj; omega
    · simp only [go_sem, r_block, f0, f1, f2, f8, f9, f10, decide_eq_false hlt2, reduceIte, Nat.reduceEqDiff, Nat.reduceAdd, Nat.reduceMul, Nat.reduceSub, Nat.reduceLT, Nat.reduceLeDiff, Nat.le_refl, Nat.zero_le, Nat.zero_add, Nat.add_zero, Nat.mul_one, splice_zero, Int.toNat_natCast, Int.natCast_nonneg, Int.reduceLE, Int.reduceLT, Int.reduceToNat, Int.reduceEq, Int.cast_ofNat_Int, ne_eq, not_true_eq_false, not_false_eq_true, imp_self, implies_true, true_implies, false_implies, and_self, List.length_map, List.length_drop]
      refine aRet_as (r := .tup [int lo, boo false]) rfl ⟨rfl, .inr ⟨lo, rfl, fun m hm => ?_⟩⟩
      obtain ⟨j, hj, rfl⟩ := List.getElem_of_mem hm
      have := g1 j hj (by omega)
      omega
end
end Go.Proofs.Ytebmjajdkhhhbaa
