/-
  Contracts of the functions that the statement reaches, and the plain laws of what they reckon.
  Conditions: none.
-/
import Derived.Test.YthdfpankebjleaaV1
import Derived.Test.YthdfpankebjleaaV2
import Derived.Test.YthdfpankebjleaaV3
import Derived.Test.YthdfpankebjleaaX1p
set_option linter.unusedVariables false
set_option linter.unusedSimpArgs false
set_option linter.unusedSectionVars false
set_option maxRecDepth 100000
/-
  In which order literals are looked for (package plan, and the document's): the small functions.
  Conditions: none.
-/
namespace Go.Proofs.Ythdfpankebjleaa
open Go Go.Av

instance memDec (s : ByteArray) (l : List ByteArray) : Decidable (s ∈ l) := @List.instDecidableMemOfLawfulBEq ByteArray instBEqOfDecidableEq inferInstance s l
/-- Is a term known by some variables? -/
def kn (t : Tm) (vs : List ByteArray) : Nat := if t ≠ .zero ∧ (t.v = emp ∨ t.v ∈ vs) then 1 else 0
def knS (l : List Tm) (vs : List ByteArray) : Nat := (l.map (kn · vs)).sum
def knL (l : Li) (vs : List ByteArray) : Nat := knS (l.by' :: l.ar) vs
/-- The variables, and a literal's. -/
def ofLi (l : Li) (vs : List ByteArray) : List ByteArray := vs ++ l.by'.v :: l.at'.v :: l.ar.map Tm.v
theorem kn_le (t : Tm) (vs : List ByteArray) : kn t vs ≤ 1 := by unfold kn; split <;> omega
theorem knS_le (vs : List ByteArray) : ∀ l : List Tm, knS l vs ≤ l.length
  | [] => by simp [knS]
  | t :: l => by
    have := knS_le vs l
    have := kn_le t vs
    simp only [knS, List.map_cons, List.sum_cons, List.length_cons] at *
    omega
theorem knS_take (vs : List ByteArray) {l : List Tm} {i : Nat} (h : i < l.length) : knS (l.take (i + 1)) vs = knS (l.take i) vs + kn l[i] vs := by
  unfold knS
  rw [List.take_add_one, List.getElem?_eq_getElem h]
  simp only [List.map_append, List.sum_append, Option.toList, List.map_cons, List.map_nil, List.sum_cons, List.sum_nil, Nat.add_zero]

section
variable {σ : St} {lv : AV}
/-- The same numbers. -/
theorem ints_at (l : List Int) (hl : l.length ≤ 1000000000) : AT Try.prog 10 [.sl 1 (inC l), .sl 1 (inC l)] σ fun r σ' => r = boo true ∧ σ' = σ := by
  refine AT.of_body Try.func10 rfl (by decide) (by kernel_rfl) (by kernel_rfl) (Nat.le_of_ble_eq_true rfl) ?_
  simp only [go_sem, r_block, reduceIte, Nat.reduceEqDiff, Nat.reduceAdd, Nat.reduceMul, Nat.reduceSub, Nat.reduceLT, Nat.reduceLeDiff, Int.reduceLE, Int.reduceLT, Int.reduceToNat, Int.reduceEq]
  refine ⟨fun m fr σ' => ∃ i : Nat, m = l.length - i ∧ i ≤ l.length ∧ σ' = σ ∧ fr 0 = .sl 1 (inC l) ∧ fr 1 = .sl 1 (inC l) ∧ fr 5 = int i, ⟨_, 0, rfl, by omega, rfl, rfl, rfl, rfl⟩, ?_⟩
  rintro m fr σ ⟨i, rfl, h1, rfl, f0, f1, f5⟩
  simp only [go_sem, f0, f1, f5, reduceIte, Nat.reduceEqDiff, Nat.reduceAdd, Nat.reduceMul, Nat.reduceSub, Nat.reduceLT, Nat.reduceLeDiff, Int.reduceLE, Int.reduceLT, Int.reduceToNat, Int.reduceEq]
  refine aIf_by (fun hlt => ?_) (fun hlt => ?_)
  · simp only [go_sem, r_block, f0, f1, f5, reduceIte, Nat.reduceEqDiff, Nat.reduceAdd, Nat.reduceMul, Nat.reduceSub, Nat.reduceLT, Nat.reduceLeDiff, Int.reduceLE, Int.reduceLT, Int.reduceToNat, Int.reduceEq]
    refine aDraw_plan [.rd 0 false, .rd 1 false, .rd 2 false, .rd 3 true, .rd 4 false, .rd 5 false, .rd 6 false, .rd 7 true, .rd 8 false] (by kernel_rfl) (by kernel_rfl) (by kernel_rfl) ?_
    have hi : i < l.length := by omega
    simp only [go_sem, r_block, f0, f1, f5, inC_get hi, next64 (show i < 9223372036854775807 by omega), reduceIte, Nat.reduceEqDiff, Nat.reduceAdd, Nat.reduceMul, Nat.reduceSub, Nat.reduceLT, Nat.reduceLeDiff, Int.reduceLE, Int.reduceLT, Int.reduceToNat, Int.reduceEq]
    exact ⟨by omega, by omega, l.length - (i + 1), by omega, i + 1, rfl, by omega, rfl⟩
  · simp only [go_sem, r_block, f0, f1, f5, reduceIte, Nat.reduceEqDiff, Nat.reduceAdd, Nat.reduceMul, Nat.reduceSub, Nat.reduceLT, Nat.reduceLeDiff, Int.reduceLE, Int.reduceLT, Int.reduceToNat, Int.reduceEq]
    exact aRet_as (r := boo true) rfl ⟨rfl, rfl⟩
/-- Is a number one of these? -/
theorem in_at {l : List Int} {n : Int} (hl : l.length ≤ 1000000000) (h : Rd 1 σ lv (inC l)) : AT Try.prog 32 [lv, int n] σ fun r σ' => r = boo (decide (n ∈ l)) ∧ σ' = σ := by
  refine AT.of_body Try.func32 rfl (by decide) (by kernel_rfl) (by kernel_rfl) (Nat.le_of_ble_eq_true rfl) ?_
  simp only [go_sem, r_block, reduceIte, Nat.reduceEqDiff, Nat.reduceAdd, Nat.reduceMul, Nat.reduceSub, Nat.reduceLT, Nat.reduceLeDiff, Int.reduceLE, Int.reduceLT, Int.reduceToNat, Int.reduceEq]
  refine ⟨fun m fr σ' => ∃ i : Nat, m = l.length - i ∧ i ≤ l.length ∧ σ' = σ ∧ fr 0 = lv ∧ fr 1 = int n ∧ fr 5 = int i ∧ n ∉ l.take i, ⟨_, 0, rfl, by omega, rfl, rfl, rfl, rfl, by simp⟩, ?_⟩
  rintro m fr σ ⟨i, rfl, h1, rfl, f0, f1, f5, g⟩
  simp only [go_sem, f0, f1, f5, h.len, reduceIte, Nat.reduceEqDiff, Nat.reduceAdd, Nat.reduceMul, Nat.reduceSub, Nat.reduceLT, Nat.reduceLeDiff, Int.reduceLE, Int.reduceLT, Int.reduceToNat, Int.reduceEq]
  refine aIf_by (fun hlt => ?_) (fun hlt => ?_)
  · have hi : i < l.length := by omega
    simp only [go_sem, r_block, f0, f1, f5, reduceIte, Nat.reduceEqDiff, Nat.reduceAdd, Nat.reduceMul, Nat.reduceSub, Nat.reduceLT, Nat.reduceLeDiff, Int.reduceLE, Int.reduceLT, Int.reduceToNat, Int.reduceEq]
    refine h.elem (by omega) (by rw [inC_len]; omega) fun p hp => ?_
    simp only [go_sem, r_block, reduceIte, Nat.reduceEqDiff, Nat.reduceAdd, Nat.reduceMul, Nat.reduceSub, Nat.reduceLT, Nat.reduceLeDiff, Int.reduceLE, Int.reduceLT, Int.reduceToNat, Int.reduceEq]
    refine hp.load1 (by omega) (by rw [Int.toNat_natCast, inC_get hi]; simp) ?_
    simp only [go_sem, r_block, f0, f1, f5, inC_get hi, reduceIte, Nat.reduceEqDiff, Nat.reduceAdd, Nat.reduceMul, Nat.reduceSub, Nat.reduceLT, Nat.reduceLeDiff, Int.reduceLE, Int.reduceLT, Int.reduceToNat, Int.reduceEq]
    refine aIf_by (fun he => ?_) (fun he => ?_)
    · simp only [go_sem, r_block, reduceIte, Nat.reduceEqDiff, Nat.reduceAdd, Nat.reduceMul, Nat.reduceSub, Nat.reduceLT, Nat.reduceLeDiff, Int.reduceLE, Int.reduceLT, Int.reduceToNat, Int.reduceEq]
      exact aRet_as (r := boo true) rfl ⟨by rw [decide_eq_true]; exact he ▸ List.getElem_mem hi, rfl⟩
    · simp only [go_sem, r_block, f0, f1, f5, next64 (show i < 9223372036854775807 by omega), reduceIte, Nat.reduceEqDiff, Nat.reduceAdd, Nat.reduceMul, Nat.reduceSub, Nat.reduceLT, Nat.reduceLeDiff, Int.reduceLE, Int.reduceLT, Int.reduceToNat, Int.reduceEq]
      refine ⟨l.length - (i + 1), by omega, i + 1, rfl, by omega, rfl, ?_⟩
      rw [List.take_add_one, List.getElem?_eq_getElem hi]
      simp only [Option.toList, List.mem_append, List.mem_singleton, not_or]
      exact ⟨g, fun e => he e.symm⟩
  · simp only [go_sem, r_block, f0, f1, f5, reduceIte, Nat.reduceEqDiff, Nat.reduceAdd, Nat.reduceMul, Nat.reduceSub, Nat.reduceLT, Nat.reduceLeDiff, Int.reduceLE, Int.reduceLT, Int.reduceToNat, Int.reduceEq]
    rw [List.take_of_length_le (by simp at hlt; omega)] at g
    exact aRet_as (r := boo false) rfl ⟨by rw [decide_eq_false g], rfl⟩
/-- Is a text one of these? -/
theorem is_at {l : List ByteArray} {s : ByteArray} (hl : l.length ≤ 1000000000) (h : Rd 1 σ lv (stC l)) : AT Try.prog 50 [lv, str s] σ fun r σ' => r = boo (decide (s ∈ l)) ∧ σ' = σ := by
  refine AT.of_body Try.func50 rfl (by decide) (by kernel_rfl) (by kernel_rfl) (Nat.le_of_ble_eq_true rfl) ?_
  simp only [go_sem, r_block, reduceIte, Nat.reduceEqDiff, Nat.reduceAdd, Nat.reduceMul, Nat.reduceSub, Nat.reduceLT, Nat.reduceLeDiff, Int.reduceLE, Int.reduceLT, Int.reduceToNat, Int.reduceEq]
  refine ⟨fun m fr σ' => ∃ i : Nat, m = l.length - i ∧ i ≤ l.length ∧ σ' = σ ∧ fr 0 = lv ∧ fr 1 = str s ∧ fr 5 = int i ∧ s ∉ l.take i, ⟨_, 0, rfl, by omega, rfl, rfl, rfl, rfl, by simp⟩, ?_⟩
  rintro m fr σ ⟨i, rfl, h1, rfl, f0, f1, f5, g⟩
  simp only [go_sem, f0, f1, f5, h.len, reduceIte, Nat.reduceEqDiff, Nat.reduceAdd, Nat.reduceMul, Nat.reduceSub, Nat.reduceLT, Nat.reduceLeDiff, Int.reduceLE, Int.reduceLT, Int.reduceToNat, Int.reduceEq]
  refine aIf_by (fun hlt => ?_) (fun hlt => ?_)
  · have hi : i < l.length := by omega
    simp only [go_sem, r_block, f0, f1, f5, reduceIte, Nat.reduceEqDiff, Nat.reduceAdd, Nat.reduceMul, Nat.reduceSub, Nat.reduceLT, Nat.reduceLeDiff, Int.reduceLE, Int.reduceLT, Int.reduceToNat, Int.reduceEq]
    refine h.elem (by omega) (by rw [stC_len]; omega) fun p hp => ?_
    simp only [go_sem, r_block, reduceIte, Nat.reduceEqDiff, Nat.reduceAdd, Nat.reduceMul, Nat.reduceSub, Nat.reduceLT, Nat.reduceLeDiff, Int.reduceLE, Int.reduceLT, Int.reduceToNat, Int.reduceEq]
    refine hp.load1 (by omega) (by rw [Int.toNat_natCast, stC_get hi]; simp) ?_
    simp only [go_sem, r_block, f0, f1, f5, stC_get hi, reduceIte, Nat.reduceEqDiff, Nat.reduceAdd, Nat.reduceMul, Nat.reduceSub, Nat.reduceLT, Nat.reduceLeDiff, Int.reduceLE, Int.reduceLT, Int.reduceToNat, Int.reduceEq]
    refine aIf_by (fun he => ?_) (fun he => ?_)
    · simp only [go_sem, r_block, reduceIte, Nat.reduceEqDiff, Nat.reduceAdd, Nat.reduceMul, Nat.reduceSub, Nat.reduceLT, Nat.reduceLeDiff, Int.reduceLE, Int.reduceLT, Int.reduceToNat, Int.reduceEq]
      exact aRet_as (r := boo true) rfl ⟨by rw [decide_eq_true]; exact he ▸ List.getElem_mem hi, rfl⟩
    · simp only [go_sem, r_block, f0, f1, f5, next64 (show i < 9223372036854775807 by omega), reduceIte, Nat.reduceEqDiff, Nat.reduceAdd, Nat.reduceMul, Nat.reduceSub, Nat.reduceLT, Nat.reduceLeDiff, Int.reduceLE, Int.reduceLT, Int.reduceToNat, Int.reduceEq]
      refine ⟨l.length - (i + 1), by omega, i + 1, rfl, by omega, rfl, ?_⟩
      rw [List.take_add_one, List.getElem?_eq_getElem hi]
      simp only [Option.toList, List.mem_append, List.mem_singleton, not_or]
      exact ⟨g, fun e => he e.symm⟩
  · simp only [go_sem, r_block, f0, f1, f5, reduceIte, Nat.reduceEqDiff, Nat.reduceAdd, Nat.reduceMul, Nat.reduceSub, Nat.reduceLT, Nat.reduceLeDiff, Int.reduceLE, Int.reduceLT, Int.reduceToNat, Int.reduceEq]
    rw [List.take_of_length_le (by simp at hlt; omega)] at g
    exact aRet_as (r := boo false) rfl ⟨by rw [decide_eq_false g], rfl⟩
/-- Where a text lies first. -/
theorem index_at {l : List ByteArray} {s : ByteArray} (hl : l.length ≤ 1000000000) (h : Rd 1 σ lv (stC l)) : AT Try.prog 78 [lv, str s] σ fun r σ' => σ' = σ ∧ ((s ∈ l ∧ ∃ i : Nat, r = int i) ∨ (s ∉ l ∧ r = int (-1))) := by
  refine AT.of_body Try.func78 rfl (by decide) (by kernel_rfl) (by kernel_rfl) (Nat.le_of_ble_eq_true rfl) ?_
  simp only [go_sem, r_block, h.len, reduceIte, Nat.reduceEqDiff, Nat.reduceAdd, Nat.reduceMul, Nat.reduceSub, Nat.reduceLT, Nat.reduceLeDiff, Int.reduceLE, Int.reduceLT, Int.reduceToNat, Int.reduceEq]
  refine ⟨fun m fr σ' => ∃ i : Nat, m = l.length - i ∧ i ≤ l.length ∧ σ' = σ ∧ fr 0 = lv ∧ fr 1 = str s ∧ fr 8 = int i ∧ fr 7 = int l.length ∧ s ∉ l.take i, ⟨_, 0, rfl, by omega, rfl, rfl, rfl, rfl, rfl, by simp⟩, ?_⟩
  rintro m fr σ ⟨i, rfl, h1, rfl, f0, f1, f8, f7, g⟩
  simp only [go_sem, f0, f1, f8, f7, reduceIte, Nat.reduceEqDiff, Nat.reduceAdd, Nat.reduceMul, Nat.reduceSub, Nat.reduceLT, Nat.reduceLeDiff, Int.reduceLE, Int.reduceLT, Int.reduceToNat, Int.reduceEq]
  refine aIf_by (fun hlt => ?_) (fun hlt => ?_)
  · have hi : i < l.length := by omega
    simp only [go_sem, r_block, f0, f1, f8, reduceIte, Nat.reduceEqDiff, Nat.reduceAdd, Nat.reduceMul, Nat.reduceSub, Nat.reduceLT, Nat.reduceLeDiff, Int.reduceLE, Int.reduceLT, Int.reduceToNat, Int.reduceEq]
    refine h.elem (by omega) (by rw [stC_len]; omega) fun p hp => ?_
    simp only [go_sem, r_block, reduceIte, Nat.reduceEqDiff, Nat.reduceAdd, Nat.reduceMul, Nat.reduceSub, Nat.reduceLT, Nat.reduceLeDiff, Int.reduceLE, Int.reduceLT, Int.reduceToNat, Int.reduceEq]
    refine hp.load1 (by omega) (by rw [Int.toNat_natCast, stC_get hi]; simp) ?_
    simp only [go_sem, r_block, f0, f1, f8, f7, stC_get hi, reduceIte, Nat.reduceEqDiff, Nat.reduceAdd, Nat.reduceMul, Nat.reduceSub, Nat.reduceLT, Nat.reduceLeDiff, Int.reduceLE, Int.reduceLT, Int.reduceToNat, Int.reduceEq]
    refine aIf_by (fun he => ?_) (fun he => ?_)
    · simp only [go_sem, r_block, reduceIte, Nat.reduceEqDiff, Nat.reduceAdd, Nat.reduceMul, Nat.reduceSub, Nat.reduceLT, Nat.reduceLeDiff, Int.reduceLE, Int.reduceLT, Int.reduceToNat, Int.reduceEq]
      exact aRet_as (r := int i) rfl ⟨rfl, .inl ⟨he ▸ List.getElem_mem hi, i, rfl⟩⟩
    · simp only [go_sem, r_block, f0, f1, f8, f7, next64 (show i < 9223372036854775807 by omega), reduceIte, Nat.reduceEqDiff, Nat.reduceAdd, Nat.reduceMul, Nat.reduceSub, Nat.reduceLT, Nat.reduceLeDiff, Int.reduceLE, Int.reduceLT, Int.reduceToNat, Int.reduceEq]
      refine ⟨l.length - (i + 1), by omega, i + 1, rfl, by omega, rfl, ?_⟩
      rw [List.take_add_one, List.getElem?_eq_getElem hi]
      simp only [Option.toList, List.mem_append, List.mem_singleton, not_or]
      exact ⟨g, fun e => he e⟩
  · simp only [go_sem, r_block, f0, f1, f8, reduceIte, Nat.reduceEqDiff, Nat.reduceAdd, Nat.reduceMul, Nat.reduceSub, Nat.reduceLT, Nat.reduceLeDiff, Int.reduceLE, Int.reduceLT, Int.reduceToNat, Int.reduceEq]
    rw [List.take_of_length_le (by omega)] at g
    exact aRet_as (r := int (-1)) rfl ⟨rfl, .inr ⟨g, rfl⟩⟩
theorem has_at {l : List ByteArray} {s : ByteArray} (hl : l.length ≤ 1000000000) (h : Rd 1 σ lv (stC l)) : AT Try.prog 49 [lv, str s] σ fun r σ' => r = boo (decide (s ∈ l)) ∧ σ' = σ := by
  refine AT.of_body Try.func49 rfl (by decide) (by kernel_rfl) (by kernel_rfl) (Nat.le_of_ble_eq_true rfl) ?_
  simp only [go_sem, r_block, reduceIte, Nat.reduceEqDiff, Nat.reduceAdd, Nat.reduceMul, Nat.reduceSub, Nat.reduceLT, Nat.reduceLeDiff, Int.reduceLE, Int.reduceLT, Int.reduceToNat, Int.reduceEq]
  refine (index_at hl h).mono ?_
  rintro _ σ ⟨rfl, hs⟩
  rcases hs with ⟨hs, i, rfl⟩ | ⟨hs, rfl⟩
  · simp only [go_sem, r_block, reduceIte, Nat.reduceEqDiff, Nat.reduceAdd, Nat.reduceMul, Nat.reduceSub, Nat.reduceLT, Nat.reduceLeDiff, Int.reduceLE, Int.reduceLT, Int.reduceToNat, Int.reduceEq]
    exact aRet_as (r := boo (decide ((0 : Int) ≤ i))) rfl ⟨by rw [decide_eq_true hs, decide_eq_true (by omega)], rfl⟩
  · simp only [go_sem, r_block, reduceIte, Nat.reduceEqDiff, Nat.reduceAdd, Nat.reduceMul, Nat.reduceSub, Nat.reduceLT, Nat.reduceLeDiff, Int.reduceLE, Int.reduceLT, Int.reduceToNat, Int.reduceEq]
    exact aRet_as (r := boo (decide ((0 : Int) ≤ -1))) rfl ⟨by rw [decide_eq_false hs]; rfl, rfl⟩
theorem tm_ne {K : AV → Prop} {t : Tm} (h : K (boo (!decide (t = .zero)))) : aAgg Try.prog true 25 (.agg t.cs) (.agg Tm.zero.cs) K := by
  refine agg_by (ls := [.s, .b, .i .i64, .s]) (vs := [.string t.v, .bool t.b, .int .i64 t.n, .string t.s]) (ws := [.string emp, .bool false, .int .i64 0, .string emp]) (by kernel_rfl) (by kernel_rfl) (by kernel_rfl) rfl rfl rfl rfl (by simp [Fit, Leaf.ok]) (by simp [Fit, Leaf.ok]) ?_
  rcases t with ⟨v, b, n, s⟩
  simpa [eqL, eqLeaf, Tm.zero] using h
end
end Go.Proofs.Ythdfpankebjleaa

/-
  In which order literals are looked for: what is known of a literal.
  Conditions: none.
-/
namespace Go.Proofs.Ythdfpankebjleaa
open Go Go.Av

section
variable {σ : St} {lv : AV} {vs : List ByteArray}
/-- Of a term, the document. -/
theorem known_at (t : Tm) (hl : vs.length ≤ 1000000000) (h : Rd 1 σ lv (stC vs)) : AT Try.prog 31 [.agg t.cs, lv] σ fun r σ' => r = int (kn t vs) ∧ σ' = σ := by
  refine AT.of_body Try.func31 rfl (by decide) (by kernel_rfl) (by kernel_rfl) (Nat.le_of_ble_eq_true rfl) ?_
  simp only [go_sem, reduceIte, Nat.reduceEqDiff, Nat.reduceAdd, Nat.reduceMul, Nat.reduceSub, Nat.reduceLT, Nat.reduceLeDiff, Int.reduceLE, Int.reduceLT, Int.reduceToNat, Int.reduceEq]
  refine aNew_intro fun b hb _ => ?_
  have hd : ∀ r, View (σ.set b (.cells t.cs)) r σ r := fun r => view_drop (set_sub hb fun _ _ h => h)
  have h' : Rd 1 (σ.set b (.cells t.cs)) lv (stC vs) := h.keep fun x o hx => set_sub hb (fun _ _ h => h) x o hx
  simp only [go_sem, r_block, set_same, reduceIte, Nat.reduceEqDiff, Nat.reduceAdd, Nat.reduceMul, Nat.reduceSub, Nat.reduceLT, Nat.reduceLeDiff, Int.reduceLE, Int.reduceLT, Int.reduceToNat, Int.reduceEq]
  refine tm_ne ?_
  by_cases h1 : t = .zero
  · simp only [go_sem, r_block, decide_eq_true h1, Bool.not_true, reduceIte, Nat.reduceEqDiff, Nat.reduceAdd, Nat.reduceMul, Nat.reduceSub, Nat.reduceLT, Nat.reduceLeDiff, Int.reduceLE, Int.reduceLT, Int.reduceToNat, Int.reduceEq]
    exact aRet_view (r := int 0) rfl _ σ (hd _) ⟨by unfold kn; rw [if_neg (fun h => h.1 h1)]; rfl, rfl⟩
  by_cases h2 : t.v = emp
  · simp only [go_sem, r_block, decide_eq_false h1, Bool.not_false, set_same, decide_eq_true h2, reduceIte, Nat.reduceEqDiff, Nat.reduceAdd, Nat.reduceMul, Nat.reduceSub, Nat.reduceLT, Nat.reduceLeDiff, Int.reduceLE, Int.reduceLT, Int.reduceToNat, Int.reduceEq]
    exact aRet_view (r := int 1) rfl _ σ (hd _) ⟨by unfold kn; rw [if_pos ⟨h1, .inl h2⟩]; rfl, rfl⟩
  · simp only [go_sem, r_block, decide_eq_false h1, Bool.not_false, set_same, decide_eq_false h2, reduceIte, Nat.reduceEqDiff, Nat.reduceAdd, Nat.reduceMul, Nat.reduceSub, Nat.reduceLT, Nat.reduceLeDiff, Int.reduceLE, Int.reduceLT, Int.reduceToNat, Int.reduceEq]
    refine (is_at hl h').mono ?_
    rintro _ σ ⟨rfl, rfl⟩
    simp only [go_sem, r_block, decide_eq_false h1, Bool.not_false, decide_eq_false h2, reduceIte, Nat.reduceEqDiff, Nat.reduceAdd, Nat.reduceMul, Nat.reduceSub, Nat.reduceLT, Nat.reduceLeDiff, Int.reduceLE, Int.reduceLT, Int.reduceToNat, Int.reduceEq]
    refine aIf_by (fun h3 => ?_) (fun h3 => ?_)
    · simp only [go_sem, r_block, reduceIte, Nat.reduceEqDiff, Nat.reduceAdd, Nat.reduceMul, Nat.reduceSub, Nat.reduceLT, Nat.reduceLeDiff, Int.reduceLE, Int.reduceLT, Int.reduceToNat, Int.reduceEq]
      exact aRet_view (r := int 1) rfl _ _ (hd _) ⟨by unfold kn; rw [if_pos ⟨h1, .inr h3⟩]; rfl, rfl⟩
    · simp only [go_sem, r_block, reduceIte, Nat.reduceEqDiff, Nat.reduceAdd, Nat.reduceMul, Nat.reduceSub, Nat.reduceLT, Nat.reduceLeDiff, Int.reduceLE, Int.reduceLT, Int.reduceToNat, Int.reduceEq]
      exact aRet_view (r := int 0) rfl _ _ (hd _) ⟨by unfold kn; rw [if_neg (fun h => h.2.elim h2 h3)]; rfl, rfl⟩
/-- Of a literal, the plan. -/
theorem knows_at (l : Li) (ha : l.ar.length ≤ 1000000) (hl : vs.length ≤ 1000000000) (h : Rd 1 σ lv (stC vs)) : AT Try.prog 29 [.agg l.cs, lv] σ fun r σ' => r = int (knL l vs) ∧ σ' = σ := by
  refine AT.of_body Try.func29 rfl (by decide) (by kernel_rfl) (by kernel_rfl) (Nat.le_of_ble_eq_true rfl) ?_
  simp only [go_sem, reduceIte, Nat.reduceEqDiff, Nat.reduceAdd, Nat.reduceMul, Nat.reduceSub, Nat.reduceLT, Nat.reduceLeDiff, Int.reduceLE, Int.reduceLT, Int.reduceToNat, Int.reduceEq]
  refine aNew_intro fun b hb _ => ?_
  simp only [go_sem, r_block, set_same, reduceIte, Nat.reduceEqDiff, Nat.reduceAdd, Nat.reduceMul, Nat.reduceSub, Nat.reduceLT, Nat.reduceLeDiff, Int.reduceLE, Int.reduceLT, Int.reduceToNat, Int.reduceEq]
  refine aApp_by (ys := tmC l.ar) (by simp [src]) (by decide) (by decide) (by decide) (LAt.full.app (by rw [tmC_len]; simp; omega) fun lw σ1 hw hs => ?_)
  have hno : ∀ x, ¬ Own (.fsl 4 [l.by'.cs]) x := fun x ⟨n, c, e⟩ => by cases e
  have hs1 : ∀ x o, σ x = some o → σ1 x = some o := fun x o hx => (hs x o (set_sub hb (fun _ _ h => h) x o hx) (hno x)).1
  have hw : LAt 4 σ1 lw (tmC (l.by' :: l.ar)) := hw
  obtain ⟨ts, hts⟩ : ∃ ts, ts = l.by' :: l.ar := ⟨_, rfl⟩
  have htl : ts.length ≤ 1000001 := by subst hts; simp; omega
  rw [← hts] at hw
  simp only [go_sem, r_block, hw.len, reduceIte, Nat.reduceEqDiff, Nat.reduceAdd, Nat.reduceMul, Nat.reduceSub, Nat.reduceLT, Nat.reduceLeDiff, Int.reduceLE, Int.reduceLT, Int.reduceToNat, Int.reduceEq]
  refine ⟨fun m fr σ' => ∃ i : Nat, m = ts.length - i ∧ i ≤ ts.length ∧ (∀ x o, σ1 x = some o → σ' x = some o) ∧ fr 1 = lv ∧ fr 13 = lw ∧ fr 14 = int ts.length ∧ fr 15 = int i ∧ fr 5 = int (knS (ts.take i) vs), ⟨_, 0, rfl, by omega, fun _ _ h => h, rfl, rfl, rfl, rfl, rfl⟩, ?_⟩
  clear hb
  rintro m fr σ2 ⟨i, rfl, h1, h2, f1, f13, f14, f15, f5⟩
  simp only [go_sem, f13, f14, f15, reduceIte, Nat.reduceEqDiff, Nat.reduceAdd, Nat.reduceMul, Nat.reduceSub, Nat.reduceLT, Nat.reduceLeDiff, Int.reduceLE, Int.reduceLT, Int.reduceToNat, Int.reduceEq]
  refine aIf_by (fun hlt => ?_) (fun hlt => ?_)
  · have hi : i < ts.length := by omega
    have hw2 : LAt 4 σ2 lw (tmC ts) := hw.keep fun x o hx _ => h2 x o hx
    simp only [go_sem, r_block, f13, f15, reduceIte, Nat.reduceEqDiff, Nat.reduceAdd, Nat.reduceMul, Nat.reduceSub, Nat.reduceLT, Nat.reduceLeDiff, Int.reduceLE, Int.reduceLT, Int.reduceToNat, Int.reduceEq]
    refine hw2.elem (by omega) (by rw [tmC_len]; omega) fun p hp => ?_
    simp only [go_sem, r_block, reduceIte, Nat.reduceEqDiff, Nat.reduceAdd, Nat.reduceMul, Nat.reduceSub, Nat.reduceLT, Nat.reduceLeDiff, Int.reduceLE, Int.reduceLT, Int.reduceToNat, Int.reduceEq]
    refine hp.load (by omega) (by rw [Int.toNat_natCast, tmC_get hi]; exact Nat.le_refl 4) ?_
    simp only [go_sem, tmC_get hi, reduceIte, Nat.reduceEqDiff, Nat.reduceAdd, Nat.reduceMul, Nat.reduceSub, Nat.reduceLT, Nat.reduceLeDiff, Int.reduceLE, Int.reduceLT, Int.reduceToNat, Int.reduceEq]
    refine aNew_intro fun c hc hcn => ?_
    have h3 : ∀ x o, σ1 x = some o → x ≠ c := fun x o hx => hcn x o (h2 x o hx)
    have e : knS (ts.take (i + 1)) vs = _ := knS_take vs hi
    have hk := knS_le vs (ts.take i)
    have hk2 := kn_le ts[i] vs
    rw [List.length_take] at hk
    simp only [go_sem, r_block, set_same, reduceIte, Nat.reduceEqDiff, Nat.reduceAdd, Nat.reduceMul, Nat.reduceSub, Nat.reduceLT, Nat.reduceLeDiff, Int.reduceLE, Int.reduceLT, Int.reduceToNat, Int.reduceEq]
    refine tm_ne ?_
    have go : ∀ x o, σ1 x = some o → (σ2.set c (.cells ts[i].cs)) x = some o := fun x o hx => by
      rw [set_ne (h3 x o hx)]; exact h2 x o hx
    have hr : Rd 1 (σ2.set c (.cells ts[i].cs)) lv (stC vs) := h.keep fun x o hx => go x o (hs1 x o hx)
    by_cases g1 : ts[i] = .zero
    · have ek : kn ts[i] vs = 0 := by unfold kn; rw [if_neg (fun h => h.1 g1)]
      simp only [go_sem, r_block, decide_eq_true g1, Bool.not_true, f15, f14, f13, f5, f1, next64 (show i < 9223372036854775807 by omega), reduceIte, Nat.reduceEqDiff, Nat.reduceAdd, Nat.reduceMul, Nat.reduceSub, Nat.reduceLT, Nat.reduceLeDiff, Int.reduceLE, Int.reduceLT, Int.reduceToNat, Int.reduceEq]
      refine ⟨ts.length - (i + 1), by omega, i + 1, rfl, by omega, go, rfl, by rw [e, ek]; rfl⟩
    by_cases g2 : ts[i].v = emp
    · have ek : kn ts[i] vs = 1 := by unfold kn; rw [if_pos ⟨g1, .inl g2⟩]
      simp only [go_sem, r_block, decide_eq_false g1, Bool.not_false, set_same, decide_eq_true g2, f15, f14, f13, f5, f1, next64 (show i < 9223372036854775807 by omega), next64 (show knS (ts.take i) vs < 9223372036854775807 by omega), reduceIte, Nat.reduceEqDiff, Nat.reduceAdd, Nat.reduceMul, Nat.reduceSub, Nat.reduceLT, Nat.reduceLeDiff, Int.reduceLE, Int.reduceLT, Int.reduceToNat, Int.reduceEq]
      refine ⟨ts.length - (i + 1), by omega, i + 1, rfl, by omega, go, rfl, by rw [e, ek]⟩
    · simp only [go_sem, r_block, decide_eq_false g1, Bool.not_false, set_same, decide_eq_false g2, f1, reduceIte, Nat.reduceEqDiff, Nat.reduceAdd, Nat.reduceMul, Nat.reduceSub, Nat.reduceLT, Nat.reduceLeDiff, Int.reduceLE, Int.reduceLT, Int.reduceToNat, Int.reduceEq]
      refine (has_at hl hr).mono ?_
      rintro _ σ3 ⟨rfl, rfl⟩
      simp only [go_sem, r_block, decide_eq_false g1, Bool.not_false, decide_eq_false g2, reduceIte, Nat.reduceEqDiff, Nat.reduceAdd, Nat.reduceMul, Nat.reduceSub, Nat.reduceLT, Nat.reduceLeDiff, Int.reduceLE, Int.reduceLT, Int.reduceToNat, Int.reduceEq]
      refine aIf_by (fun g3 => ?_) (fun g3 => ?_)
      · have ek : kn ts[i] vs = 1 := by unfold kn; rw [if_pos ⟨g1, .inr g3⟩]
        simp only [go_sem, r_block, f15, f14, f13, f5, f1, next64 (show i < 9223372036854775807 by omega), next64 (show knS (ts.take i) vs < 9223372036854775807 by omega), reduceIte, Nat.reduceEqDiff, Nat.reduceAdd, Nat.reduceMul, Nat.reduceSub, Nat.reduceLT, Nat.reduceLeDiff, Int.reduceLE, Int.reduceLT, Int.reduceToNat, Int.reduceEq]
        exact ⟨ts.length - (i + 1), by omega, i + 1, rfl, by omega, go, rfl, by rw [e, ek]⟩
      · have ek : kn ts[i] vs = 0 := by unfold kn; rw [if_neg (fun h => h.2.elim g2 g3)]
        simp only [go_sem, r_block, f15, f14, f13, f5, f1, next64 (show i < 9223372036854775807 by omega), reduceIte, Nat.reduceEqDiff, Nat.reduceAdd, Nat.reduceMul, Nat.reduceSub, Nat.reduceLT, Nat.reduceLeDiff, Int.reduceLE, Int.reduceLT, Int.reduceToNat, Int.reduceEq]
        exact ⟨ts.length - (i + 1), by omega, i + 1, rfl, by omega, go, rfl, by rw [e, ek]; rfl⟩
  · simp only [go_sem, r_block, f5, reduceIte, Nat.reduceEqDiff, Nat.reduceAdd, Nat.reduceMul, Nat.reduceSub, Nat.reduceLT, Nat.reduceLeDiff, Int.reduceLE, Int.reduceLT, Int.reduceToNat, Int.reduceEq]
    rw [List.take_of_length_le (by omega)]
    refine aRet_view (r := int (knS ts vs)) rfl _ σ (view_drop fun x o hx => h2 x o (hs1 x o hx)) ⟨by rw [hts]; rfl, rfl⟩
end
end Go.Proofs.Ythdfpankebjleaa

/-
  Two slices in variables that a closure writes; the closure of the plan's order.
  Conditions: none.
-/
namespace Go.Proofs.Ythdfpankebjleaa
open Go Go.Av

/-- A variable in memory that holds a slice. -/
structure CV (q : Nat) (σ : St) (p : Nat) (lv : AV) (es : List (List AV)) : Prop where
  cell : σ p = some (.cells [lv])
  lat : LAt q σ lv es
/-- A block that is none of the variable's. -/
def Off (p : Nat) (lv : AV) (x : Nat) : Prop := x ≠ p ∧ ¬ Own lv x
section
variable {q : Nat} {σ σ' σ1 : St} {p : Nat} {lv lw : AV} {es es' : List (List AV)}
theorem CV.keep (h : CV q σ p lv es) (hs : ∀ x o, σ x = some o → ¬ Off p lv x → σ' x = some o) : CV q σ' p lv es :=
  ⟨hs _ _ h.cell fun e => e.1 rfl, h.lat.keep fun x o hx ho => hs x o hx fun e => e.2 ho⟩
theorem CV.some (h : CV q σ p lv es) {x : Nat} (hx : ¬ Off p lv x) : ∃ o, σ x = Option.some o := by
  by_cases e : x = p
  · exact ⟨_, e ▸ h.cell⟩
  · by_cases e2 : Own lv x
    · obtain ⟨c, hc⟩ := h.lat.own_rows e2
      exact ⟨_, hc⟩
    · exact absurd ⟨e, e2⟩ hx
theorem CV.off (h : CV q σ p lv es) {x : Nat} {ob : AObj} (hx : σ x = Option.some ob) (n1 : ∀ a, ob ≠ .cells [a]) (n2 : ∀ es f c, ob ≠ .rows q es f c) : Off p lv x :=
  ⟨fun e => by subst e; exact n1 _ (Option.some.inj (hx.symm.trans h.cell)), fun e => by obtain ⟨c, hc⟩ := h.lat.own_rows e; exact n2 _ _ _ (Option.some.inj (hx.symm.trans hc))⟩
theorem CV.step (h : CV q σ p lv es) (hw : LAt q σ1 lw es') (hs : ∀ x o, σ x = Option.some o → ¬ Own lv x → σ1 x = Option.some o ∧ ¬ Own lw x) :
    CV q (σ1.set p (.cells [lw])) p lw es' ∧ ∀ x o, σ x = Option.some o → Off p lv x → (σ1.set p (.cells [lw])) x = Option.some o ∧ Off p lw x := by
  have h1 := hs p _ h.cell (h.lat.not_own h.cell)
  refine ⟨⟨set_same, lat_set hw h1.1 h1.2⟩, fun x o hx ho => ?_⟩
  have h2 := hs x o hx ho.2
  exact ⟨by rw [set_ne ho.1]; exact h2.1, ho.1, h2.2⟩
end

/-- The numbers that are out, and the variables that are known; nothing of β is touched. -/
def PO (β σ : St) (o v : Nat) (out : List Int) (vs : List ByteArray) : Prop :=
  ∃ lo lw, CV 1 σ o lo (inC out) ∧ CV 1 σ v lw (stC vs) ∧ (∀ x, Off o lo x ∨ Off v lw x) ∧ ∀ x p, β x = some p → σ x = some p ∧ Off o lo x ∧ Off v lw x
section
variable {β σ : St} {o v : Nat} {ou : List Int} {vs : List ByteArray}
theorem PO.sub (h : PO β σ o v ou vs) : ∀ x p, β x = some p → σ x = some p := by
  obtain ⟨lo, lw, h1, h2, h3, h4⟩ := h
  exact fun x p hx => (h4 x p hx).1
theorem PO.keep (h : PO β σ o v ou vs) {σ' : St} (hs : ∀ x p, σ x = some p → σ' x = some p) : PO β σ' o v ou vs := by
  obtain ⟨lo, lw, h1, h2, h3, h4⟩ := h
  exact ⟨lo, lw, h1.keep fun x p hx _ => hs x p hx, h2.keep fun x p hx _ => hs x p hx, h3, fun x p hx => ⟨hs x p (h4 x p hx).1, (h4 x p hx).2⟩⟩
theorem PO.weak (h : PO β σ o v ou vs) {γ : St} (hs : ∀ x p, γ x = some p → β x = some p) : PO γ σ o v ou vs := by
  obtain ⟨lo, lw, h1, h2, h3, h4⟩ := h
  exact ⟨lo, lw, h1, h2, h3, fun x p hx => h4 x p (hs x p hx)⟩
theorem PO.new (h : PO β σ o v ou vs) {c : Nat} {ob : AObj} (hc : σ c = none) : PO β (σ.set c ob) o v ou vs := by
  obtain ⟨lo, lw, h1, h2, h3, h4⟩ := h
  have hs : ∀ x p, σ x = some p → (σ.set c ob) x = some p := set_sub hc fun _ _ h => h
  exact ⟨lo, lw, h1.keep fun x p hx _ => hs x p hx, h2.keep fun x p hx _ => hs x p hx, h3, fun x p hx => ⟨hs x p (h4 x p hx).1, (h4 x p hx).2⟩⟩
/-- All that is not the variables' stays too. -/
theorem PO.base (h : PO β σ o v ou vs) : ∃ γ, PO γ σ o v ou vs ∧ (∀ x p, β x = some p → γ x = some p) ∧ ∀ x p, σ x = some p → (∀ a, p ≠ .cells [a]) → (∀ es f c, p ≠ .rows 1 es f c) → γ x = some p := by
  obtain ⟨lo, lw, h1, h2, h3, h4⟩ := h
  refine ⟨fun x => open Classical in if Off o lo x ∧ Off v lw x then σ x else none, ⟨lo, lw, h1, h2, h3, fun x p hx => ?_⟩, fun x p hx => ?_, fun x p hx n1 n2 => ?_⟩
  · by_cases e : Off o lo x ∧ Off v lw x
    · simp only [e, and_self, if_true] at hx; exact ⟨hx, e⟩
    · simp only [e, if_false] at hx; cases hx
  · have := h4 x p hx
    simp only [this.2, and_self, if_true]; exact this.1
  · have := And.intro (h1.off hx n1 n2) (h2.off hx n1 n2)
    simp only [this, and_self, if_true]; exact hx
/-- The walk's steps: what the first variable holds, one more behind it. -/
theorem PO.num (h : PO β σ o v ou vs) : ∃ lo, σ o = some (.cells [lo]) ∧ LAt 1 σ lo (inC ou) ∧ ∀ σ1 lo' ou', LAt 1 σ1 lo' (inC ou') → (∀ x p, σ x = some p → ¬ Own lo x → σ1 x = some p ∧ ¬ Own lo' x) → σ1 o = some (.cells [lo]) ∧ PO β (σ1.set o (.cells [lo'])) o v ou' vs := by
  obtain ⟨lo, lw, h1, h2, h3, h4⟩ := h
  refine ⟨lo, h1.cell, h1.lat, fun σ1 lo' ou' hl hs => ?_⟩
  obtain ⟨g1, g2⟩ := h1.step hl hs
  have k2 : CV 1 (σ1.set o (.cells [lo'])) v lw (stC vs) := h2.keep fun x p hx hn => (g2 x p hx ((h3 x).resolve_right hn)).1
  refine ⟨(hs o _ h1.cell (h1.lat.not_own h1.cell)).1, lo', lw, g1, k2, fun x => ?_, fun x p hx => ?_⟩
  · by_cases e : Off v lw x
    · exact .inr e
    · obtain ⟨p, hp⟩ := h2.some e
      exact .inl (g2 x p hp ((h3 x).resolve_right e)).2
  · have := h4 x p hx
    have k := g2 x p this.1 this.2.1
    exact ⟨k.1, k.2, this.2.2⟩
theorem PO.var (h : PO β σ o v ou vs) : ∃ lw, σ v = some (.cells [lw]) ∧ LAt 1 σ lw (stC vs) ∧ ∀ σ1 lw' vs', LAt 1 σ1 lw' (stC vs') → (∀ x p, σ x = some p → ¬ Own lw x → σ1 x = some p ∧ ¬ Own lw' x) → σ1 v = some (.cells [lw]) ∧ PO β (σ1.set v (.cells [lw'])) o v ou vs' := by
  obtain ⟨lo, lw, h1, h2, h3, h4⟩ := h
  refine ⟨lw, h2.cell, h2.lat, fun σ1 lw' vs' hl hs => ?_⟩
  obtain ⟨g1, g2⟩ := h2.step hl hs
  have k2 : CV 1 (σ1.set v (.cells [lw'])) o lo (inC ou) := h1.keep fun x p hx hn => (g2 x p hx ((h3 x).resolve_left hn)).1
  refine ⟨(hs v _ h2.cell (h2.lat.not_own h2.cell)).1, lo, lw', k2, g1, fun x => ?_, fun x p hx => ?_⟩
  · by_cases e : Off o lo x
    · exact .inl e
    · obtain ⟨p, hp⟩ := h1.some e
      exact .inr (g2 x p hp ((h3 x).resolve_left e)).2
  · have := h4 x p hx
    have k := g2 x p this.1 this.2.2
    exact ⟨k.1, this.2.1, k.2⟩
end

section
variable {β σ : St} {o v b : Nat} {out : List Nat} {vs : List ByteArray}
def nats (l : List Nat) : List Int := l.map Int.ofNat
@[go_sem] theorem nats_len (l : List Nat) : (nats l).length = l.length := by simp [nats]
theorem nats_mem {l : List Nat} {n : Nat} : (n : Int) ∈ nats l ↔ n ∈ l := by
  unfold nats
  rw [List.mem_map]
  exact ⟨fun ⟨a, h, e⟩ => by have e : a = n := Int.ofNat.inj e; rw [← e]; exact h, fun h => ⟨n, h, rfl⟩⟩
theorem nats_snoc {l : List Nat} {n : Nat} : inC (nats l) ++ [[int n]] = inC (nats (l ++ [n])) := by simp [inC, nats]

/-- A literal is taken. -/
theorem take_at (r : Rl) {k : Nat} (hk : k < r.bo.length) (hb : β b = some (.cells r.cs)) (h : PO β σ o v (nats out) vs) (h1 : out.length ≤ 1000000) (h2 : vs.length ≤ 1000000) (h3 : r.bo[k].ar.length ≤ 1000000) :
    AT Try.prog 28 [int k, ptr o, ptr b, ptr v] σ fun _ σ' => PO β σ' o v (nats (out ++ [k])) (ofLi r.bo[k] vs) := by
  refine AT.of_body Try.func28 rfl (by decide) (by kernel_rfl) (by kernel_rfl) (Nat.le_of_ble_eq_true rfl) ?_
  obtain ⟨lo, c1, c2, c3⟩ := h.num
  simp only [go_sem, r_block, c1, c2.one, c2.cells, reduceIte, Nat.reduceEqDiff, Nat.reduceAdd, Nat.reduceMul, Nat.reduceSub, Nat.reduceLT, Nat.reduceLeDiff, Int.reduceLE, Int.reduceLT, Int.reduceToNat, Int.reduceEq]
  refine aApp_by (ys := [[int k]]) (by simp [src]) (by decide) (by decide) (by decide) (c2.app (by rw [inC_len, nats_len]; simp; omega) fun lo' σ1 hl hs => ?_)
  rw [nats_snoc] at hl
  obtain ⟨d1, d2⟩ := c3 σ1 lo' _ hl hs
  simp only [go_sem, d1, hl.one, hl.cells, reduceIte, Nat.reduceEqDiff, Nat.reduceAdd, Nat.reduceMul, Nat.reduceSub, Nat.reduceLT, Nat.reduceLeDiff, Int.reduceLE, Int.reduceLT, Int.reduceToNat, Int.reduceEq]
  clear c1 c2 c3 hs h hl d1
  revert d2
  generalize σ1.set o (.cells [lo']) = σ2
  intro h
  have hb2 := h.sub _ _ hb
  simp only [go_sem, r_block, hb2, liC_get hk, reduceIte, Nat.reduceEqDiff, Nat.reduceAdd, Nat.reduceMul, Nat.reduceSub, Nat.reduceLT, Nat.reduceLeDiff, Int.reduceLE, Int.reduceLT, Int.reduceToNat, Int.reduceEq]
  refine ⟨by omega, aNew_intro fun c hc hcn => ?_⟩
  have h' := h.new (ob := .cells r.bo[k].cs) hc
  obtain ⟨γ, g1, g2, g3⟩ := h'.base
  have hcc : γ c = some (.cells r.bo[k].cs) := g3 c _ set_same (fun a e => by injection e with e; exact absurd (congrArg List.length e) (by rw [Li.len]; simp)) (fun _ _ _ e => by cases e)
  simp only [go_sem, r_block, set_same, reduceIte, Nat.reduceEqDiff, Nat.reduceAdd, Nat.reduceMul, Nat.reduceSub, Nat.reduceLT, Nat.reduceLeDiff, Int.reduceLE, Int.reduceLT, Int.reduceToNat, Int.reduceEq]
  clear hcn h hb2 hc
  revert h' g1 g2 g3 hcc
  intro h' g1 g2 g3 hcc
  refine aApp_by (ys := tmC r.bo[k].ar) (by simp [src]) (by decide) (by decide) (by decide) (LAt.full.app (by rw [tmC_len]; simp; omega) fun lt σ3 hw hs => ?_)
  have hno : ∀ x, ¬ Own (.fsl 4 [r.bo[k].by'.cs, r.bo[k].at'.cs]) x := fun x ⟨n, c, e⟩ => by cases e
  have g4 := g1.keep fun x o hx => (hs x o hx (hno x)).1
  clear h' g3 hs hno hcc
  have hw : LAt 4 σ3 lt (tmC (r.bo[k].by' :: r.bo[k].at' :: r.bo[k].ar)) := hw
  obtain ⟨ts, hts⟩ : ∃ ts, ts = r.bo[k].by' :: r.bo[k].at' :: r.bo[k].ar := ⟨_, rfl⟩
  have htl : ts.length ≤ 1000002 := by subst hts; simp; omega
  rw [← hts] at hw
  obtain ⟨δ, d1, d2, d3⟩ := g4.base
  have hw0 : LAt 4 δ lt (tmC ts) := hw.keep fun x o hx ho => d3 x o hx (fun a e => by subst e; exact hw.not_own hx ho) (fun es f c e => by
    obtain ⟨c', hc'⟩ := hw.own_rows ho
    rw [hx] at hc'
    rw [e] at hc'
    cases hc')
  simp only [go_sem, r_block, hw.len, reduceIte, Nat.reduceEqDiff, Nat.reduceAdd, Nat.reduceMul, Nat.reduceSub, Nat.reduceLT, Nat.reduceLeDiff, Int.reduceLE, Int.reduceLT, Int.reduceToNat, Int.reduceEq]
  refine ⟨fun m fr σ' => ∃ i : Nat, m = ts.length - i ∧ i ≤ ts.length ∧ PO δ σ' o v (nats (out ++ [k])) (vs ++ (ts.take i).map Tm.v) ∧ fr 3 = ptr v ∧ fr 24 = lt ∧ fr 25 = int ts.length ∧ fr 26 = int i, ⟨_, 0, rfl, by omega, by simpa using d1, rfl, rfl, rfl, rfl⟩, ?_⟩
  rintro m fr σ4 ⟨i, rfl, h1, h, f3, f24, f25, f26⟩
  simp only [go_sem, f24, f25, f26, reduceIte, Nat.reduceEqDiff, Nat.reduceAdd, Nat.reduceMul, Nat.reduceSub, Nat.reduceLT, Nat.reduceLeDiff, Int.reduceLE, Int.reduceLT, Int.reduceToNat, Int.reduceEq]
  refine aIf_by (fun hlt => ?_) (fun hlt => ?_)
  · have hi : i < ts.length := by omega
    have hw2 : LAt 4 σ4 lt (tmC ts) := hw0.keep fun x o hx _ => h.sub x o hx
    simp only [go_sem, r_block, f24, f26, reduceIte, Nat.reduceEqDiff, Nat.reduceAdd, Nat.reduceMul, Nat.reduceSub, Nat.reduceLT, Nat.reduceLeDiff, Int.reduceLE, Int.reduceLT, Int.reduceToNat, Int.reduceEq]
    refine hw2.elem (by omega) (by rw [tmC_len]; omega) fun p hp => ?_
    simp only [go_sem, r_block, reduceIte, Nat.reduceEqDiff, Nat.reduceAdd, Nat.reduceMul, Nat.reduceSub, Nat.reduceLT, Nat.reduceLeDiff, Int.reduceLE, Int.reduceLT, Int.reduceToNat, Int.reduceEq]
    refine hp.load (by omega) (by rw [Int.toNat_natCast, tmC_get hi]; exact Nat.le_refl 4) ?_
    simp only [go_sem, tmC_get hi, reduceIte, Nat.reduceEqDiff, Nat.reduceAdd, Nat.reduceMul, Nat.reduceSub, Nat.reduceLT, Nat.reduceLeDiff, Int.reduceLE, Int.reduceLT, Int.reduceToNat, Int.reduceEq]
    refine aNew_intro fun d hd hdn => ?_
    have h := h.new (ob := .cells ts[i].cs) hd
    obtain ⟨lw, c1, c2, c3⟩ := h.var
    simp only [go_sem, r_block, set_same, f3, c1, c2.one, c2.cells, reduceIte, Nat.reduceEqDiff, Nat.reduceAdd, Nat.reduceMul, Nat.reduceSub, Nat.reduceLT, Nat.reduceLeDiff, Int.reduceLE, Int.reduceLT, Int.reduceToNat, Int.reduceEq]
    have hvl : ((vs ++ (ts.take i).map Tm.v).length : Nat) ≤ 2000002 := by simp; omega
    refine aApp_by (ys := [[str ts[i].v]]) (by simp [src]) (by decide) (by decide) (by decide) (c2.app (by rw [stC_len]; simp only [List.length_cons, List.length_nil]; omega) fun lw' σ5 hl hs => ?_)
    have e : vs ++ (ts.take (i + 1)).map Tm.v = (vs ++ (ts.take i).map Tm.v) ++ [ts[i].v] := by
      rw [List.take_add_one, List.getElem?_eq_getElem hi, List.map_append, ← List.append_assoc]
      rfl
    have e2 : stC (vs ++ (ts.take i).map Tm.v) ++ [[str ts[i].v]] = stC (vs ++ (ts.take (i + 1)).map Tm.v) := by rw [e]; simp [stC]
    rw [e2] at hl
    obtain ⟨q1, q2⟩ := c3 σ5 lw' _ hl hs
    simp only [go_sem, r_block, f3, q1, hl.one, hl.cells, f26, f25, f24, next64 (show i < 9223372036854775807 by omega), reduceIte, Nat.reduceEqDiff, Nat.reduceAdd, Nat.reduceMul, Nat.reduceSub, Nat.reduceLT, Nat.reduceLeDiff, Int.reduceLE, Int.reduceLT, Int.reduceToNat, Int.reduceEq]
    exact ⟨ts.length - (i + 1), by omega, i + 1, rfl, by omega, q2, rfl⟩
  · simp only [go_sem, r_block, reduceIte, Nat.reduceEqDiff, Nat.reduceAdd, Nat.reduceMul, Nat.reduceSub, Nat.reduceLT, Nat.reduceLeDiff, Int.reduceLE, Int.reduceLT, Int.reduceToNat, Int.reduceEq]
    rw [List.take_of_length_le (by omega)] at h
    refine aRet_as (r := .tup []) rfl ?_
    have e : vs ++ ts.map Tm.v = ofLi r.bo[k] vs := by rw [hts]; rfl
    rw [← e]
    exact h.weak fun x p hx => d2 x p (g2 x p hx)
end
end Go.Proofs.Ythdfpankebjleaa

/-
  The order in which literals are looked for, by itself: each literal comes once.
  Conditions: none.
-/
namespace Go.Proofs.Ythdfpankebjleaa
open Go Go.Av

/-- Among the first ones: the first one of those that are not out of which most is known. -/
def bst (bo : List Li) (out : List Nat) (vs : List ByteArray) : Nat → Int × Int
  | 0 => (-1, -1)
  | k + 1 => if k ∉ out ∧ (bst bo out vs k).2 < (knL (bo.getD k .zero) vs : Int) then ((k : Int), (knL (bo.getD k .zero) vs : Int)) else bst bo out vs k
/-- One by one, f times. -/
def ordN (bo : List Li) : Nat → List Nat → List ByteArray → List Nat
  | 0, out, _ => out
  | f + 1, out, vs => ordN bo f (out ++ [(bst bo out vs bo.length).1.toNat]) (ofLi (bo.getD (bst bo out vs bo.length).1.toNat .zero) vs)
def ordR (r : Rl) (first : Int) : List Nat :=
  if 0 ≤ first ∧ first < r.bo.length then ordN r.bo (r.bo.length - 1) [first.toNat] (ofLi (r.bo.getD first.toNat .zero) [r.ho.v]) else ordN r.bo r.bo.length [] [r.ho.v]

theorem bst_ok (bo : List Li) (out : List Nat) (vs : List ByteArray) : ∀ k, ((bst bo out vs k).1 = -1 ∧ (bst bo out vs k).2 = -1 ∧ ∀ j, j < k → j ∈ out) ∨ ∃ b : Nat, (bst bo out vs k).1 = b ∧ b < k ∧ b ∉ out ∧ 0 ≤ (bst bo out vs k).2
  | 0 => .inl ⟨rfl, rfl, fun j h => by omega⟩
  | k + 1 => by
    have ih := bst_ok bo out vs k
    unfold bst
    split
    · rename_i h
      exact .inr ⟨k, rfl, by omega, h.1, by show (0 : Int) ≤ ((knL _ _ : Nat) : Int); omega⟩
    · rename_i h
      rcases ih with ⟨h1, h2, h3⟩ | ⟨b, h1, h2, h3, h4⟩
      · refine .inl ⟨h1, h2, fun j hj => ?_⟩
        by_cases e : j = k
        · subst e
          exact Classical.byContradiction fun hn => h ⟨hn, by rw [h2]; omega⟩
        · exact h3 j (by omega)
      · exact .inr ⟨b, h1, by omega, h3, h4⟩
/-- Some numbers below n, each once. -/
def Perm (n : Nat) (l : List Nat) : Prop := l.Nodup ∧ ∀ k ∈ l, k < n
theorem perm_len : ∀ (n : Nat) (l : List Nat), Perm n l → l.length ≤ n
  | 0, l, h => by
    cases l with
    | nil => simp
    | cons a l => have := h.2 a (by simp); omega
  | n + 1, l, h => by
    have hp : Perm n (l.filter (· ≠ n)) := ⟨h.1.filter _, fun k hk => by
      have hk := List.mem_filter.1 hk
      have := h.2 k hk.1
      have : k ≠ n := by simpa using hk.2
      omega⟩
    have ih := perm_len n _ hp
    have := count_one h.1
    have hl : l.length ≤ (l.filter (· ≠ n)).length + 1 := this n
    omega
where
  count_one : ∀ {l : List Nat}, l.Nodup → ∀ n, l.length ≤ (l.filter (· ≠ n)).length + 1
  | [], _, n => by simp
  | a :: l, h, n => by
    have hh := List.nodup_cons.1 h
    by_cases e : a = n
    · subst e
      have : l.filter (· ≠ a) = l := List.filter_eq_self.2 fun x hx => by
        have : x ≠ a := fun e => hh.1 (e ▸ hx)
        simpa using this
      simp only [List.filter_cons, ne_eq, not_true_eq_false, decide_false, Bool.false_eq_true, if_false, List.length_cons]
      simp only [ne_eq] at this
      rw [this]
      exact Nat.le_refl _
    · have := count_one hh.2 n
      simp only [List.filter_cons, ne_eq, e, not_false_eq_true, decide_true, if_true, List.length_cons] at *
      omega
/-- One is left. -/
theorem perm_left {n : Nat} {l : List Nat} (h : Perm n l) (hl : l.length < n) : ∃ j, j < n ∧ j ∉ l := Classical.byContradiction fun hn => by
  have hp : Perm l.length (List.range n) → False := fun h => by have := perm_len _ _ h; simp at this; omega
  have hs : ∀ j, j < n → j ∈ l := fun j hj => Classical.byContradiction fun hm => hn ⟨j, hj, hm⟩
  have := (List.nodup_range (n := n)).length_le_of_subset (l₂ := l) (fun j hj => hs j (List.mem_range.1 hj))
  simp at this
  omega
theorem perm_best {bo : List Li} {out : List Nat} {vs : List ByteArray} (h : Perm bo.length out) (hl : out.length < bo.length) :
    ∃ b : Nat, (bst bo out vs bo.length).1 = b ∧ b < bo.length ∧ b ∉ out ∧ Perm bo.length (out ++ [b]) := by
  rcases bst_ok bo out vs bo.length with ⟨h1, h2, h3⟩ | ⟨b, h1, h2, h3, h4⟩
  · obtain ⟨j, hj, hn⟩ := perm_left h hl
    exact absurd (h3 j hj) hn
  · refine ⟨b, h1, h2, h3, ?_, fun k hk => ?_⟩
    · rw [List.nodup_append]
      exact ⟨h.1, by simp, fun a ha c hc => by simp at hc; subst hc; exact fun e => h3 (e ▸ ha)⟩
    · rcases List.mem_append.1 hk with hk | hk
      · exact h.2 k hk
      · simp at hk; omega
theorem ordN_ok {bo : List Li} : ∀ (f : Nat) (out : List Nat) (vs : List ByteArray), f = bo.length - out.length → Perm bo.length out → Perm bo.length (ordN bo f out vs) ∧ (ordN bo f out vs).length = bo.length ∧ ∀ i (h : i < out.length), (ordN bo f out vs)[i]? = some out[i]
  | 0, out, vs, hf, h => by
    have := perm_len _ _ h
    exact ⟨h, by unfold ordN; omega, fun i h => by unfold ordN; simp [h]⟩
  | f + 1, out, vs, hf, h => by
    obtain ⟨b, h1, h2, h3, h4⟩ := perm_best (vs := vs) h (by omega)
    have ih := ordN_ok f (out ++ [b]) (ofLi (bo.getD b .zero) vs) (by simp; omega) h4
    unfold ordN
    rw [h1]
    refine ⟨ih.1, ih.2.1, fun i hi => ?_⟩
    rw [show ((b : Nat) : Int).toNat = b from rfl, ih.2.2 i (by simp; omega)]
    rw [List.getElem_append_left hi]
theorem ordR_ok (r : Rl) (first : Int) : Perm r.bo.length (ordR r first) ∧ (ordR r first).length = r.bo.length ∧ (0 ≤ first ∧ first < r.bo.length → (ordR r first)[0]? = some first.toNat) := by
  unfold ordR
  split
  · rename_i h
    have := ordN_ok (bo := r.bo) (r.bo.length - 1) [first.toNat] (ofLi (r.bo.getD first.toNat .zero) [r.ho.v]) rfl ⟨by simp, fun k hk => by simp at hk; omega⟩
    exact ⟨this.1, this.2.1, fun _ => this.2.2 0 (by simp)⟩
  · rename_i h
    have := ordN_ok (bo := r.bo) r.bo.length [] [r.ho.v] rfl ⟨by simp, fun k hk => by cases hk⟩
    exact ⟨this.1, this.2.1, fun e => absurd e h⟩
/-- Not too much. -/
def Rl.Ok (r : Rl) : Prop := r.bo.length ≤ 300 ∧ ∀ l ∈ r.bo, l.ar.length ≤ 300
theorem ofLi_len (l : Li) (vs : List ByteArray) : (ofLi l vs).length = vs.length + 2 + l.ar.length := by
  simp [ofLi]; omega
end Go.Proofs.Ythdfpankebjleaa

/-
  The document's order: its walk.
  Conditions: none.
-/
namespace Go.Proofs.Ythdfpankebjleaa
open Go Go.Av

section
variable {σ : St} {lv : AV} {vs : List ByteArray}
theorem vars_at (l : Li) (ha : l.ar.length ≤ 1000000) (hv : vs.length ≤ 1000000) (h : LAt 1 σ lv (stC vs)) : AT Try.prog 30 [lv, .agg l.cs] σ fun r σ' => LAt 1 σ' r (stC (ofLi l vs)) ∧ ∀ x o, σ x = some o → ¬ Own lv x → σ' x = some o ∧ ¬ Own r x := by
  refine AT.of_body Try.func30 rfl (by decide) (by kernel_rfl) (by kernel_rfl) (Nat.le_of_ble_eq_true rfl) ?_
  simp only [go_sem, reduceIte, Nat.reduceEqDiff, Nat.reduceAdd, Nat.reduceMul, Nat.reduceSub, Nat.reduceLT, Nat.reduceLeDiff, Int.reduceLE, Int.reduceLT, Int.reduceToNat, Int.reduceEq]
  refine aNew_intro fun b hb hbn => ?_
  have h' : LAt 1 (σ.set b (.cells l.cs)) lv (stC vs) := h.new hb
  have hnb : ¬ Own lv b := h'.not_own set_same
  simp only [go_sem, r_block, set_same, reduceIte, Nat.reduceEqDiff, Nat.reduceAdd, Nat.reduceMul, Nat.reduceSub, Nat.reduceLT, Nat.reduceLeDiff, Int.reduceLE, Int.reduceLT, Int.reduceToNat, Int.reduceEq]
  refine aApp_by (ys := [[str l.by'.v], [str l.at'.v]]) (by simp [src]) (by decide) (by decide) (by decide) (h'.app (by rw [stC_len]; simp only [List.length_cons, List.length_nil]; omega) fun lw σ1 hl hs => ?_)
  have e : stC vs ++ [[str l.by'.v], [str l.at'.v]] = stC (vs ++ l.by'.v :: l.at'.v :: (l.ar.take 0).map Tm.v) := by simp [stC]
  rw [e] at hl
  have hs1 : ∀ x o, σ x = some o → ¬ Own lv x → σ1 x = some o ∧ ¬ Own lw x := fun x o hx ho => hs x o (set_sub hb (fun _ _ h => h) x o hx) ho
  obtain ⟨k1, k2⟩ := hs b _ set_same hnb
  simp only [go_sem, r_block, reduceIte, Nat.reduceEqDiff, Nat.reduceAdd, Nat.reduceMul, Nat.reduceSub, Nat.reduceLT, Nat.reduceLeDiff, Int.reduceLE, Int.reduceLT, Int.reduceToNat, Int.reduceEq]
  refine ⟨fun m fr σ' => ∃ (i : Nat) (lw : AV), m = l.ar.length - i ∧ i ≤ l.ar.length ∧ LAt 1 σ' lw (stC (vs ++ l.by'.v :: l.at'.v :: (l.ar.take i).map Tm.v)) ∧ σ' b = some (.cells l.cs) ∧ ¬ Own lw b ∧ (∀ x o, σ x = some o → ¬ Own lv x → σ' x = some o ∧ ¬ Own lw x) ∧ fr 0 = lw ∧ fr 3 = ptr b ∧ fr 5 = int i, ⟨_, 0, lw, rfl, by omega, hl, k1, k2, hs1, rfl, rfl, rfl⟩, ?_⟩
  clear h' hl hs hs1 k1 k2 e
  rintro m fr σ2 ⟨i, lw, rfl, h1, h2, k1, k2, h3, f0, f3, f5⟩
  simp only [go_sem, f0, f3, f5, k1, reduceIte, Nat.reduceEqDiff, Nat.reduceAdd, Nat.reduceMul, Nat.reduceSub, Nat.reduceLT, Nat.reduceLeDiff, Int.reduceLE, Int.reduceLT, Int.reduceToNat, Int.reduceEq]
  refine aIf_by (fun hlt => ?_) (fun hlt => ?_)
  · have hi : i < l.ar.length := by omega
    simp only [go_sem, r_block, f0, f3, f5, k1, tmC_get hi, reduceIte, Nat.reduceEqDiff, Nat.reduceAdd, Nat.reduceMul, Nat.reduceSub, Nat.reduceLT, Nat.reduceLeDiff, Int.reduceLE, Int.reduceLT, Int.reduceToNat, Int.reduceEq]
    have hvl : ((vs ++ l.by'.v :: l.at'.v :: (l.ar.take i).map Tm.v).length : Nat) ≤ 2000002 := by simp; omega
    refine ⟨by omega, aApp_by (ys := [[str l.ar[i].v]]) (by simp [src]) (by decide) (by decide) (by decide) (h2.app (by rw [stC_len]; simp only [List.length_cons, List.length_nil]; omega) fun lw' σ3 hl hs => ?_)⟩
    have e : stC (vs ++ l.by'.v :: l.at'.v :: (l.ar.take i).map Tm.v) ++ [[str l.ar[i].v]] = stC (vs ++ l.by'.v :: l.at'.v :: (l.ar.take (i + 1)).map Tm.v) := by
      rw [List.take_add_one, List.getElem?_eq_getElem hi, List.map_append]
      simp [stC]
    rw [e] at hl
    simp only [go_sem, r_block, f0, f3, f5, next64 (show i < 9223372036854775807 by omega), reduceIte, Nat.reduceEqDiff, Nat.reduceAdd, Nat.reduceMul, Nat.reduceSub, Nat.reduceLT, Nat.reduceLeDiff, Int.reduceLE, Int.reduceLT, Int.reduceToNat, Int.reduceEq]
    have kb := hs b _ k1 k2
    exact ⟨l.ar.length - (i + 1), by omega, i + 1, lw', rfl, by omega, hl, kb.1, kb.2, fun x o hx ho => (fun hh => hs x o hh.1 hh.2) (h3 x o hx ho), rfl, rfl⟩
  · simp only [go_sem, r_block, f0, reduceIte, Nat.reduceEqDiff, Nat.reduceAdd, Nat.reduceMul, Nat.reduceSub, Nat.reduceLT, Nat.reduceLeDiff, Int.reduceLE, Int.reduceLT, Int.reduceToNat, Int.reduceEq]
    rw [List.take_of_length_le (by omega)] at h2
    exact aRet_as (r := lw) rfl ⟨h2, h3⟩
end
/-- The numbers that are out, and the variables that are known, in two slices. -/
def RO (β σ : St) (lo lw : AV) (ou : List Nat) (vs : List ByteArray) : Prop :=
  LAt 1 σ lo (inC (nats ou)) ∧ LAt 1 σ lw (stC vs) ∧ (∀ x, Own lo x → ¬ Own lw x) ∧ ∀ x o, β x = some o → σ x = some o ∧ ¬ Own lo x ∧ ¬ Own lw x
section
variable {β σ σ1 : St} {lo lw lo' lw' : AV} {ou ou' : List Nat} {vs vs' : List ByteArray}
theorem RO.num (h : RO β σ lo lw ou vs) (hl : LAt 1 σ1 lo' (inC (nats ou'))) (hs : ∀ x p, σ x = some p → ¬ Own lo x → σ1 x = some p ∧ ¬ Own lo' x) : RO β σ1 lo' lw ou' vs := by
  obtain ⟨h1, h2, h3, h4⟩ := h
  refine ⟨hl, h2.keep fun x o hx ho => (hs x o hx fun e => h3 x e ho).1, fun x ho hw => ?_, fun x o hx => ?_⟩
  · obtain ⟨c, hc⟩ := h2.own_rows hw
    exact (hs x _ hc fun e => h3 x e hw).2 ho
  · obtain ⟨k1, k2, k3⟩ := h4 x o hx
    obtain ⟨q1, q2⟩ := hs x o k1 k2
    exact ⟨q1, q2, k3⟩
theorem RO.var (h : RO β σ lo lw ou vs) (hl : LAt 1 σ1 lw' (stC vs')) (hs : ∀ x p, σ x = some p → ¬ Own lw x → σ1 x = some p ∧ ¬ Own lw' x) : RO β σ1 lo lw' ou vs' := by
  obtain ⟨h1, h2, h3, h4⟩ := h
  refine ⟨h1.keep fun x o hx ho => (hs x o hx (h3 x ho)).1, hl, fun x ho hw => ?_, fun x o hx => ?_⟩
  · obtain ⟨c, hc⟩ := h1.own_rows ho
    exact (hs x _ hc (h3 x ho)).2 hw
  · obtain ⟨k1, k2, k3⟩ := h4 x o hx
    obtain ⟨q1, q2⟩ := hs x o k1 k3
    exact ⟨q1, k2, q2⟩
end
/-- On the way to the order. -/
def LO (r : Rl) (first : Int) (ou : List Nat) (vs : List ByteArray) : Prop :=
  Perm r.bo.length ou ∧ vs.length ≤ 1 + ou.length * 302 ∧ ordN r.bo (r.bo.length - ou.length) ou vs = ordR r first
theorem li_getD {l : List Li} {i : Nat} (h : i < l.length) : l.getD i .zero = l[i] := by simp [List.getD_eq_getElem?_getD, h]
theorem LO.first {r : Rl} {first : Int} (hr : r.Ok) (h0 : 0 ≤ first) (h1 : first.toNat < r.bo.length) : LO r first [first.toNat] (ofLi r.bo[first.toNat] [r.ho.v]) := by
  refine ⟨⟨by simp, fun k hk => by simp at hk; omega⟩, ?_, ?_⟩
  · have := hr.2 _ (List.getElem_mem h1)
    rw [ofLi_len]
    simp; omega
  · unfold ordR
    rw [if_pos ⟨h0, by omega⟩, li_getD h1]
    rfl
theorem LO.start {r : Rl} {first : Int} (h : ¬ (0 ≤ first ∧ first < r.bo.length)) : LO r first [] [r.ho.v] := by
  refine ⟨⟨by simp, fun k hk => by cases hk⟩, by simp, ?_⟩
  unfold ordR
  rw [if_neg h]
  rfl
theorem LO.next {r : Rl} {first : Int} {ou : List Nat} {vs : List ByteArray} (hr : r.Ok) (h : LO r first ou vs) (hl : ou.length < r.bo.length) :
    ∃ (b : Nat) (hb : b < r.bo.length), (bst r.bo ou vs r.bo.length).1 = b ∧ LO r first (ou ++ [b]) (ofLi r.bo[b] vs) := by
  obtain ⟨h1, h2, h3⟩ := h
  obtain ⟨b, e, hb, hn, hp⟩ := perm_best (vs := vs) h1 hl
  refine ⟨b, hb, e, hp, ?_, ?_⟩
  · have := hr.2 _ (List.getElem_mem hb)
    rw [ofLi_len]
    simp; omega
  · obtain ⟨f, hf⟩ : ∃ f, r.bo.length - ou.length = f + 1 := ⟨r.bo.length - ou.length - 1, by omega⟩
    rw [hf] at h3
    unfold ordN at h3
    rw [e, show ((b : Nat) : Int).toNat = b from rfl, li_getD hb] at h3
    rw [← h3]
    congr 1
    simp; omega
theorem LO.done {r : Rl} {first : Int} {ou : List Nat} {vs : List ByteArray} (h : LO r first ou vs) (hl : ¬ ou.length < r.bo.length) : ou = ordR r first := by
  obtain ⟨h1, h2, h3⟩ := h
  rw [← h3, show r.bo.length - ou.length = 0 by omega]
  rfl
theorem LO.len {r : Rl} {first : Int} {ou : List Nat} {vs : List ByteArray} (hr : r.Ok) (h : LO r first ou vs) : ou.length ≤ 300 ∧ vs.length ≤ 90601 := by
  have := perm_len _ _ h.1
  have := hr.1
  have := h.2.1
  omega

section
variable {σ : St}
theorem refOrder_at (r : Rl) (first : Int) (hr : r.Ok) : AT Try.prog 12 [.agg r.cs, int first] σ fun v σ' => v = .sl 1 (inC (nats (ordR r first))) ∧ σ' = σ := by
  refine AT.of_body Try.func12 rfl (by decide) (by kernel_rfl) (by kernel_rfl) (Nat.le_of_ble_eq_true rfl) ?_
  simp only [go_sem, reduceIte, Nat.reduceEqDiff, Nat.reduceAdd, Nat.reduceMul, Nat.reduceSub, Nat.reduceLT, Nat.reduceLeDiff, Int.reduceLE, Int.reduceLT, Int.reduceToNat, Int.reduceEq]
  refine aNew_intro fun b hb hbn => ?_
  obtain ⟨β, hβ⟩ : ∃ β, β = σ.set b (.cells r.cs) := ⟨_, rfl⟩
  have kb : β b = some (.cells r.cs) := by rw [hβ]; exact set_same
  have ks : ∀ x o, σ x = some o → β x = some o := by rw [hβ]; exact set_sub hb (fun _ _ h => h)
  have hbl := hr.1
  rw [← hβ]
  apply meet_by (fun fr σ' => ∃ lo lw ou vs, RO β σ' lo lw ou vs ∧ LO r first ou vs ∧ fr 2 = ptr b ∧ fr 5 = lo ∧ fr 6 = lw)
  case h1 =>
    intro key
    have no1 : ∀ x, ¬ Own (.fsl 1 [[str r.ho.v]]) x := fun x ⟨n, c, e⟩ => by cases e
    have no2 : ∀ x, ¬ Own (.v (.slice none 0 0)) x := fun x ⟨n, c, e⟩ => by cases e
    have r0 : RO β β nilS (.fsl 1 [[str r.ho.v]]) [] [r.ho.v] := ⟨.none, .full, fun x h => absurd h (no2 x), fun x o hx => ⟨hx, no2 x, no1 x⟩⟩
    by_cases h0 : 0 ≤ first
    · by_cases h1 : first < r.bo.length
      · have hk : first.toNat < r.bo.length := by omega
        simp only [go_sem, kb, decide_eq_true h0, decide_eq_true h1, reduceIte, Nat.reduceEqDiff, Nat.reduceAdd, Nat.reduceMul, Nat.reduceSub, Nat.reduceLT, Nat.reduceLeDiff, Int.reduceLE, Int.reduceLT, Int.reduceToNat, Int.reduceEq]
        refine aApp_by (ys := [[int first]]) (by simp [src]) (by decide) (by decide) (by decide) (LAt.none.app (by simp) fun lo σ1 hl hs => ?_)
        have e : ([] : List (List AV)) ++ [[int first]] = inC (nats [first.toNat]) := by
          show [[int first]] = [[int (Int.ofNat first.toNat)]]
          rw [show Int.ofNat first.toNat = first from by rw [Int.ofNat_eq_natCast]; omega]
        rw [e] at hl
        have r1 := r0.num (ou' := [first.toNat]) hl hs
        have kb1 := (r1.2.2.2 _ _ kb).1
        simp only [go_sem, kb1, liC_get hk, reduceIte, Nat.reduceEqDiff, Nat.reduceAdd, Nat.reduceMul, Nat.reduceSub, Nat.reduceLT, Nat.reduceLeDiff, Int.reduceLE, Int.reduceLT, Int.reduceToNat, Int.reduceEq]
        refine ⟨by omega, by omega, (vars_at r.bo[first.toNat] (by have := hr.2 _ (List.getElem_mem hk); omega) (by simp) r1.2.1).mono ?_⟩
        rintro lw σ2 ⟨hl2, hs2⟩
        have r2 := r1.var hl2 hs2
        simp only [go_sem, reduceIte, Nat.reduceEqDiff, Nat.reduceAdd, Nat.reduceMul, Nat.reduceSub, Nat.reduceLT, Nat.reduceLeDiff, Int.reduceLE, Int.reduceLT, Int.reduceToNat, Int.reduceEq]
        refine key _ _ ?_
        exact ⟨_, _, _, _, r2, .first hr h0 hk, rfl, rfl, rfl⟩
      · simp only [go_sem, kb, decide_eq_true h0, decide_eq_false h1, reduceIte, Nat.reduceEqDiff, Nat.reduceAdd, Nat.reduceMul, Nat.reduceSub, Nat.reduceLT, Nat.reduceLeDiff, Int.reduceLE, Int.reduceLT, Int.reduceToNat, Int.reduceEq]
        refine key _ _ ?_
        exact ⟨_, _, _, _, r0, .start fun h => h1 h.2, rfl, rfl, rfl⟩
    · simp only [go_sem, kb, decide_eq_false h0, reduceIte, Nat.reduceEqDiff, Nat.reduceAdd, Nat.reduceMul, Nat.reduceSub, Nat.reduceLT, Nat.reduceLeDiff, Int.reduceLE, Int.reduceLT, Int.reduceToNat, Int.reduceEq]
      refine key _ _ ?_
      exact ⟨_, _, _, _, r0, .start fun h => h0 h.1, rfl, rfl, rfl⟩
  case h2 =>
    rintro fr σ1 ⟨lo, lw, ou, vs, h, hL, f2, f5, f6⟩
    simp only [go_sem, r_block, reduceIte, Nat.reduceEqDiff, Nat.reduceAdd, Nat.reduceMul, Nat.reduceSub, Nat.reduceLT, Nat.reduceLeDiff, Int.reduceLE, Int.reduceLT, Int.reduceToNat, Int.reduceEq]
    refine ⟨fun m fr σ1 => ∃ lo lw ou vs, m = r.bo.length - ou.length ∧ RO β σ1 lo lw ou vs ∧ LO r first ou vs ∧ fr 2 = ptr b ∧ fr 5 = lo ∧ fr 6 = lw, ⟨_, lo, lw, ou, vs, rfl, h, hL, f2, f5, f6⟩, ?_⟩
    clear h hL f2 f5 f6 lo lw ou vs fr σ1
    rintro m fr σ1 ⟨lo, lw, ou, vs, rfl, h, hL, f2, f5, f6⟩
    have kb1 := (h.2.2.2 _ _ kb).1
    have hlen := hL.len hr
    simp only [go_sem, f2, f5, f6, h.1.len, kb1, reduceIte, Nat.reduceEqDiff, Nat.reduceAdd, Nat.reduceMul, Nat.reduceSub, Nat.reduceLT, Nat.reduceLeDiff, Int.reduceLE, Int.reduceLT, Int.reduceToNat, Int.reduceEq]
    refine aIf_by (fun hlt => ?_) (fun hlt => ?_)
    · simp only [go_sem, r_block, f2, f5, f6, reduceIte, Nat.reduceEqDiff, Nat.reduceAdd, Nat.reduceMul, Nat.reduceSub, Nat.reduceLT, Nat.reduceLeDiff, Int.reduceLE, Int.reduceLT, Int.reduceToNat, Int.reduceEq]
      refine ⟨fun m fr σ' => ∃ k : Nat, m = r.bo.length - k ∧ k ≤ r.bo.length ∧ σ' = σ1 ∧ fr 2 = ptr b ∧ fr 5 = lo ∧ fr 6 = lw ∧ fr 7 = int (bst r.bo ou vs k).1 ∧ fr 8 = int (bst r.bo ou vs k).2 ∧ fr 9 = int k, ⟨_, 0, rfl, by omega, rfl, f2, f5, f6, rfl, rfl, rfl⟩, ?_⟩
      clear f2 f5 f6 fr
      rintro m fr σ' ⟨k, rfl, hk, rfl, f2, f5, f6, f7, f8, f9⟩
      simp only [go_sem, f2, f5, f6, f7, f8, f9, kb1, reduceIte, Nat.reduceEqDiff, Nat.reduceAdd, Nat.reduceMul, Nat.reduceSub, Nat.reduceLT, Nat.reduceLeDiff, Int.reduceLE, Int.reduceLT, Int.reduceToNat, Int.reduceEq]
      refine aIf_by (fun hlt2 => ?_) (fun hlt2 => ?_)
      · have hkl : k < r.bo.length := by omega
        have hal := hr.2 _ (List.getElem_mem hkl)
        simp only [go_sem, r_block, f2, f6, f9, kb1, liC_get hkl, reduceIte, Nat.reduceEqDiff, Nat.reduceAdd, Nat.reduceMul, Nat.reduceSub, Nat.reduceLT, Nat.reduceLeDiff, Int.reduceLE, Int.reduceLT, Int.reduceToNat, Int.reduceEq]
        refine ⟨by omega, (known_at r.bo[k].by' (by omega) (.of h.2.1)).mono ?_⟩
        rintro _ σ1 ⟨rfl, rfl⟩
        simp only [go_sem, r_block, f2, f5, f6, f7, f8, f9, kb1, reduceIte, Nat.reduceEqDiff, Nat.reduceAdd, Nat.reduceMul, Nat.reduceSub, Nat.reduceLT, Nat.reduceLeDiff, Int.reduceLE, Int.reduceLT, Int.reduceToNat, Int.reduceEq]
        obtain ⟨l, hl⟩ : ∃ l, l = r.bo[k] := ⟨_, rfl⟩
        have hg : r.bo.getD k .zero = l := by rw [hl, li_getD hkl]
        rw [← hl] at hal
        refine ⟨fun m fr σ' => ∃ i : Nat, m = l.ar.length - i ∧ i ≤ l.ar.length ∧ σ' = σ1 ∧ fr 2 = ptr b ∧ fr 5 = lo ∧ fr 6 = lw ∧ fr 7 = int (bst r.bo ou vs k).1 ∧ fr 8 = int (bst r.bo ou vs k).2 ∧ fr 9 = int k ∧ fr 10 = int ((kn l.by' vs + knS (l.ar.take i) vs : Nat) : Int) ∧ fr 11 = int i, ⟨_, 0, rfl, by omega, rfl, f2, f5, f6, f7, f8, f9, by rw [hl]; rfl, rfl⟩, ?_⟩
        clear f2 f5 f6 f7 f8 f9 fr
        rintro m fr σ' ⟨i, rfl, h1, rfl, f2, f5, f6, f7, f8, f9, f10, f11⟩
        have eg : (liC r.bo).getD k [] = l.cs := by rw [hl]; exact liC_get hkl
        simp only [go_sem, f2, f5, f6, f7, f8, f9, f10, f11, kb1, eg, reduceIte, Nat.reduceEqDiff, Nat.reduceAdd, Nat.reduceMul, Nat.reduceSub, Nat.reduceLT, Nat.reduceLeDiff, Int.reduceLE, Int.reduceLT, Int.reduceToNat, Int.reduceEq]
        refine ⟨by omega, aIf_by (fun hlt3 => ?_) (fun hlt3 => ?_)⟩
        · have hi : i < l.ar.length := by omega
          simp only [go_sem, r_block, f2, f5, f6, f7, f8, f9, f10, f11, kb1, eg, tmC_get hi, reduceIte, Nat.reduceEqDiff, Nat.reduceAdd, Nat.reduceMul, Nat.reduceSub, Nat.reduceLT, Nat.reduceLeDiff, Int.reduceLE, Int.reduceLT, Int.reduceToNat, Int.reduceEq]
          refine ⟨by omega, by omega, (known_at l.ar[i] (by omega) (.of h.2.1)).mono ?_⟩
          rintro _ σ1 ⟨rfl, rfl⟩
          have hb1 := kn_le l.by' vs
          have hb2 := kn_le l.ar[i] vs
          have hb3 := knS_le vs (l.ar.take i)
          rw [List.length_take] at hb3
          have e1 : IntKind.i64.wrap (((kn l.by' vs + knS (l.ar.take i) vs : Nat) : Int) + (kn l.ar[i] vs : Int)) = ((kn l.by' vs + knS (l.ar.take (i + 1)) vs : Nat) : Int) := by
            rw [knS_take vs hi, wrap64 (by omega)]; omega
          simp only [go_sem, r_block, f2, f5, f6, f7, f8, f9, f10, f11, e1, next64 (show i < 9223372036854775807 by omega), reduceIte, Nat.reduceEqDiff, Nat.reduceAdd, Nat.reduceMul, Nat.reduceSub, Nat.reduceLT, Nat.reduceLeDiff, Int.reduceLE, Int.reduceLT, Int.reduceToNat, Int.reduceEq]
          exact ⟨l.ar.length - (i + 1), by omega, i + 1, rfl, by omega, rfl, rfl⟩
        · rw [List.take_of_length_le (by omega)] at f10
          have f10 : fr 10 = int (knL l vs) := f10
          simp only [go_sem, r_block, f2, f5, f6, f7, f8, f9, f10, f11, reduceIte, Nat.reduceEqDiff, Nat.reduceAdd, Nat.reduceMul, Nat.reduceSub, Nat.reduceLT, Nat.reduceLeDiff, Int.reduceLE, Int.reduceLT, Int.reduceToNat, Int.reduceEq]
          refine (in_at (by rw [nats_len]; omega) (.of h.1)).mono ?_
          rintro _ σ1 ⟨rfl, rfl⟩
          have hst : bst r.bo ou vs (k + 1) = if k ∉ ou ∧ (bst r.bo ou vs k).2 < (knL l vs : Int) then ((k : Int), (knL l vs : Int)) else bst r.bo ou vs k := by
            rw [← hg]; rfl
          by_cases g1 : (k : Int) ∈ nats ou
          · have e : bst r.bo ou vs (k + 1) = bst r.bo ou vs k := by rw [hst, if_neg fun h => h.1 (nats_mem.1 g1)]
            simp only [go_sem, r_block, f2, f5, f6, f7, f8, f9, f10, f11, decide_eq_true g1, Bool.not_true, next64 (show k < 9223372036854775807 by omega), reduceIte, Nat.reduceEqDiff, Nat.reduceAdd, Nat.reduceMul, Nat.reduceSub, Nat.reduceLT, Nat.reduceLeDiff, Int.reduceLE, Int.reduceLT, Int.reduceToNat, Int.reduceEq]
            exact ⟨r.bo.length - (k + 1), by omega, k + 1, rfl, by omega, by rw [e], by rw [e], rfl⟩
          · simp only [go_sem, r_block, f2, f5, f6, f7, f8, f9, f10, f11, decide_eq_false g1, Bool.not_false, reduceIte, Nat.reduceEqDiff, Nat.reduceAdd, Nat.reduceMul, Nat.reduceSub, Nat.reduceLT, Nat.reduceLeDiff, Int.reduceLE, Int.reduceLT, Int.reduceToNat, Int.reduceEq]
            refine aIf_by (fun g2 => ?_) (fun g2 => ?_)
            · have e : bst r.bo ou vs (k + 1) = ((k : Int), (knL l vs : Int)) := by rw [hst, if_pos ⟨fun h => g1 (nats_mem.2 h), g2⟩]
              simp only [go_sem, r_block, f2, f5, f6, f7, f8, f9, f10, f11, next64 (show k < 9223372036854775807 by omega), reduceIte, Nat.reduceEqDiff, Nat.reduceAdd, Nat.reduceMul, Nat.reduceSub, Nat.reduceLT, Nat.reduceLeDiff, Int.reduceLE, Int.reduceLT, Int.reduceToNat, Int.reduceEq]
              exact ⟨r.bo.length - (k + 1), by omega, k + 1, rfl, by omega, by rw [e], by rw [e], rfl⟩
            · have e : bst r.bo ou vs (k + 1) = bst r.bo ou vs k := by rw [hst, if_neg fun h => g2 h.2]
              simp only [go_sem, r_block, f2, f5, f6, f7, f8, f9, f10, f11, next64 (show k < 9223372036854775807 by omega), reduceIte, Nat.reduceEqDiff, Nat.reduceAdd, Nat.reduceMul, Nat.reduceSub, Nat.reduceLT, Nat.reduceLeDiff, Int.reduceLE, Int.reduceLT, Int.reduceToNat, Int.reduceEq]
              exact ⟨r.bo.length - (k + 1), by omega, k + 1, rfl, by omega, by rw [e], by rw [e], rfl⟩
      · obtain rfl : k = r.bo.length := by omega
        obtain ⟨c, hc, e, hN⟩ := hL.next hr (by omega)
        rw [e] at f7
        simp only [go_sem, r_block, f2, f5, f6, f7, f8, f9, kb1, reduceIte, Nat.reduceEqDiff, Nat.reduceAdd, Nat.reduceMul, Nat.reduceSub, Nat.reduceLT, Nat.reduceLeDiff, Int.reduceLE, Int.reduceLT, Int.reduceToNat, Int.reduceEq]
        refine aApp_by (ys := [[int c]]) (by simp [src]) (by decide) (by decide) (by decide) (h.1.app (by rw [inC_len, nats_len]; simp only [List.length_cons, List.length_nil]; omega) fun lo' σ2 hl hs => ?_)
        rw [nats_snoc] at hl
        have r1 := h.num hl hs
        have kb2 := (r1.2.2.2 _ _ kb).1
        simp only [go_sem, r_block, f2, f6, f7, kb2, liC_get hc, reduceIte, Nat.reduceEqDiff, Nat.reduceAdd, Nat.reduceMul, Nat.reduceSub, Nat.reduceLT, Nat.reduceLeDiff, Int.reduceLE, Int.reduceLT, Int.reduceToNat, Int.reduceEq]
        have hal := hr.2 _ (List.getElem_mem hc)
        refine ⟨by omega, (vars_at r.bo[c] (by omega) (by omega) r1.2.1).mono ?_⟩
        rintro lw' σ3 ⟨hl2, hs2⟩
        have r2 := r1.var hl2 hs2
        simp only [go_sem, r_block, f2, reduceIte, Nat.reduceEqDiff, Nat.reduceAdd, Nat.reduceMul, Nat.reduceSub, Nat.reduceLT, Nat.reduceLeDiff, Int.reduceLE, Int.reduceLT, Int.reduceToNat, Int.reduceEq]
        have := perm_len _ _ hN.1
        simp only [List.length_append, List.length_cons, List.length_nil] at this
        exact ⟨_, by simp only [List.length_append, List.length_cons, List.length_nil]; omega, lo', lw', _, _, rfl, r2, hN, rfl, rfl⟩
    · simp only [go_sem, r_block, f5, reduceIte, Nat.reduceEqDiff, Nat.reduceAdd, Nat.reduceMul, Nat.reduceSub, Nat.reduceLT, Nat.reduceLeDiff, Int.reduceLE, Int.reduceLT, Int.reduceToNat, Int.reduceEq]
      obtain rfl := hL.done (by omega)
      exact aRet_view (r := lo) rfl _ σ (view_of (sv_of fun x o hx => .inl (h.2.2.2 x o (ks x o hx)).1) (h.1.vw_same fun x hx => Classical.byContradiction fun hn => by
        obtain ⟨o, ho⟩ := Option.ne_none_iff_exists'.1 hn
        exact (h.2.2.2 x o (ks x o ho)).2.1 hx)) ⟨rfl, rfl⟩
end
end Go.Proofs.Ythdfpankebjleaa

/-
  The program's finder: literal by literal, in the plan's order.
  Conditions: none.
-/
namespace Go.Proofs.Ythdfpankebjleaa
open Go Go.Av

def fiC (r : Rl) (ov : AV) (f : Fa) (lv gv xv : AV) (first : Int) : List AV := r.cs ++ ov :: (f.cs ++ [lv, gv, xv, int first])
section
variable (r : Rl) (ov : AV) (f : Fa) (lv gv xv : AV) (first : Int)
@[go_sem] theorem fiC_len : (fiC r ov f lv gv xv first).length = 20 := rfl
@[go_sem] theorem fiC_0 : (fiC r ov f lv gv xv first).take 4 = r.ho.cs := rfl
@[go_sem] theorem fiC_10 : ((fiC r ov f lv gv xv first).drop 10).getD 0 (.v undef) = .sl 10 (liC r.bo) := rfl
@[go_sem] theorem fiC_11 : ((fiC r ov f lv gv xv first).drop 11).getD 0 (.v undef) = ov := rfl
@[go_sem] theorem fiC_12 : ((fiC r ov f lv gv xv first).drop 12).take 4 = f.cs := rfl
@[go_sem] theorem fiC_16 : ((fiC r ov f lv gv xv first).drop 16).getD 0 (.v undef) = lv := rfl
@[go_sem] theorem fiC_17 : ((fiC r ov f lv gv xv first).drop 17).getD 0 (.v undef) = gv := rfl
@[go_sem] theorem fiC_18 : ((fiC r ov f lv gv xv first).drop 18).getD 0 (.v undef) = xv := rfl
@[go_sem] theorem fiC_19 : ((fiC r ov f lv gv xv first).drop 19).getD 0 (.v undef) = int first := rfl
@[go_sem] theorem fiC_g10 : (fiC r ov f lv gv xv first).getD 10 (.v undef) = .sl 10 (liC r.bo) := rfl
@[go_sem] theorem fiC_g11 : (fiC r ov f lv gv xv first).getD 11 (.v undef) = ov := rfl
@[go_sem] theorem fiC_g16 : (fiC r ov f lv gv xv first).getD 16 (.v undef) = lv := rfl
@[go_sem] theorem fiC_g17 : (fiC r ov f lv gv xv first).getD 17 (.v undef) = gv := rfl
@[go_sem] theorem fiC_g18 : (fiC r ov f lv gv xv first).getD 18 (.v undef) = xv := rfl
@[go_sem] theorem fiC_g19 : (fiC r ov f lv gv xv first).getD 19 (.v undef) = int first := rfl
@[go_sem] theorem fiC_18s (y : AV) : splice (fiC r ov f lv gv xv first) 18 [y] = fiC r ov f lv gv y first := rfl
end
/-- The program's finder at block x. -/
def EI (β σ : St) (x : Nat) (r : Rl) (ord : List Nat) (f : Fa) (l : List Fa) (first : Int) (got : List Fa) (out : List (List Fa)) : Prop :=
  ∃ gb lo es, σ x = some (.cells (fiC r (.sl 1 (inC (nats ord))) f (.sl 4 (faC l)) (slv gb got.length got.length) lo first)) ∧ σ gb = some (.rows 4 (faC got) false got.length) ∧
    Ow 1 σ lo es ∧ es.length = out.length ∧ (∀ i (h : i < out.length), ∃ v, es.getD i [] = [v] ∧ Ow 4 σ v (faC out[i]) ∧ ¬ Own v gb ∧ ∀ x, Own v x → β x = none) ∧ (∀ y o, β y = some o → σ y = some o ∧ y ≠ x ∧ y ≠ gb ∧ ¬ Own lo y) ∧ lo ≠ .fsl 1 []
theorem EI.sub {β σ σ' : St} {x : Nat} {r : Rl} {ord : List Nat} {f : Fa} {l : List Fa} {first : Int} {got : List Fa} {out : List (List Fa)} (h : EI β σ x r ord f l first got out) (hs : ∀ y o, σ y = some o → σ' y = some o) : EI β σ' x r ord f l first got out := by
  obtain ⟨gb, lo, es, h1, h2, h3, h4, h5, h6, h7⟩ := h
  exact ⟨gb, lo, es, hs _ _ h1, hs _ _ h2, h3.sub hs, h4, fun i hi => (by obtain ⟨v, k1, k2, k3⟩ := h5 i hi; exact ⟨v, k1, k2.sub hs, k3⟩), fun y o hy => ⟨hs _ _ (h6 y o hy).1, (h6 y o hy).2⟩, h7⟩
theorem each_ge {ho : Tm} {bo : List Li} {cand : Nat → List Fa} (k : Nat) (o : List Nat) (env : List Bi) (got : List Fa) (i : Nat) (l : List Fa) (hl : l = cand k) : (l.take i).flatMap (fun x => match litF ho (bo.getD k .zero) x env with
    | some e => eachF ho bo cand o e (got.set k x)
    | none => []) ++ (l.drop i).flatMap (fun x => match litF ho (bo.getD k .zero) x env with
    | some e => eachF ho bo cand o e (got.set k x)
    | none => []) = eachF ho bo cand (k :: o) env got := by
  rw [← List.flatMap_append, List.take_append_drop, hl]; rfl
theorem faC_set {l : List Fa} {i : Nat} {y : Fa} : (faC l).set i y.cs = faC (l.set i y) := by simp [faC, List.map_set]
theorem EI.put {β σ : St} {x : Nat} {r : Rl} {ord : List Nat} {f : Fa} {l : List Fa} {first : Int} {got : List Fa} {out : List (List Fa)} {gb : Nat} {lo : AV} {es : List (List AV)} (i : Nat) (y : Fa) (h1 : σ x = some (.cells (fiC r (.sl 1 (inC (nats ord))) f (.sl 4 (faC l)) (slv gb got.length got.length) lo first))) (h2 : σ gb = some (.rows 4 (faC got) false got.length))
    (h3 : Ow 1 σ lo es) (h4 : es.length = out.length) (h5 : ∀ i (h : i < out.length), ∃ v, es.getD i [] = [v] ∧ Ow 4 σ v (faC out[i]) ∧ ¬ Own v gb ∧ ∀ x, Own v x → β x = none) (h6 : ∀ y o, β y = some o → σ y = some o ∧ y ≠ x ∧ y ≠ gb ∧ ¬ Own lo y) (h7 : lo ≠ .fsl 1 []) :
    EI β (σ.set gb (.rows 4 (faC (got.set i y)) false got.length)) x r ord f l first (got.set i y) out := by
  have hxg : x ≠ gb := fun e => by subst e; rw [h1] at h2; cases h2
  have nog : ¬ Own lo gb := fun ho => by
    obtain ⟨c, hc⟩ := h3.lat.own_rows ho
    rw [h2] at hc; cases hc
  have e : (got.set i y).length = got.length := by simp
  refine ⟨gb, lo, es, by rw [set_ne hxg, e]; exact h1, by rw [e]; exact set_same, h3.keep fun z o hz ho => ?_, h4, fun j hj => ?_, fun z o hz => ?_, h7⟩
  · rw [set_ne (fun e => by subst e; exact nog ho)]; exact hz
  · obtain ⟨v, v1, v2, v3⟩ := h5 j hj
    exact ⟨v, v1, v2.keep fun z o hz ho => by rw [set_ne (fun e => by subst e; exact v3.1 ho)]; exact hz, v3⟩
  · obtain ⟨w1, w2, w3, w4⟩ := h6 z o hz
    exact ⟨by rw [set_ne w3]; exact w1, w2, w3, w4⟩
section
variable {β σ : St} {x : Nat}
theorem each_at (r : Rl) (ord : List Nat) (first : Int) (f : Fa) (l : List Fa) (hr : r.S3) (hf : f.Sm) (hl : l.length ≤ 1000000) (hls : ∀ y ∈ l, y.Sm) (ho : ord.length ≤ 300) (hon : ord.Nodup) (hob : ∀ k ∈ ord, k < r.bo.length) :
    ∀ (m k : Nat) {β σ : St} {env : List Bi} {got : List Fa} {out : List (List Fa)}, k + m = ord.length → got.length = r.bo.length → env.length ≤ 10 + 302 * k → EI β σ x r ord f l first got out → out.length + (eachF r.ho r.bo (candF first f l) (ord.drop k) env got).length ≤ 1000000 →
    AT Try.prog 55 [ptr x, int k, .sl 4 (biC env)] σ fun _ σ' => ∃ got', got'.length = got.length ∧ (∀ i, i ∉ ord.drop k → got'[i]? = got[i]?) ∧ EI β σ' x r ord f l first got' (out ++ eachF r.ho r.bo (candF first f l) (ord.drop k) env got) := by
  intro m
  induction m with
  | zero =>
    intro k β σ env got out hk hg he h hb
    have hd : ord.drop k = [] := List.drop_of_length_le (by omega)
    rw [hd] at hb ⊢
    have hb : out.length + 1 ≤ 1000000 := by simpa [eachF] using hb
    obtain ⟨gb, lo, es, h1, h2, h3, h4, h5, h6, h7⟩ := h
    refine AT.of_body Try.func55 rfl (by decide) (by kernel_rfl) (by kernel_rfl) (Nat.le_of_ble_eq_true rfl) ?_
    have dd := decide_eq_true (show (k : Int) = ord.length by omega)
    simp only [go_sem, h1, nats_len, dd, reduceIte, Nat.reduceEqDiff, Nat.reduceAdd, Nat.reduceMul, Nat.reduceSub, Nat.reduceLT, Nat.reduceLeDiff, Int.reduceLE, Int.reduceLT, Int.reduceToNat, Int.reduceEq]
    refine aDraw_plan [.rd 0 false, .rd 1 false, .rd 2 false, .rd 3 false, .rd 4 true, .rd 5 false, .rd 6 false, .rd 7 false, .rd 8 true, .ef 9 [4], .rd 10 false, .ef 11 [], .rd 12 false, .rd 13 false, .ef 14 []] (by kernel_rfl) (by kernel_rfl) (by kernel_rfl) ?_
    simp only [go_sem, h1, reduceIte, Nat.reduceEqDiff, Nat.reduceAdd, Nat.reduceMul, Nat.reduceSub, Nat.reduceLT, Nat.reduceLeDiff, Int.reduceLE, Int.reduceLT, Int.reduceToNat, Int.reduceEq]
    have hr1 := hr.1
    refine (cloneF_at got (by omega) ⟨gb, _, rfl, h2⟩).mono ?_
    rintro rv σ1 ⟨k1, k2, k3⟩
    simp only [go_sem, k2.sub _ _ h1, k1.lat.cells, k1.lat.one, reduceIte, Nat.reduceEqDiff, Nat.reduceAdd, Nat.reduceMul, Nat.reduceSub, Nat.reduceLT, Nat.reduceLeDiff, Int.reduceLE, Int.reduceLT, Int.reduceToNat, Int.reduceEq]
    have h3' := h3.sub k2.sub
    refine aApp_by (ys := [[rv]]) (by rfl) (by decide) (by decide) (by decide) (Ow.of_app h3'.lat (by simp) (by simp only [List.length_nil, List.length_cons]; omega) fun lo' σ2 g1 g2 g3 => ?_)
    have hx2 := (g2 _ _ (k2.sub _ _ h1) (h3'.lat.not_own (k2.sub _ _ h1)))
    simp only [go_sem, hx2.1, g1.lat.cells, g1.lat.one, reduceIte, Nat.reduceEqDiff, Nat.reduceAdd, Nat.reduceMul, Nat.reduceSub, Nat.reduceLT, Nat.reduceLeDiff, Int.reduceLE, Int.reduceLT, Int.reduceToNat, Int.reduceEq]
    have nog : ¬ Own lo gb := fun ho => by
      obtain ⟨c, hc⟩ := h3.lat.own_rows ho
      rw [h2] at hc; cases hc
    have hg2 := g2 _ _ (k2.sub _ _ h2) nog
    have nrv : ∀ y, Own rv y → ¬ Own lo' y := fun y ho ho' => by
      obtain ⟨c, hc⟩ := g3 y ho'
      obtain ⟨c', hc'⟩ := k1.lat.own_rows ho
      by_cases hlo : Own lo y
      · obtain ⟨c'', hc''⟩ := h3'.lat.own_rows hlo
        rw [hc'] at hc''; cases hc''
      · rw [(g2 _ _ hc' hlo).1] at hc; cases hc
    have keep : ∀ y o, σ1 y = some o → ¬ Own lo y → y ≠ x → (σ2.set x (.cells (fiC r (.sl 1 (inC (nats ord))) f (.sl 4 (faC l)) (slv gb got.length got.length) lo' first))) y = some o := fun y o hy ho hne => by
      rw [set_ne hne]; exact (g2 _ _ hy ho).1
    have nlo : ∀ {v : AV} {es' : List (List AV)}, LAt 4 σ1 v es' → ∀ y, Own v y → ¬ Own lo y ∧ y ≠ x := fun hv y hy => by
      obtain ⟨c, hc⟩ := hv.own_rows hy
      refine ⟨fun ho => ?_, fun e => ?_⟩
      · obtain ⟨c', hc'⟩ := h3'.lat.own_rows ho
        rw [hc] at hc'; cases hc'
      · subst e
        rw [k2.sub _ _ h1] at hc; cases hc
    refine aRet_as (r := .tup []) rfl ⟨got, rfl, fun _ _ => rfl, gb, lo', es ++ [[rv]], set_same, ?_, ?_, ?_, ?_, ?_, ?_⟩
    · rw [set_ne (fun e => by subst e; rw [h1] at h2; cases h2)]; exact hg2.1
    · exact g1.keep fun y o hy ho => by
        rw [set_ne (fun e => by subst e; exact hx2.2 ho)]; exact hy
    · simp [eachF, h4]
    · intro i hi
      by_cases e : i < out.length
      · obtain ⟨v, v1, v2, v3⟩ := h5 i e
        have v2' := v2.sub k2.sub
        refine ⟨v, ?_, ?_, v3⟩
        · rw [List.getD_eq_getElem?_getD, List.getElem?_append_left (by omega)]
          rw [List.getD_eq_getElem?_getD] at v1; exact v1
        · rw [List.getElem_append_left e]
          exact v2'.keep fun y o hy ho => keep y o hy (nlo v2'.lat y ho).1 (nlo v2'.lat y ho).2
      · have e2 : i = out.length := by simp [eachF] at hi; omega
        subst e2
        refine ⟨rv, ?_, ?_, fun ho => ?_, fun y hy => ?_⟩
        · rw [List.getD_eq_getElem?_getD, List.getElem?_append_right (by omega), h4]; simp
        · rw [List.getElem_append_right (by omega)]
          simp only [eachF, Nat.sub_self, List.getElem_cons_zero]
          exact k1.keep fun y o hy ho => keep y o hy (nlo k1.lat y ho).1 (nlo k1.lat y ho).2
        · rw [k3 _ ho] at h2; cases h2
        · exact none_of_sub (fun y o hy => (h6 y o hy).1) (k3 _ hy)
    · intro y o hy
      obtain ⟨w1, w2, w3, w4⟩ := h6 y o hy
      have := g2 _ _ (k2.sub _ _ w1) w4
      exact ⟨keep y o (k2.sub _ _ w1) w4 w2, w2, w3, this.2⟩
    · rcases g1 with ⟨e, _⟩ | ⟨b, c, rfl, _⟩
      · simp at e
      · intro e; cases e
  | succ m ih =>
    intro k β σ env got out hk hg he h hb
    obtain ⟨gb, lo, es, h1, h2, h3, h4, h5, h6, h7⟩ := h
    have h : EI β σ x r ord f l first got out := ⟨gb, lo, es, h1, h2, h3, h4, h5, h6, h7⟩
    refine AT.of_body Try.func55 rfl (by decide) (by kernel_rfl) (by kernel_rfl) (Nat.le_of_ble_eq_true rfl) ?_
    have dd := decide_eq_false (show ¬ (k : Int) = ord.length by omega)
    have hko : k < ord.length := by omega
    obtain ⟨at', hat⟩ : ∃ a, a = ord[k] := ⟨_, rfl⟩
    have hkb : at' < r.bo.length := by rw [hat]; exact hob _ (List.getElem_mem hko)
    have hlk := hr.2 _ (List.getElem_mem hkb)
    have ek : (inC (nats ord)).getD k [] = [int (at' : Nat)] := by
      rw [inC_get (by rw [nats_len]; exact hko), hat]; simp [nats]
    have ed : ord.drop k = at' :: ord.drop (k + 1) := by rw [hat]; exact List.drop_eq_getElem_cons hko
    obtain ⟨cd, hcd⟩ : ∃ cd, cd = candF first f l at' := ⟨_, rfl⟩
    have hcl : cd.length ≤ 1000000 := by
      rw [hcd]; unfold candF; split
      · simp
      · exact hl
    have hcs : ∀ y ∈ cd, y.Sm := by
      rw [hcd]; unfold candF; split
      · intro y hy; rw [List.mem_singleton.1 hy]; exact hf
      · exact hls
    simp only [go_sem, h1, nats_len, dd, ek, reduceIte, Nat.reduceEqDiff, Nat.reduceAdd, Nat.reduceMul, Nat.reduceSub, Nat.reduceLT, Nat.reduceLeDiff, Int.reduceLE, Int.reduceLT, Int.reduceToNat, Int.reduceEq]
    refine ⟨by omega, ?_⟩
    refine aIf_meet (fun fr σ' => ∃ lc, (lc = .sl 4 (faC cd) ∨ lc = .fsl 4 (faC cd)) ∧ σ' = σ ∧ fr 0 = ptr x ∧ fr 1 = int k ∧ fr 2 = .sl 4 (biC env) ∧ fr 6 = int at' ∧ fr 7 = lc) (fun h0 => ?_) (fun h0 => ?_) ?_
    · have e : cd = [f] := by rw [hcd]; unfold candF; rw [if_pos h0]
      simp only [go_sem, h1, reduceIte, Nat.reduceEqDiff, Nat.reduceAdd, Nat.reduceMul, Nat.reduceSub, Nat.reduceLT, Nat.reduceLeDiff, Int.reduceLE, Int.reduceLT, Int.reduceToNat, Int.reduceEq]
      refine ⟨.fsl 4 (faC cd), .inr rfl, ?_⟩
      rw [e]
      try (and_intros <;> first | assumption | rfl | omega)
    · have e : cd = l := by rw [hcd]; unfold candF; rw [if_neg h0]
      simp only [go_sem, reduceIte, Nat.reduceEqDiff, Nat.reduceAdd, Nat.reduceMul, Nat.reduceSub, Nat.reduceLT, Nat.reduceLeDiff, Int.reduceLE, Int.reduceLT, Int.reduceToNat, Int.reduceEq]
      refine ⟨.sl 4 (faC cd), .inl rfl, ?_⟩
      rw [e]
      try (and_intros <;> first | assumption | rfl | omega)
    rintro fr σ' ⟨lc, hlc, rfl, f0, f1, f2, f6, f7⟩
    have hR : ∀ σ'', Rd 4 σ'' lc (faC cd) := fun σ'' => by
      rcases hlc with rfl | rfl
      · exact .sl
      · exact .of .full
    simp only [go_sem, r_block, f7, (hR σ').len, faC_len, reduceIte, Nat.reduceEqDiff, Nat.reduceAdd, Nat.reduceMul, Nat.reduceSub, Nat.reduceLT, Nat.reduceLeDiff, Int.reduceLE, Int.reduceLT, Int.reduceToNat, Int.reduceEq]
    rw [ed] at hb ⊢
    have hge := fun i => each_ge (ho := r.ho) (bo := r.bo) (cand := candF first f l) at' (ord.drop (k + 1)) env got i cd hcd
    obtain ⟨G, hG⟩ : ∃ G : Fa → List (List Fa), G = fun x => match litF r.ho (r.bo.getD at' .zero) x env with
      | some e => eachF r.ho r.bo (candF first f l) (ord.drop (k + 1)) e (got.set at' x)
      | none => [] := ⟨_, rfl⟩
    simp only [← hG] at hge
    have hat2 : at' ∉ ord.drop (k + 1) := by
      have := hon.sublist (List.drop_sublist k ord)
      rw [ed] at this
      exact (List.nodup_cons.1 this).1
    refine ⟨fun mm fr σ'' => ∃ (i : Nat) (got' : List Fa), mm = cd.length - i ∧ i ≤ cd.length ∧ got'.length = got.length ∧ (∀ j, j ∉ at' :: ord.drop (k + 1) → got'[j]? = got[j]?) ∧ EI β σ'' x r ord f l first got' (out ++ (cd.take i).flatMap G) ∧ fr 0 = ptr x ∧ fr 1 = int k ∧ fr 2 = .sl 4 (biC env) ∧ fr 6 = int at' ∧ fr 55 = lc ∧ fr 56 = int cd.length ∧ fr 57 = int i, ⟨_, 0, got, rfl, by omega, rfl, fun _ _ => rfl, by simpa using h, f0, f1, f2, f6, rfl, rfl, rfl⟩, ?_⟩
    clear f0 f1 f2 f6 f7 fr h h1 h2 h3 h4 h5 h6 h7 gb lo es
    rintro mm fr σ1 ⟨i, got', rfl, hi, hg', hgo, hE, f0, f1, f2, f6, f55, f56, f57⟩
    simp only [go_sem, f56, f57, reduceIte, Nat.reduceEqDiff, Nat.reduceAdd, Nat.reduceMul, Nat.reduceSub, Nat.reduceLT, Nat.reduceLeDiff, Int.reduceLE, Int.reduceLT, Int.reduceToNat, Int.reduceEq]
    refine aIf_by (fun hlt => ?_) (fun hlt => ?_)
    · have hic : i < cd.length := by omega
      obtain ⟨gb, lo, es, h1, h2, h3, h4, h5, h6, h7⟩ := hE
      have hE : EI β σ1 x r ord f l first got' (out ++ (cd.take i).flatMap G) := ⟨gb, lo, es, h1, h2, h3, h4, h5, h6, h7⟩
      simp only [go_sem, r_block, f55, f57, reduceIte, Nat.reduceEqDiff, Nat.reduceAdd, Nat.reduceMul, Nat.reduceSub, Nat.reduceLT, Nat.reduceLeDiff, Int.reduceLE, Int.reduceLT, Int.reduceToNat, Int.reduceEq]
      refine (hR σ1).elem (by omega) (by rw [faC_len]; omega) fun e he => ?_
      simp only [go_sem, r_block, reduceIte, Nat.reduceEqDiff, Nat.reduceAdd, Nat.reduceMul, Nat.reduceSub, Nat.reduceLT, Nat.reduceLeDiff, Int.reduceLE, Int.reduceLT, Int.reduceToNat, Int.reduceEq]
      refine he.load (by decide) (by rw [Int.toNat_natCast, faC_get hic]; exact Nat.le_refl 4) ?_
      simp only [go_sem, r_block, faC_get hic, reduceIte, Nat.reduceEqDiff, Nat.reduceAdd, Nat.reduceMul, Nat.reduceSub, Nat.reduceLT, Nat.reduceLeDiff, Int.reduceLE, Int.reduceLT, Int.reduceToNat, Int.reduceEq]
      refine Ctx.nil.alloc fun t9 σ2 c1 => ?_
      obtain ⟨σ3, e3, c2⟩ := c1.abs 0 rfl (.cells cd[i].cs)
      have hx3 := c2.sub _ _ h1
      simp only [go_sem, r_block, c1.g0, e3, reduceIte, Nat.reduceEqDiff, Nat.reduceAdd, Nat.reduceMul, Nat.reduceSub, Nat.reduceLT, Nat.reduceLeDiff, Int.reduceLE, Int.reduceLT, Int.reduceToNat, Int.reduceEq]
      refine aDraw_plan [.rd 0 false, .rd 1 false, .rd 2 false, .rd 3 false, .rd 4 true, .rd 5 false, .rd 6 false, .rd 7 false, .rd 8 false, .rd 9 true, .rd 10 false, .rd 11 false, .rd 12 true, .rd 13 true, .rd 14 false, .ef 15 [], .rd 16 false, .rd 17 false, .rd 18 false, .rd 19 false, .rd 20 false] (by kernel_rfl) (by kernel_rfl) (by kernel_rfl) ?_
      simp only [go_sem, r_block, f0, f2, f6, hx3, c2.g0, liC_get hkb, reduceIte, Nat.reduceEqDiff, Nat.reduceAdd, Nat.reduceMul, Nat.reduceSub, Nat.reduceLT, Nat.reduceLeDiff, Int.reduceLE, Int.reduceLT, Int.reduceToNat, Int.reduceEq]
      refine ⟨by omega, (lit_at r.ho r.bo[at'] cd[i] env (by omega) (by omega)).mono ?_⟩
      rintro _ σ3 ⟨rfl, rfl⟩
      have hgi : G cd[i] = match litF r.ho r.bo[at'] cd[i] env with
        | some e => eachF r.ho r.bo (candF first f l) (ord.drop (k + 1)) e (got.set at' cd[i])
        | none => [] := by rw [hG]; simp only; rw [li_get hkb]
      have htk : (cd.take (i + 1)).flatMap G = (cd.take i).flatMap G ++ G cd[i] := by
        rw [List.take_add_one, List.getElem?_eq_getElem hic, List.flatMap_append]
        simp
      cases hv : litF r.ho r.bo[at'] cd[i] env with
      | none =>
        rw [hv] at hgi
        simp only at hgi
        simp only [go_sem, r_block, f0, f1, f2, f6, f55, f56, f57, next64 (show i < 9223372036854775807 by omega), reduceIte, Nat.reduceEqDiff, Nat.reduceAdd, Nat.reduceMul, Nat.reduceSub, Nat.reduceLT, Nat.reduceLeDiff, Int.reduceLE, Int.reduceLT, Int.reduceToNat, Int.reduceEq]
        refine ⟨cd.length - (i + 1), by omega, i + 1, got', ?_⟩
        have hE' : EI β σ3 x r ord f l first got' (out ++ (cd.take (i + 1)).flatMap G) := by
          rw [htk, hgi, List.append_nil]; exact hE.sub c2.sub
        (and_intros <;> first | assumption | rfl | omega)
      | some e2 =>
        rw [hv] at hgi
        simp only at hgi
        have hel := lit_len hv
        have hg3 := c2.sub _ _ h2
        simp only [go_sem, r_block, reduceIte, Nat.reduceEqDiff, Nat.reduceAdd, Nat.reduceMul, Nat.reduceSub, Nat.reduceLT, Nat.reduceLeDiff, Int.reduceLE, Int.reduceLT, Int.reduceToNat, Int.reduceEq]
        refine aDraw_plan [.rd 0 false, .rd 1 false, .rd 2 false, .rd 3 true, .rd 4 false, .rd 5 true, .rd 6 false, .ef 7 []] (by kernel_rfl) (by kernel_rfl) (by kernel_rfl) ?_
        have hag : at' < got'.length := by omega
        have hae := Fa.app cd[i] got'[at']
        simp only [go_sem, r_block, f0, f1, f6, hx3, c2.g0, hg3, next64 (show k < 9223372036854775807 by omega), faC_get hag, faC_set, reduceIte, Nat.reduceEqDiff, Nat.reduceAdd, Nat.reduceMul, Nat.reduceSub, Nat.reduceLT, Nat.reduceLeDiff, Int.reduceLE, Int.reduceLT, Int.reduceToNat, Int.reduceEq]
        refine ⟨by omega, hag, ?_⟩
        have hE3 := (EI.put at' cd[i] hx3 hg3 (h3.sub c2.sub) h4 (fun j hj => (by obtain ⟨v, k1, k2, k3⟩ := h5 j hj; exact ⟨v, k1, k2.sub c2.sub, k3⟩)) (fun y o hy => ⟨c2.sub _ _ (h6 y o hy).1, (h6 y o hy).2⟩) h7)
        have hgeq : eachF r.ho r.bo (candF first f l) (ord.drop (k + 1)) e2 (got'.set at' cd[i]) = eachF r.ho r.bo (candF first f l) (ord.drop (k + 1)) e2 (got.set at' cd[i]) := by
          refine each_got _ _ _ _ (by simp [hg']) fun j hj => ?_
          by_cases e : at' = j
          · subst e
            simp [List.getElem?_set, hag, hg', show at' < got.length by omega]
          · rw [List.getElem?_set_ne e, List.getElem?_set_ne e]
            exact hgo j (by simp [hj, Ne.symm e])
        have hlen : ((out ++ (cd.take i).flatMap G).length + (eachF r.ho r.bo (candF first f l) (ord.drop (k + 1)) e2 (got'.set at' cd[i])).length) ≤ 1000000 := by
          rw [hgeq, ← hgi]
          have h1 := congrArg List.length (hge (i + 1))
          rw [htk] at h1
          simp only [List.length_append] at h1 ⊢
          omega
        refine (ih (k + 1) (by omega) (by simp [hg', hg]) (by omega) hE3 hlen).mono ?_
        rintro _ σ5 ⟨got2, q1, q2, q3⟩
        simp only [go_sem, r_block, f0, f1, f2, f6, f55, f56, f57, next64 (show i < 9223372036854775807 by omega), reduceIte, Nat.reduceEqDiff, Nat.reduceAdd, Nat.reduceMul, Nat.reduceSub, Nat.reduceLT, Nat.reduceLeDiff, Int.reduceLE, Int.reduceLT, Int.reduceToNat, Int.reduceEq]
        refine ⟨cd.length - (i + 1), by omega, i + 1, got2, ?_⟩
        have z1 : got2.length = got.length := by rw [q1]; simp [hg']
        have z2 : ∀ j, j ∉ at' :: ord.drop (k + 1) → got2[j]? = got[j]? := fun j hj => by
          rw [List.mem_cons, not_or] at hj
          rw [q2 j hj.2, List.getElem?_set_ne (Ne.symm hj.1)]
          exact hgo j (by simp [hj])
        have z3 : EI β σ5 x r ord f l first got2 (out ++ (cd.take (i + 1)).flatMap G) := by
          rw [htk, hgi, ← hgeq, ← List.append_assoc]; exact q3
        (and_intros <;> first | assumption | rfl | omega)
    · simp only [go_sem, r_block, reduceIte, Nat.reduceEqDiff, Nat.reduceAdd, Nat.reduceMul, Nat.reduceSub, Nat.reduceLT, Nat.reduceLeDiff, Int.reduceLE, Int.reduceLT, Int.reduceToNat, Int.reduceEq]
      rw [List.take_of_length_le (by omega)] at hE
      refine aRet_as (r := .tup []) rfl ⟨got', hg', hgo, ?_⟩
      have := hge cd.length
      rw [List.take_of_length_le (by omega), List.drop_of_length_le (by omega)] at this
      rw [← this]
      simpa using hE
end
end Go.Proofs.Ythdfpankebjleaa

/-
  The library's numbers of bits, and its numbers by chance.
  Conditions: none.
-/
namespace Go.Proofs.Ythdfpankebjleaa
open Go Go.Av Go.Sort

abbrev u64 (n : Nat) : AV := .v (.int .u64 (n : Int))
theorem bl_half {x : Nat} (h : 2 ≤ x) : bitsLen x = bitsLen (x / 2) + 1 := by
  unfold bitsLen
  rw [if_neg (by omega), if_neg (by omega), Nat.log2_def, if_pos h]
theorem bl_256 {x : Nat} (h : 256 ≤ x) : bitsLen x = bitsLen (x / 256) + 8 := by
  rw [bl_half (by omega), bl_half (x := x / 2) (by omega), bl_half (x := x / 2 / 2) (by omega), bl_half (x := x / 2 / 2 / 2) (by omega), bl_half (x := x / 2 / 2 / 2 / 2) (by omega), bl_half (x := x / 2 / 2 / 2 / 2 / 2) (by omega), bl_half (x := x / 2 / 2 / 2 / 2 / 2 / 2) (by omega), bl_half (x := x / 2 / 2 / 2 / 2 / 2 / 2 / 2) (by omega)]
  rw [show x / 2 / 2 / 2 / 2 / 2 / 2 / 2 / 2 = x / 256 by omega]
theorem shr_n (x k : Nat) : ((x : Int)).fdiv (2 ^ k) = ((x / 2 ^ k : Nat) : Int) := by
  rw [Int.fdiv_eq_ediv_of_nonneg _ (Int.le_of_lt (Int.pow_pos (by decide)))]
  norm_cast
theorem bl_le {z : Nat} (h : z < 256) : bitsLen z ≤ 8 := by
  have : ∀ z, z < 256 → bitsLen z ≤ 8 := by decide +kernel
  exact this z h
theorem bl_le32 {z : Nat} (h : z < 4294967296) : bitsLen z ≤ 32 := by
  by_cases h1 : 256 ≤ z
  · rw [bl_256 h1]
    by_cases h2 : 256 ≤ z / 256
    · rw [bl_256 h2]
      by_cases h3 : 256 ≤ z / 256 / 256
      · rw [bl_256 h3]
        have := bl_le (z := z / 256 / 256 / 256) (by omega)
        omega
      · have := bl_le (z := z / 256 / 256) (by omega)
        omega
    · have := bl_le (z := z / 256) (by omega)
      omega
  · have := bl_le (z := z) (by omega)
    omega
def len8T : List UInt8 := (List.range 256).map fun x => UInt8.ofNat (bitsLen x)
theorem len8_get {z : Nat} (h : z < 256) (T : List UInt8) (hT : T = len8T) : (T.getD z 0).toNat = bitsLen z := by
  subst hT
  have := bl_le h
  simp only [len8T, List.getD_eq_getElem?_getD, List.getElem?_map, List.getElem?_range h, Option.map_some, Option.getD_some]
  rw [UInt8.toNat_ofNat']
  omega
theorem wrapu (n : Nat) : IntKind.u64.wrap (n : Int) = ((n % 18446744073709551616 : Nat) : Int) := by
  unfold IntKind.wrap
  simp [IntKind.bits, IntKind.signed]
theorem ofI (n : Nat) : (BitVec.ofInt 64 (n : Int)).toNat = n % 18446744073709551616 := by
  rw [BitVec.ofInt_natCast, BitVec.toNat_ofNat]
theorem xs_l (s : UInt64) (k : Nat) (hk : k < 64) : IntKind.u64.wrap ((BitVec.ofInt 64 (s.toNat : Int) ^^^ BitVec.ofInt 64 (IntKind.u64.wrap ((s.toNat : Int) * 2 ^ k))).toNat : Int) = (((s ^^^ s <<< UInt64.ofNat k).toNat : Nat) : Int) := by
  have h0 : ((s.toNat : Int) * 2 ^ k) = ((s.toNat * 2 ^ k : Nat) : Int) := by push_cast; rfl
  have h1 := s.toNat_lt
  have hk' : (UInt64.ofNat k).toNat % 64 = k := by rw [UInt64.toNat_ofNat']; omega
  rw [h0, wrapu, wrapu, BitVec.toNat_xor, ofI, ofI, UInt64.toNat_xor, UInt64.toNat_shiftLeft, hk', Nat.shiftLeft_eq]
  rw [Nat.mod_eq_of_lt (a := s.toNat) (by omega), Nat.mod_mod]
  rw [Nat.mod_eq_of_lt (Nat.xor_lt_two_pow (n := 64) (by omega) (Nat.mod_lt _ (by decide)))]
theorem xs_r (s : UInt64) (k : Nat) (hk : k < 64) : IntKind.u64.wrap ((BitVec.ofInt 64 (s.toNat : Int) ^^^ BitVec.ofInt 64 (((s.toNat : Int)).fdiv (2 ^ k))).toNat : Int) = (((s ^^^ s >>> UInt64.ofNat k).toNat : Nat) : Int) := by
  have h1 := s.toNat_lt
  have hk' : (UInt64.ofNat k).toNat % 64 = k := by rw [UInt64.toNat_ofNat']; omega
  have h2 : s.toNat / 2 ^ k ≤ s.toNat := Nat.div_le_self _ _
  rw [shr_n, wrapu, BitVec.toNat_xor, ofI, ofI, UInt64.toNat_xor, UInt64.toNat_shiftRight, hk', Nat.shiftRight_eq_div_pow]
  rw [Nat.mod_eq_of_lt (a := s.toNat) (by omega), Nat.mod_eq_of_lt (a := s.toNat / 2 ^ k) (by omega)]
  rw [Nat.mod_eq_of_lt (Nat.xor_lt_two_pow (n := 64) (by omega) (by omega))]
section
variable {σ : St}
theorem len64_at {x : Nat} (h : x < 4294967296) : AT Try.prog 123 [u64 x] σ fun r σ' => r = int (bitsLen x) ∧ σ' = σ := by
  refine AT.of_body Try.func123 rfl (by decide) (by kernel_rfl) (by kernel_rfl) (Nat.le_of_ble_eq_true rfl) ?_
  have d1 := decide_eq_false (show ¬ (4294967296 : Int) ≤ (x : Int) by omega)
  simp only [go_sem, d1, reduceIte, Nat.reduceEqDiff, Nat.reduceAdd, Nat.reduceMul, Nat.reduceSub, Nat.reduceLT, Nat.reduceLeDiff, Int.reduceLE, Int.reduceLT, Int.reduceToNat, Int.reduceEq]
  refine aIf_meet (fun fr σ' => ∃ y k : Nat, y < 65536 ∧ k ≤ 16 ∧ bitsLen x = bitsLen y + k ∧ fr 0 = u64 y ∧ fr 2 = int k ∧ σ' = σ) (fun g1 => ?_) (fun g1 => ?_) ?_
  · have e1 : ((x : Int)).fdiv (2 ^ min 16 64) = ((x / 65536 : Nat) : Int) := shr_n x 16
    simp only [go_sem, e1, reduceIte, Nat.reduceEqDiff, Nat.reduceAdd, Nat.reduceMul, Nat.reduceSub, Nat.reduceLT, Nat.reduceLeDiff, Int.reduceLE, Int.reduceLT, Int.reduceToNat, Int.reduceEq]
    refine ⟨x / 65536, 16, by omega, by omega, ?_, rfl, rfl⟩
    rw [bl_256 (by omega), bl_256 (x := x / 256) (by omega), Nat.div_div_eq_div_mul]
  · simp only [go_sem, reduceIte, Nat.reduceEqDiff, Nat.reduceAdd, Nat.reduceMul, Nat.reduceSub, Nat.reduceLT, Nat.reduceLeDiff, Int.reduceLE, Int.reduceLT, Int.reduceToNat, Int.reduceEq]
    exact ⟨x, 0, by omega, by omega, rfl, rfl, rfl⟩
  rintro fr σ1 ⟨y, k, hy, hk, he, f0, f2, rfl⟩
  rw [he]
  clear d1 h he
  simp only [go_sem, f0, f2, reduceIte, Nat.reduceEqDiff, Nat.reduceAdd, Nat.reduceMul, Nat.reduceSub, Nat.reduceLT, Nat.reduceLeDiff, Int.reduceLE, Int.reduceLT, Int.reduceToNat, Int.reduceEq]
  refine aIf_meet (fun fr σ' => ∃ z l : Nat, z < 256 ∧ l ≤ 24 ∧ bitsLen y + k = bitsLen z + l ∧ fr 0 = u64 z ∧ fr 2 = int l ∧ σ' = σ1) (fun g1 => ?_) (fun g1 => ?_) ?_
  · have e1 : ((y : Int)).fdiv (2 ^ min 8 64) = ((y / 256 : Nat) : Int) := shr_n y 8
    have e2 : IntKind.i64.wrap ((k : Int) + 8) = ((k + 8 : Nat) : Int) := by rw [wrap64 (by omega)]; omega
    simp only [go_sem, f0, f2, e1, e2, reduceIte, Nat.reduceEqDiff, Nat.reduceAdd, Nat.reduceMul, Nat.reduceSub, Nat.reduceLT, Nat.reduceLeDiff, Int.reduceLE, Int.reduceLT, Int.reduceToNat, Int.reduceEq]
    refine ⟨y / 256, k + 8, by omega, by omega, ?_, rfl, rfl⟩
    rw [bl_256 (by omega)]; omega
  · simp only [go_sem, f0, f2, reduceIte, Nat.reduceEqDiff, Nat.reduceAdd, Nat.reduceMul, Nat.reduceSub, Nat.reduceLT, Nat.reduceLeDiff, Int.reduceLE, Int.reduceLT, Int.reduceToNat, Int.reduceEq]
    exact ⟨y, k, by omega, by omega, rfl, rfl, rfl⟩
  rintro fr σ2 ⟨z, l, hz, hl, he, f0, f2, rfl⟩
  rw [he]
  have e3 : IntKind.u8.wrap (z : Int) = (z : Int) := wrap8 (by omega)
  simp only [go_sem, f0, f2, e3, reduceIte, Nat.reduceEqDiff, Nat.reduceAdd, Nat.reduceMul, Nat.reduceSub, Nat.reduceLT, Nat.reduceLeDiff, Int.reduceLE, Int.reduceLT, Int.reduceToNat, Int.reduceEq]
  refine ⟨Int.lt_of_lt_of_le (show (z : Int) < 256 by omega) (by decide +kernel), _, rfl, _, _, View.refl _ _, ?_, rfl⟩
  refine (congrArg (fun v : Nat => AV.v (Value.int .i64 (IntKind.i64.wrap ((l : Int) + IntKind.i64.wrap (v : Int))))) (len8_get hz _ (by kernel_rfl))).trans ?_
  have := bl_le hz
  show int (IntKind.i64.wrap ((l : Int) + IntKind.i64.wrap ((bitsLen z : Nat) : Int))) = _
  rw [wrap64 (x := ((bitsLen z : Nat) : Int)) (by omega), wrap64 (by omega)]
  show AV.v (Value.int .i64 ((l : Int) + (bitsLen z : Nat))) = AV.v (Value.int .i64 ((bitsLen z + l : Nat) : Int))
  rw [Int.natCast_add, Int.add_comm]
theorem len_at {x : Nat} (h : x < 4294967296) : AT Try.prog 87 [u64 x] σ fun r σ' => r = int (bitsLen x) ∧ σ' = σ := by
  refine AT.of_body Try.func87 rfl (by decide) (by kernel_rfl) (by kernel_rfl) (Nat.le_of_ble_eq_true rfl) ?_
  simp only [go_sem, reduceIte, Nat.reduceEqDiff, Nat.reduceAdd, Nat.reduceMul, Nat.reduceSub, Nat.reduceLT, Nat.reduceLeDiff, Int.reduceLE, Int.reduceLT, Int.reduceToNat, Int.reduceEq]
  refine (len64_at h).mono ?_
  rintro _ σ1 ⟨rfl, rfl⟩
  simp only [go_sem, reduceIte, Nat.reduceEqDiff, Nat.reduceAdd, Nat.reduceMul, Nat.reduceSub, Nat.reduceLT, Nat.reduceLeDiff, Int.reduceLE, Int.reduceLT, Int.reduceToNat, Int.reduceEq]
  exact aRet_as (r := int (bitsLen x)) rfl ⟨rfl, rfl⟩
theorem pow2_at {x : Nat} (h : x < 4294967296) : AT Try.prog 138 [int x] σ fun r σ' => r = u64 (1 <<< bitsLen x) ∧ σ' = σ := by
  refine AT.of_body Try.func138 rfl (by decide) (by kernel_rfl) (by kernel_rfl) (Nat.le_of_ble_eq_true rfl) ?_
  have e1 : IntKind.u64.wrap (x : Int) = (x : Int) := by
    unfold IntKind.wrap
    simp [IntKind.bits, IntKind.signed]
    omega
  simp only [go_sem, e1, reduceIte, Nat.reduceEqDiff, Nat.reduceAdd, Nat.reduceMul, Nat.reduceSub, Nat.reduceLT, Nat.reduceLeDiff, Int.reduceLE, Int.reduceLT, Int.reduceToNat, Int.reduceEq]
  refine (len_at h).mono ?_
  rintro _ σ1 ⟨rfl, rfl⟩
  have hb := bl_le32 h
  have e2 : IntKind.u64.wrap (1 * 2 ^ min (bitsLen x) 64) = ((1 <<< bitsLen x : Nat) : Int) := by
    rw [Nat.min_eq_left (by omega), Nat.one_shiftLeft]
    have h1 : 2 ^ bitsLen x ≤ 2 ^ 32 := Nat.pow_le_pow_right (by decide) hb
    have h2 : (1 : Int) * 2 ^ bitsLen x = ((2 ^ bitsLen x : Nat) : Int) := by push_cast; omega
    rw [h2, wrapu]
    generalize 2 ^ bitsLen x = y at h1 ⊢
    omega
  simp only [go_sem, e2, reduceIte, Nat.reduceEqDiff, Nat.reduceAdd, Nat.reduceMul, Nat.reduceSub, Nat.reduceLT, Nat.reduceLeDiff, Int.reduceLE, Int.reduceLT, Int.reduceToNat, Int.reduceEq]
  exact aRet_as (r := u64 (1 <<< bitsLen x)) rfl ⟨rfl, rfl⟩
theorem next_at {p : Nat} {s : UInt64} (hp : σ p = some (.cells [u64 s.toNat])) : AT Try.prog 139 [.v (.pointer (some ⟨p, 0, none⟩))] σ fun r σ' => r = u64 (xorNext s).toNat ∧ σ' = σ.set p (.cells [u64 (xorNext s).toNat]) := by
  refine AT.of_body Try.func139 rfl (by decide) (by kernel_rfl) (by kernel_rfl) (Nat.le_of_ble_eq_true rfl) ?_
  have e : xorNext s = ((s ^^^ s <<< 13) ^^^ (s ^^^ s <<< 13) >>> 7) ^^^ ((s ^^^ s <<< 13) ^^^ (s ^^^ s <<< 13) >>> 7) <<< 17 := rfl
  rw [e]
  simp only [go_sem, reduceIte, Nat.reduceEqDiff, Nat.reduceAdd, Nat.reduceMul, Nat.reduceSub, Nat.reduceLT, Nat.reduceLeDiff, Int.reduceLE, Int.reduceLT, Int.reduceToNat, Int.reduceEq]
  refine aDraw_plan [.rd 0 false, .rd 1 false, .rd 2 true, .rd 3 false, .rd 4 false, .rd 5 true, .rd 6 false, .rd 7 false, .rd 8 false, .ef 9 []] (by kernel_rfl) (by kernel_rfl) (by kernel_rfl) ?_
  have a1 : ∀ s : UInt64, bxor .u64 (s.toNat : Int) (IntKind.u64.wrap ((s.toNat : Int) * 2 ^ min 13 64)) = (((s ^^^ s <<< 13).toNat : Nat) : Int) := fun s => xs_l s 13 (by decide)
  have a2 : ∀ s : UInt64, bxor .u64 (s.toNat : Int) (((s.toNat : Int)).fdiv (2 ^ min 7 64)) = (((s ^^^ s >>> 7).toNat : Nat) : Int) := fun s => xs_r s 7 (by decide)
  have a3 : ∀ s : UInt64, bxor .u64 (s.toNat : Int) (IntKind.u64.wrap ((s.toNat : Int) * 2 ^ min 17 64)) = (((s ^^^ s <<< 17).toNat : Nat) : Int) := fun s => xs_l s 17 (by decide)
  simp only [go_sem, hp, a1, reduceIte, Nat.reduceEqDiff, Nat.reduceAdd, Nat.reduceMul, Nat.reduceSub, Nat.reduceLT, Nat.reduceLeDiff, Int.reduceLE, Int.reduceLT, Int.reduceToNat, Int.reduceEq]
  refine aDraw_plan [.rd 0 false, .rd 1 false, .rd 2 true, .rd 3 false, .rd 4 false, .rd 5 true, .rd 6 false, .rd 7 false, .rd 8 false, .ef 9 []] (by kernel_rfl) (by kernel_rfl) (by kernel_rfl) ?_
  simp only [go_sem, set_same, a2, reduceIte, Nat.reduceEqDiff, Nat.reduceAdd, Nat.reduceMul, Nat.reduceSub, Nat.reduceLT, Nat.reduceLeDiff, Int.reduceLE, Int.reduceLT, Int.reduceToNat, Int.reduceEq]
  refine aDraw_plan [.rd 0 false, .rd 1 false, .rd 2 true, .rd 3 false, .rd 4 false, .rd 5 true, .rd 6 false, .rd 7 false, .rd 8 false, .ef 9 []] (by kernel_rfl) (by kernel_rfl) (by kernel_rfl) ?_
  simp only [go_sem, set_same, a3, reduceIte, Nat.reduceEqDiff, Nat.reduceAdd, Nat.reduceMul, Nat.reduceSub, Nat.reduceLT, Nat.reduceLeDiff, Int.reduceLE, Int.reduceLT, Int.reduceToNat, Int.reduceEq]
  exact aRet_as (r := u64 _) rfl ⟨rfl, rfl⟩
end
end Go.Proofs.Ythdfpankebjleaa

/-
  Parts of rows; the sort of a slice that is nil; equal ones beside each other go (plain).
  Conditions: none.
-/
namespace Go.Proofs.Ythdfpankebjleaa
open Go Go.Av

section
variable {ag byt : Bool} {sz q eby b n c l h : Nat} {zr ez : List Value} {ik : IntKind} {σ : St} {K : AV → Prop} {k : AV → St → Prop}
theorem sli_row_from {p : Nat} (hp : p = l * q) (h0 : l ≤ n) (hn : n ≤ c) (hlc : l < c) (hk : K (.v (.slice (some ⟨b, p, none⟩) (n - l) (c - l)))) : aSli (some ⟨ag, sz, zr, .sl q eby ez byt⟩) σ (slv b n c) (some (.v (.int ik l))) .none .none K := by
  subst hp
  refine .inl ⟨b, 0, n, c, rfl, l, n, c, rfl, rfl, .inl ⟨rfl, rfl⟩, by omega, by omega, by omega, by omega, ?_⟩
  have e : offAt (c : Int).toNat (l : Int).toNat 0 q = l * q := by
    unfold offAt
    rw [if_neg (by simp; omega)]
    simp
  rw [e]
  simpa using hk
theorem sli_row_upto (h0 : h ≤ n) (hn : n ≤ c) (hk : K (slv b h c)) : aSli (some ⟨ag, sz, zr, .sl q eby ez byt⟩) σ (slv b n c) .none (some (.v (.int ik h))) .none K := by
  refine .inl ⟨b, 0, n, c, rfl, 0, h, c, rfl, rfl, .inl ⟨rfl, rfl⟩, by omega, by omega, by omega, by omega, ?_⟩
  have e : offAt (c : Int).toNat (0 : Int).toNat 0 q = 0 := by
    unfold offAt
    split <;> simp
  rw [e]
  simpa using hk
theorem iadr_row {m cc p : Nat} {j : Int} (hp : p = l * q) (hq : 0 < q) (h0 : 0 ≤ j) (h1 : j < m) (hk : K (.rp b q (l + j.toNat) 0)) : aIadr (some ⟨ag, sz, zr, .sl q eby ez byt⟩) σ (.v (.slice (some ⟨b, p, none⟩) m cc)) (.v (.int ik j)) K := by
  subst hp
  show (l * q) % q = 0 ∧ 0 ≤ j ∧ j < m ∧ K (.rp b q (l * q / q + j.toNat) 0)
  rw [Nat.mul_mod_left, Nat.mul_div_cancel _ hq]
  exact ⟨rfl, h0, h1, hk⟩
theorem clear_row {m cc cap p : Nat} {es : List (List AV)} (hp : p = l * q) (hb : σ b = some (.rows q es false cap)) (hq : 0 < q) (hm : 0 < m) (hl : l + m ≤ es.length) (hz : ez.all Value.oneCell' = true) (hk : k (.tup []) (σ.set b (.rows q (es.take l ++ List.replicate m (ez.map .v) ++ es.drop (l + m)) false cap))) :
    aClear (some ⟨ag, sz, zr, .sl q eby ez byt⟩) σ (.v (.slice (some ⟨b, p, none⟩) m cc)) k := by
  subst hp
  simp only [aClear]
  rw [if_neg (by omega)]
  simp only [hb, Nat.mul_div_cancel _ hq]
  exact ⟨trivial, hq, Nat.mul_mod_left _ _, hl, hz, hk⟩
/-- Of a row less is tracked. -/
theorem view_trim {es : List (List AV)} {cap m : Nat} (r : AV) (hb : σ b = some (.rows q es false cap)) : View σ r (σ.set b (.rows q (es.take m) false cap)) r := fun F w x hs hv => by
  refine ⟨F, ⟨.refl F w, rfl, rfl, rfl, Nat.le_refl _, fun y _ hy => ⟨rfl, ?_, rfl⟩⟩, ⟨fun y o hy => ?_, hs.lt⟩, hv⟩
  · rw [set_ne (fun e => by rw [e, hb] at hy; cases hy)]; exact hy
  · by_cases e : y = b
    · subst e
      rw [set_same] at hy
      injection hy with hy
      subst hy
      obtain ⟨c, e, m', g1, g2, g3, g4, g5, g6, g7⟩ := hs.obj y _ hb
      refine ⟨c, e, m', g1, g2, by simp; omega, fun x hx => g4 x (List.mem_of_mem_take hx), g5, g6, fun i j hi hj => ?_⟩
      have hi' : i < es.length := by simp at hi; omega
      have : (es.take m).getD i [] = es.getD i [] := by
        simp only [List.getD_eq_getElem?_getD]
        rw [List.getElem?_take_of_lt (by simp at hi; omega)]
      rw [this]
      exact g7 i j hi' hj
    · rw [set_ne e] at hy
      exact hs.obj y o hy
end
/-- Of what is the same beside each other the first is kept. -/
def cptA {α : Type} (e : α → α → Bool) : α → List α → List α
  | _, [] => []
  | p, y :: l => if e y p = true then cptA e y l else y :: cptA e y l
def cptB {α : Type} (e : α → α → Bool) : List α → List α
  | [] => []
  | x :: l => x :: cptA e x l
theorem cptA_cons {α : Type} {e : α → α → Bool} {p y : α} {l : List α} : cptA e p (y :: l) = if e y p = true then cptA e y l else y :: cptA e y l := rfl
theorem cptB_start {α : Type} {e : α → α → Bool} {l : List α} (h : 0 < l.length) : cptB e l = l.take 1 ++ cptA e l[0] (l.drop 1) := by
  cases l with
  | nil => simp at h
  | cons x l => rfl
theorem cptB_short {α : Type} {e : α → α → Bool} {l : List α} (h : l.length < 2) : cptB e l = l := by
  match l, h with
  | [], _ => rfl
  | [x], _ => rfl
  | x :: y :: l, h => simp at h; omega
theorem cptA_len {α : Type} (e : α → α → Bool) : ∀ (l : List α) (p : α), (cptA e p l).length ≤ l.length
  | [], _ => by simp [cptA]
  | y :: l, p => by
    unfold cptA
    have := cptA_len e l y
    split <;> simp only [List.length_cons] <;> omega
theorem cptB_len {α : Type} (e : α → α → Bool) (l : List α) : (cptB e l).length ≤ l.length := by
  cases l with
  | nil => simp [cptB]
  | cons x l => have := cptA_len e l x; simp only [cptB, List.length_cons]; omega
theorem cptB_mem {α : Type} {e : α → α → Bool} {l : List α} {x : α} (h : x ∈ cptB e l) : x ∈ l := by
  have hA : ∀ (l : List α) (p : α), x ∈ cptA e p l → x ∈ l := by
    intro l
    induction l with
    | nil => intro p h; cases h
    | cons y l ih =>
      intro p h
      unfold cptA at h
      split at h
      · exact List.mem_cons_of_mem _ (ih _ h)
      · rcases List.mem_cons.1 h with rfl | h
        · exact List.mem_cons_self ..
        · exact List.mem_cons_of_mem _ (ih _ h)
  cases l with
  | nil => cases h
  | cons y l =>
    rcases List.mem_cons.1 h with rfl | h
    · exact List.mem_cons_self ..
    · exact List.mem_cons_of_mem _ (hA _ _ h)
section
variable {σ : St}
theorem insnilL_at (g : Nat) : AT Try.prog 114 [nilS, int 0, int 0, fnv g] σ fun _ σ' => σ' = σ := by
  refine AT.of_body Try.func114 rfl (by decide) (by kernel_rfl) (by kernel_rfl) (Nat.le_of_ble_eq_true rfl) ?_
  have w : IntKind.i64.wrap (0 + 1) = 1 := by rw [wrap64 (by omega)]; rfl
  simp only [go_sem, r_block, w, reduceIte, Nat.reduceEqDiff, Nat.reduceAdd, Nat.reduceMul, Nat.reduceSub, Nat.reduceLT, Nat.reduceLeDiff, Int.reduceLE, Int.reduceLT, Int.reduceToNat, Int.reduceEq]
  refine aLoop_few 1 ?_
  simp only [go_sem, r_block, reduceIte, Nat.reduceEqDiff, Nat.reduceAdd, Nat.reduceMul, Nat.reduceSub, Nat.reduceLT, Nat.reduceLeDiff, Int.reduceLE, Int.reduceLT, Int.reduceToNat, Int.reduceEq]
  exact aRet_as (r := .tup []) rfl rfl
theorem pdqnilL_at (g : Nat) (lim : Nat) : AT Try.prog 86 [nilS, int 0, int 0, int lim, fnv g] σ fun _ σ' => σ' = σ := by
  refine AT.of_body Try.func86 rfl (by decide) (by kernel_rfl) (by kernel_rfl) (Nat.le_of_ble_eq_true rfl) ?_
  have w : IntKind.i64.wrap (0 - 0) = 0 := by rw [wrap64 (by omega)]; rfl
  simp only [go_sem, r_block, reduceIte, Nat.reduceEqDiff, Nat.reduceAdd, Nat.reduceMul, Nat.reduceSub, Nat.reduceLT, Nat.reduceLeDiff, Int.reduceLE, Int.reduceLT, Int.reduceToNat, Int.reduceEq]
  refine aLoop_few 1 ?_
  simp only [go_sem, r_block, w, reduceIte, Nat.reduceEqDiff, Nat.reduceAdd, Nat.reduceMul, Nat.reduceSub, Nat.reduceLT, Nat.reduceLeDiff, Int.reduceLE, Int.reduceLT, Int.reduceToNat, Int.reduceEq]
  refine (insnilL_at g).mono ?_
  rintro _ _ rfl
  simp only [go_sem, r_block, reduceIte, Nat.reduceEqDiff, Nat.reduceAdd, Nat.reduceMul, Nat.reduceSub, Nat.reduceLT, Nat.reduceLeDiff, Int.reduceLE, Int.reduceLT, Int.reduceToNat, Int.reduceEq]
  exact aRet_as (r := .tup []) rfl rfl
theorem sortnilL_at (g : Nat) : AT Try.prog 56 [nilS, fnv g] σ fun _ σ' => σ' = σ := by
  refine AT.of_body Try.func56 rfl (by decide) (by kernel_rfl) (by kernel_rfl) (Nat.le_of_ble_eq_true rfl) ?_
  have w1 : IntKind.u64.wrap (0 : Int) = (0 : Int) := by simp [IntKind.wrap, IntKind.signed, IntKind.bits]
  simp only [go_sem, w1, reduceIte, Nat.reduceEqDiff, Nat.reduceAdd, Nat.reduceMul, Nat.reduceSub, Nat.reduceLT, Nat.reduceLeDiff, Int.reduceLE, Int.reduceLT, Int.reduceToNat, Int.reduceEq]
  refine (len_at (x := 0) (by omega)).mono ?_
  rintro _ σ1 ⟨rfl, rfl⟩
  simp only [go_sem, reduceIte, Nat.reduceEqDiff, Nat.reduceAdd, Nat.reduceMul, Nat.reduceSub, Nat.reduceLT, Nat.reduceLeDiff, Int.reduceLE, Int.reduceLT, Int.reduceToNat, Int.reduceEq]
  refine (pdqnilL_at g _).mono ?_
  rintro _ _ rfl
  simp only [go_sem, reduceIte, Nat.reduceEqDiff, Nat.reduceAdd, Nat.reduceMul, Nat.reduceSub, Nat.reduceLT, Nat.reduceLeDiff, Int.reduceLE, Int.reduceLT, Int.reduceToNat, Int.reduceEq]
  exact aRet_as (r := .tup []) rfl rfl
end
end Go.Proofs.Ythdfpankebjleaa

/-
  Equal ones beside each other go: the library's CompactFunc, of lists of facts.
  Conditions: none.
-/
namespace Go.Proofs.Ythdfpankebjleaa.L
open Go Go.Av Go.Sort

section
variable {α : Type} {en : α → List AV} (hl : ∀ x, (en x).length = 1) (ho : ∀ x, (en x).all AV.one = true) (hce : ∀ x, ((en x).getD 0 (.v undef)).cells = en x) {e : α → α → Bool} {g : Nat} {β : St} (hC : ∀ σ', (∀ x o, β x = some o → σ' x = some o) → ∀ x y, AT Try.prog g [(en x).getD 0 (.v undef), (en y).getD 0 (.v undef)] σ' fun r σ'' => r = boo (e x y) ∧ σ'' = σ')
variable {b cap : Nat} (hn : β b = none)
include hl ho hce hC hn
theorem compact_at {σ : St} {l : List α} (hb : σ b = some (.rows 1 (l.map en) false cap)) (hs : ∀ x o, β x = some o → σ x = some o) (hcap : l.length ≤ cap) (hsz : l.length ≤ 1000000000) : AT Try.prog 58 [slv b l.length cap, fnv g] σ fun r σ' => r = slv b (cptB e l).length cap ∧ σ' = σ.set b (.rows 1 ((cptB e l).map en) false cap) := by
  refine AT.of_body Try.func58 rfl (by decide) (by kernel_rfl) (by kernel_rfl) (Nat.le_of_ble_eq_true rfl) ?_
  have e4 : ∀ x, (en x).take 1 = en x := fun x => List.take_of_length_le (by rw [hl]; omega)
  have e5 : ∀ x y, en x ++ List.drop 1 (en y) = en x := fun x y => by rw [List.drop_eq_nil_of_le (by rw [hl]; omega), List.append_nil]
  have eg : ∀ j (hj : j < l.length), (l.map en).getD j [] = en l[j] := fun j hj => by simp [List.getD_eq_getElem?_getD, hj]
  have same : ∀ {fr : Fr} {m : Nat}, m = l.length → cptB e l = l → aResult Try.prog fr σ (Try.f58).results.toList = some (slv b l.length cap) → aRet Try.prog (fun r σ' => r = slv b (cptB e l).length cap ∧ σ' = σ.set b (.rows 1 ((cptB e l).map en) false cap)) (Try.f58).results.toList fr σ := fun _ he hr =>
    aRet_as hr ⟨by rw [he], by rw [he]; exact (set_id hb).symm⟩
  simp only [go_sem, reduceIte, Nat.reduceEqDiff, Nat.reduceAdd, Nat.reduceMul, Nat.reduceSub, Nat.reduceLT, Nat.reduceLeDiff, Int.reduceLE, Int.reduceLT, Int.reduceToNat, Int.reduceEq]
  refine aIf_by (fun h2 => ?_) (fun h2 => ?_)
  · simp only [go_sem, reduceIte, Nat.reduceEqDiff, Nat.reduceAdd, Nat.reduceMul, Nat.reduceSub, Nat.reduceLT, Nat.reduceLeDiff, Int.reduceLE, Int.reduceLT, Int.reduceToNat, Int.reduceEq]
    exact same rfl (cptB_short (by omega)) rfl
  · simp only [go_sem, r_block, reduceIte, Nat.reduceEqDiff, Nat.reduceAdd, Nat.reduceMul, Nat.reduceSub, Nat.reduceLT, Nat.reduceLeDiff, Int.reduceLE, Int.reduceLT, Int.reduceToNat, Int.reduceEq]
    refine ⟨fun m fr σ' => ∃ (k : Nat) (hk : 0 < k) (hkn : k ≤ l.length), m = l.length - k ∧ σ' = σ ∧ cptB e l = l.take k ++ cptA e (l[k - 1]'(by omega)) (l.drop k) ∧ fr 0 = slv b l.length cap ∧ fr 1 = fnv g ∧ fr 5 = int k, ⟨_, 1, by omega, by omega, rfl, rfl, cptB_start (by omega), rfl, rfl, rfl⟩, ?_⟩
    rintro m fr σ ⟨k, hk, hkn, rfl, rfl, hI, f0, f1, f5⟩
    simp only [go_sem, f0, f5, reduceIte, Nat.reduceEqDiff, Nat.reduceAdd, Nat.reduceMul, Nat.reduceSub, Nat.reduceLT, Nat.reduceLeDiff, Int.reduceLE, Int.reduceLT, Int.reduceToNat, Int.reduceEq]
    refine aIf_by (fun hlt => ?_) (fun hlt => ?_)
    · have hkl : k < l.length := by omega
      have w1 : IntKind.i64.wrap ((k : Int) - 1) = ((k - 1 : Nat) : Int) := by rw [wrap64 (by omega)]; omega
      have q1 := eg k hkl
      have q2 := eg (k - 1) (by omega)
      have ed : l.drop k = l[k] :: l.drop (k + 1) := List.drop_eq_getElem_cons hkl
      rw [ed] at hI
      simp only [go_sem, r_block, reduceIte, Nat.reduceEqDiff, Nat.reduceAdd, Nat.reduceMul, Nat.reduceSub, Nat.reduceLT, Nat.reduceLeDiff, Int.reduceLE, Int.reduceLT, Int.reduceToNat, Int.reduceEq]
      refine aDraw_plan [.rd 0 false, .rd 1 false, .rd 2 false, .rd 3 false, .rd 4 true, .rd 5 false, .rd 6 false, .rd 7 false, .rd 8 false, .rd 9 true, .ef 10 []] (by kernel_rfl) (by kernel_rfl) (by kernel_rfl) ?_
      simp only [go_sem, r_block, f0, f1, f5, w1, hb, q1, q2, e4, hl, List.length_map, reduceIte, Nat.reduceEqDiff, Nat.reduceAdd, Nat.reduceMul, Nat.reduceSub, Nat.reduceLT, Nat.reduceLeDiff, Int.reduceLE, Int.reduceLT, Int.reduceToNat, Int.reduceEq]
      refine ⟨by omega, by omega, by omega, by omega, (hC _ hs _ _).mono ?_⟩
      rintro _ σ ⟨rfl, rfl⟩
      simp only [go_sem, r_block, reduceIte, Nat.reduceEqDiff, Nat.reduceAdd, Nat.reduceMul, Nat.reduceSub, Nat.reduceLT, Nat.reduceLeDiff, Int.reduceLE, Int.reduceLT, Int.reduceToNat, Int.reduceEq]
      refine aIf_bool (fun h0 => ?_) (fun h0 => ?_)
      · have hI : cptB e l = l.take k ++ cptA e l[k] (l.drop (k + 1)) := by rw [hI, cptA_cons, if_pos h0]
        simp only [go_sem, r_block, f0, f5, reduceIte, Nat.reduceEqDiff, Nat.reduceAdd, Nat.reduceMul, Nat.reduceSub, Nat.reduceLT, Nat.reduceLeDiff, Int.reduceLE, Int.reduceLT, Int.reduceToNat, Int.reduceEq]
        refine sli_row_from (p := k) (by omega) (by omega) hcap (by omega) ?_
        simp only [go_sem, r_block, reduceIte, Nat.reduceEqDiff, Nat.reduceAdd, Nat.reduceMul, Nat.reduceSub, Nat.reduceLT, Nat.reduceLeDiff, Int.reduceLE, Int.reduceLT, Int.reduceToNat, Int.reduceEq]
        refine ⟨fun m fr σ' => ∃ (w j : Nat) (es : List (List AV)) (hj : k < j) (hjn : j ≤ l.length) (res : List α), m = l.length - j ∧ w < j ∧ es.length = l.length ∧ (∀ i, i < l.length → (es.getD i []).length = 1) ∧ σ' = σ.set b (.rows 1 es false cap) ∧ res.length = w ∧ es.take w = res.map en ∧ es.drop (j - 1) = (l.drop (j - 1)).map en ∧ cptB e l = res ++ cptA e (l[j - 1]'(by omega)) (l.drop j) ∧ fr 0 = slv b l.length cap ∧ fr 1 = fnv g ∧ fr 5 = int w ∧ fr 6 = .v (.slice (some ⟨b, k, none⟩) (l.length - k) (cap - k)) ∧ fr 7 = int (j - k : Nat),
          ⟨_, k, k + 1, l.map en, by omega, by omega, l.take k, rfl, by omega, by simp, (fun i hi => by rw [eg i hi, hl]), (set_id hb).symm, by simp; omega, by simp [List.map_take], by simp [List.map_drop], hI, f0, f1, f5, rfl, by rw [show k + 1 - k = 1 by omega]; rfl⟩, ?_⟩
        clear hI f0 f1 f5 h0 hlt w1 q1 q2 ed fr
        rintro m fr σ' ⟨w, j, es, hj, hjn, res, rfl, hwj, hes, he1, rfl, hres, ht, hd, hI, f0, f1, f5, f6, f7⟩
        have hge : ∀ i, j - 1 ≤ i → ∀ hi : i < l.length, es.getD i [] = en l[i] := fun i h1 h2 => by
          have := congrArg (fun x => x.getD (i - (j - 1)) []) hd
          simp only [List.getD_eq_getElem?_getD, List.getElem?_drop, List.getElem?_map] at this
          rw [show j - 1 + (i - (j - 1)) = i by omega] at this
          simpa [List.getD_eq_getElem?_getD, h2] using this
        simp only [go_sem, f6, f7, reduceIte, Nat.reduceEqDiff, Nat.reduceAdd, Nat.reduceMul, Nat.reduceSub, Nat.reduceLT, Nat.reduceLeDiff, Int.reduceLE, Int.reduceLT, Int.reduceToNat, Int.reduceEq]
        refine aIf_by (fun hlt => ?_) (fun hlt => ?_)
        · have hjl : j < l.length := by omega
          have w2 : IntKind.i64.wrap (((j - k : Nat) : Int) - 1) = ((j - k - 1 : Nat) : Int) := by rw [wrap64 (by omega)]; omega
          have p1 := hge j (by omega) hjl
          have p2 := hge (j - 1) (by omega) (by omega)
          have ed : l.drop j = l[j] :: l.drop (j + 1) := List.drop_eq_getElem_cons hjl
          have a1 : k + (j - k) = j := by omega
          have a2 : k + (j - k - 1) = j - 1 := by omega
          rw [ed] at hI
          simp only [go_sem, r_block, reduceIte, Nat.reduceEqDiff, Nat.reduceAdd, Nat.reduceMul, Nat.reduceSub, Nat.reduceLT, Nat.reduceLeDiff, Int.reduceLE, Int.reduceLT, Int.reduceToNat, Int.reduceEq]
          refine aDraw_plan [.rd 0 false, .rd 1 false, .rd 2 false, .rd 3 false, .rd 4 true, .rd 5 false, .rd 6 false, .rd 7 false, .rd 8 false, .rd 9 true, .ef 10 [], .rd 11 false] (by kernel_rfl) (by kernel_rfl) (by kernel_rfl) ?_
          simp only [go_sem, r_block, f1, f6, f7, w2, reduceIte, Nat.reduceEqDiff, Nat.reduceAdd, Nat.reduceMul, Nat.reduceSub, Nat.reduceLT, Nat.reduceLeDiff, Int.reduceLE, Int.reduceLT, Int.reduceToNat, Int.reduceEq]
          refine iadr_row (l := k) (by omega) (by decide) (by omega) (by omega) ?_
          simp only [go_sem, r_block, a1, set_same, p1, e4, hl, hes, f6, f7, w2, reduceIte, Nat.reduceEqDiff, Nat.reduceAdd, Nat.reduceMul, Nat.reduceSub, Nat.reduceLT, Nat.reduceLeDiff, Int.reduceLE, Int.reduceLT, Int.reduceToNat, Int.reduceEq]
          refine ⟨by omega, iadr_row (l := k) (by omega) (by decide) (by omega) (by omega) ?_⟩
          simp only [go_sem, r_block, a2, set_same, p2, e4, hl, hes, f1, reduceIte, Nat.reduceEqDiff, Nat.reduceAdd, Nat.reduceMul, Nat.reduceSub, Nat.reduceLT, Nat.reduceLeDiff, Int.reduceLE, Int.reduceLT, Int.reduceToNat, Int.reduceEq]
          refine ⟨by omega, (hC _ (sub_set hn hs) _ _).mono ?_⟩
          rintro _ σ1 ⟨rfl, rfl⟩
          simp only [go_sem, r_block, reduceIte, Nat.reduceEqDiff, Nat.reduceAdd, Nat.reduceMul, Nat.reduceSub, Nat.reduceLT, Nat.reduceLeDiff, Int.reduceLE, Int.reduceLT, Int.reduceToNat, Int.reduceEq]
          refine aIf_bool (fun h0 => ?_) (fun h0 => ?_)
          · have hI : cptB e l = res ++ cptA e l[j] (l.drop (j + 1)) := by rw [hI, cptA_cons, if_pos h0]
            have n1 : IntKind.i64.wrap (((j - k : Nat) : Int) + 1) = ((j + 1 - k : Nat) : Int) := by rw [wrap64 (by omega)]; omega
            simp only [go_sem, r_block, f0, f1, f5, f6, f7, n1, reduceIte, Nat.reduceEqDiff, Nat.reduceAdd, Nat.reduceMul, Nat.reduceSub, Nat.reduceLT, Nat.reduceLeDiff, Int.reduceLE, Int.reduceLT, Int.reduceToNat, Int.reduceEq]
            refine ⟨l.length - (j + 1), by omega, w, j + 1, es, by omega, by omega, res, rfl, by omega, hes, he1, rfl, hres, ht, ?_, hI, rfl, rfl⟩
            rw [Nat.add_sub_cancel, show j = j - 1 + 1 by omega, ← List.drop_drop, hd, ← List.map_drop, List.drop_drop]
          · have hI : cptB e l = (res ++ [l[j]]) ++ cptA e l[j] (l.drop (j + 1)) := by rw [hI, cptA_cons, if_neg (by rw [h0]; decide), List.append_assoc]; rfl
            have n1 : IntKind.i64.wrap (((j - k : Nat) : Int) + 1) = ((j + 1 - k : Nat) : Int) := by rw [wrap64 (by omega)]; omega
            have dz : List.drop 1 (es.getD w []) = [] := List.drop_eq_nil_of_le (by rw [he1 w (by omega)]; omega)
            simp only [go_sem, r_block, f0, f1, f5, f6, f7, n1, reduceIte, Nat.reduceEqDiff, Nat.reduceAdd, Nat.reduceMul, Nat.reduceSub, Nat.reduceLT, Nat.reduceLeDiff, Int.reduceLE, Int.reduceLT, Int.reduceToNat, Int.reduceEq]
            refine iadr_row (l := k) (by omega) (by decide) (by omega) (by omega) ?_
            simp only [go_sem, r_block, a1, set_same, p1, e4, hl, hes, f0, f1, f5, f6, f7, n1, dz, List.append_nil, hce, ho, set_set, next64 (show w < 9223372036854775807 by omega), reduceIte, Nat.reduceEqDiff, Nat.reduceAdd, Nat.reduceMul, Nat.reduceSub, Nat.reduceLT, Nat.reduceLeDiff, Int.reduceLE, Int.reduceLT, Int.reduceToNat, Int.reduceEq]
            refine ⟨by omega, by omega, by omega, l.length - (j + 1), by omega, w + 1, j + 1, es.set w (en l[j]), by omega, by omega, res ++ [l[j]], rfl, by omega, by simp; omega, fun i hi => ?_, rfl, by simp; omega, ?_, ?_, hI, rfl, rfl⟩
            · simp only [List.getD_eq_getElem?_getD, List.getElem?_set]
              split
              · rw [if_pos (by omega)]; exact hl _
              · have := he1 i hi
                rwa [List.getD_eq_getElem?_getD] at this
            · rw [List.take_add_one, List.take_set_of_le (by omega), ht]
              simp [show w < es.length by omega]
            · rw [Nat.add_sub_cancel, List.drop_set_of_lt (by omega), show j = j - 1 + 1 by omega, ← List.drop_drop, hd, ← List.map_drop, List.drop_drop]
        · rw [List.drop_of_length_le (by omega)] at hI
          have hI : cptB e l = res := by rw [hI]; simp [cptA]
          simp only [go_sem, r_block, f0, f5, reduceIte, Nat.reduceEqDiff, Nat.reduceAdd, Nat.reduceMul, Nat.reduceSub, Nat.reduceLT, Nat.reduceLeDiff, Int.reduceLE, Int.reduceLT, Int.reduceToNat, Int.reduceEq]
          refine sli_row_from (p := w) (by omega) (by omega) hcap (by omega) ?_
          simp only [go_sem, r_block, reduceIte, Nat.reduceEqDiff, Nat.reduceAdd, Nat.reduceMul, Nat.reduceSub, Nat.reduceLT, Nat.reduceLeDiff, Int.reduceLE, Int.reduceLT, Int.reduceToNat, Int.reduceEq]
          refine clear_row (l := w) (by omega) set_same (by decide) (by omega) (by omega) (by decide) ?_
          simp only [go_sem, r_block, set_set, f0, f5, reduceIte, Nat.reduceEqDiff, Nat.reduceAdd, Nat.reduceMul, Nat.reduceSub, Nat.reduceLT, Nat.reduceLeDiff, Int.reduceLE, Int.reduceLT, Int.reduceToNat, Int.reduceEq]
          refine sli_row_upto (by omega) hcap ?_
          simp only [go_sem, r_block, reduceIte, Nat.reduceEqDiff, Nat.reduceAdd, Nat.reduceMul, Nat.reduceSub, Nat.reduceLT, Nat.reduceLeDiff, Int.reduceLE, Int.reduceLT, Int.reduceToNat, Int.reduceEq]
          have hw : (cptB e l).length = w := by rw [hI]; exact hres
          refine aRet_view (r := slv b w cap) rfl _ _ (view_trim (m := w) _ set_same) ⟨by rw [hw], ?_⟩
          rw [set_set, List.append_assoc, List.take_append_of_le_length (by simp; omega), List.take_take, Nat.min_self, ht, hI]
      · have hI : cptB e l = l.take (k + 1) ++ cptA e l[k] (l.drop (k + 1)) := by
          have e1 : l.take (k + 1) = l.take k ++ [l[k]] := by rw [List.take_add_one, List.getElem?_eq_getElem hkl]; rfl
          rw [hI, e1, cptA_cons, if_neg (by rw [h0]; decide), List.append_assoc]; rfl
        simp only [go_sem, r_block, f0, f1, f5, next64 (show k < 9223372036854775807 by omega), reduceIte, Nat.reduceEqDiff, Nat.reduceAdd, Nat.reduceMul, Nat.reduceSub, Nat.reduceLT, Nat.reduceLeDiff, Int.reduceLE, Int.reduceLT, Int.reduceToNat, Int.reduceEq]
        exact ⟨l.length - (k + 1), by omega, k + 1, by omega, by omega, rfl, hI, rfl⟩
    · simp only [go_sem, r_block, f0, reduceIte, Nat.reduceEqDiff, Nat.reduceAdd, Nat.reduceMul, Nat.reduceSub, Nat.reduceLT, Nat.reduceLeDiff, Int.reduceLE, Int.reduceLT, Int.reduceToNat, Int.reduceEq]
      refine same rfl ?_ rfl
      rw [hI, List.drop_of_length_le (by omega), List.take_of_length_le (by omega)]
      simp [cptA]
end
end Go.Proofs.Ythdfpankebjleaa.L

/-
  The library's sort, of lists of facts: by insertion.
  Conditions: none.
-/
namespace Go.Proofs.Ythdfpankebjleaa.L
open Go Go.Av Go.Sort

section
variable {α : Type} [Inhabited α] {en : α → List AV} (hl : ∀ x, (en x).length = 1) (ho : ∀ x, (en x).all AV.one = true) (hce : ∀ x, ((en x).getD 0 (.v undef)).cells = en x) {cf : α → α → Int} {g : Nat} {β : St} (hC : ∀ σ', (∀ x o, β x = some o → σ' x = some o) → ∀ x y, AT Try.prog g [(en x).getD 0 (.v undef), (en y).getD 0 (.v undef)] σ' fun r σ'' => r = int (cf x y) ∧ σ'' = σ')
variable {σ : St} {b cap : Nat} {d : Array α} (hb : σ b = some (.rows 1 (rw' en d) false cap)) (hn : β b = none) (hs : ∀ x o, β x = some o → σ x = some o) {n : Nat} (hd : d.size = n) (hsz : n ≤ 1000000000)
include hl ho hce hC hb hn hs hd hsz
theorem ins_at {a e : Nat} (he : e ≤ n) (ha : a ≤ n) : AT Try.prog 114 [slv b n cap, int a, int e, fnv g] σ fun _ σ' => σ' = σ.set b (.rows 1 (rw' en (insertionSort (ltc cf) d a e)) false cap) := by
  refine AT.of_body Try.func114 rfl (by decide) (by kernel_rfl) (by kernel_rfl) (Nat.le_of_ble_eq_true rfl) ?_
  have sub : ∀ d', ∀ x o, β x = some o → (σ.set b (.rows 1 (rw' en d') false cap)) x = some o := fun d' x o hx => by
    have : x ≠ b := fun e => by subst e; rw [hn] at hx; cases hx
    rw [set_ne this]; exact hs x o hx
  have e4 : ∀ x, (en x).take 1 = en x := fun x => List.take_of_length_le (by rw [hl]; omega)
  have e5 : ∀ x y, en x ++ List.drop 1 (en y) = en x := fun x y => by rw [List.drop_eq_nil_of_le (by rw [hl]; omega), List.append_nil]
  simp only [go_sem, r_block, next64 (show a < 9223372036854775807 by omega), reduceIte, Nat.reduceEqDiff, Nat.reduceAdd, Nat.reduceMul, Nat.reduceSub, Nat.reduceLT, Nat.reduceLeDiff, Int.reduceLE, Int.reduceLT, Int.reduceToNat, Int.reduceEq]
  refine ⟨fun m fr σ' => ∃ (i : Nat) (d' : Array α), m = e - i ∧ a < i ∧ d'.size = n ∧ insOuter (ltc cf) a e i d' = insertionSort (ltc cf) d a e ∧ σ' = σ.set b (.rows 1 (rw' en d') false cap) ∧ fr 0 = slv b n cap ∧ fr 1 = int a ∧ fr 2 = int e ∧ fr 3 = fnv g ∧ fr 8 = int i, ⟨_, a + 1, d, rfl, by omega, hd, rfl, (set_id hb).symm, rfl, rfl, rfl, rfl, rfl⟩, ?_⟩
  rintro m fr σ' ⟨i, d', rfl, hi, hd', hI, rfl, f0, f1, f2, f3, f8⟩
  simp only [go_sem, f2, f8, reduceIte, Nat.reduceEqDiff, Nat.reduceAdd, Nat.reduceMul, Nat.reduceSub, Nat.reduceLT, Nat.reduceLeDiff, Int.reduceLE, Int.reduceLT, Int.reduceToNat, Int.reduceEq]
  refine aIf_by (fun hlt => ?_) (fun hlt => ?_)
  · simp only [go_sem, r_block, f8, reduceIte, Nat.reduceEqDiff, Nat.reduceAdd, Nat.reduceMul, Nat.reduceSub, Nat.reduceLT, Nat.reduceLeDiff, Int.reduceLE, Int.reduceLT, Int.reduceToNat, Int.reduceEq]
    unfold insOuter at hI
    rw [if_pos (by omega)] at hI
    refine ⟨fun m fr σ' => ∃ (j : Nat) (d'' : Array α), m = j + 1 ∧ j ≤ i ∧ d''.size = n ∧ insInner (ltc cf) a j d'' = insInner (ltc cf) a i d' ∧ σ' = σ.set b (.rows 1 (rw' en d'') false cap) ∧ fr 0 = slv b n cap ∧ fr 1 = int a ∧ fr 2 = int e ∧ fr 3 = fnv g ∧ fr 8 = int i ∧ fr 9 = int j, ⟨_, i, d', rfl, by omega, hd', rfl, rfl, f0, f1, f2, f3, f8, rfl⟩, ?_⟩
    clear f0 f1 f2 f3 f8 fr
    rintro m fr σ' ⟨j, dd, rfl, hj, hdd, hJ, rfl, f0, f1, f2, f3, f8, f9⟩
    have out : insInner (ltc cf) a j dd = dd → insOuter (ltc cf) a e (i + 1) dd = insertionSort (ltc cf) d a e := fun h => by rw [← hI, ← hJ, h]
    simp only [go_sem, reduceIte, Nat.reduceEqDiff, Nat.reduceAdd, Nat.reduceMul, Nat.reduceSub, Nat.reduceLT, Nat.reduceLeDiff, Int.reduceLE, Int.reduceLT, Int.reduceToNat, Int.reduceEq]
    refine aDraw_plan [.rd 0 false, .rd 1 false, .rd 2 false, .rd 3 false, .rd 4 false, .rd 5 false, .rd 6 false, .rd 7 false, .rd 8 true, .rd 9 false, .rd 10 false, .rd 11 false, .rd 12 false, .rd 13 true, .ef 14 [], .rd 15 false, .rd 16 false] (by kernel_rfl) (by kernel_rfl) (by kernel_rfl) ?_
    by_cases g1 : (a : Int) < j
    · obtain ⟨k, rfl⟩ : ∃ k, j = k + 1 := ⟨j - 1, by omega⟩
      have ek : IntKind.i64.wrap (((k + 1 : Nat) : Int) - 1) = (k : Int) := by rw [wrap64 (by omega)]; omega
      have q1 := rw_get (en := en) (d := dd) (j := k + 1) (by omega)
      have q2 := rw_get (en := en) (d := dd) (j := k) (by omega)
      simp only [go_sem, f0, f1, f3, f9, decide_eq_true g1, ek, set_same, q1, q2, e4, reduceIte, Nat.reduceEqDiff, Nat.reduceAdd, Nat.reduceMul, Nat.reduceSub, Nat.reduceLT, Nat.reduceLeDiff, Int.reduceLE, Int.reduceLT, Int.reduceToNat, Int.reduceEq]
      refine ⟨by omega, by omega, by omega, by omega, (hC _ (sub dd) _ _).mono ?_⟩
      rintro _ σ1 ⟨rfl, rfl⟩
      have hu : insInner (ltc cf) a (k + 1) dd = if ltc cf dd[k + 1]! dd[k]! = true then insInner (ltc cf) a k (swp dd (k + 1) k) else dd := by
        rw [insInner]
        simp only [gt_iff_lt, show a < k + 1 by omega, decide_true, Bool.true_and]
      simp only [go_sem, reduceIte, Nat.reduceEqDiff, Nat.reduceAdd, Nat.reduceMul, Nat.reduceSub, Nat.reduceLT, Nat.reduceLeDiff, Int.reduceLE, Int.reduceLT, Int.reduceToNat, Int.reduceEq]
      refine aIf_by (fun g2 => ?_) (fun g2 => ?_)
      · rw [if_pos (by unfold ltc; exact decide_eq_true g2)] at hu
        simp only [go_sem, r_block, reduceIte, Nat.reduceEqDiff, Nat.reduceAdd, Nat.reduceMul, Nat.reduceSub, Nat.reduceLT, Nat.reduceLeDiff, Int.reduceLE, Int.reduceLT, Int.reduceToNat, Int.reduceEq]
        refine aDraw_plan [.rd 0 false, .rd 1 false, .rd 2 false, .rd 3 false, .rd 4 false, .rd 5 false, .rd 6 false, .rd 7 false, .rd 8 false, .rd 9 true, .rd 10 false, .rd 11 false, .rd 12 false, .rd 13 true, .rd 14 false, .ef 15 [], .rd 16 false, .ef 17 []] (by kernel_rfl) (by kernel_rfl) (by kernel_rfl) ?_
        have q3 := rw_get (en := en) (d := dd.setIfInBounds (k + 1) dd[k]!) (j := k) (by rw [Array.size_setIfInBounds]; omega)
        simp only [go_sem, f0, f1, f3, f9, ek, set_same, q1, q2, e4, e5, hl, ho, hce, rw_set, q3, Array.size_setIfInBounds, reduceIte, Nat.reduceEqDiff, Nat.reduceAdd, Nat.reduceMul, Nat.reduceSub, Nat.reduceLT, Nat.reduceLeDiff, Int.reduceLE, Int.reduceLT, Int.reduceToNat, Int.reduceEq]
        refine ⟨by omega, by omega, by omega, by omega, by omega, by omega, by omega, by omega, k + 1, by omega, k, swp dd (k + 1) k, rfl, by omega, by rw [swp_size]; exact hdd, by rw [← hu, hJ], rfl, f2, f8, rfl⟩
      · rw [if_neg (by unfold ltc; rw [decide_eq_false g2]; decide)] at hu
        have out := out hu
        simp only [go_sem, f0, f1, f2, f3, f8, next64 (show i < 9223372036854775807 by omega), reduceIte, Nat.reduceEqDiff, Nat.reduceAdd, Nat.reduceMul, Nat.reduceSub, Nat.reduceLT, Nat.reduceLeDiff, Int.reduceLE, Int.reduceLT, Int.reduceToNat, Int.reduceEq]
        exact ⟨e - (i + 1), by omega, i + 1, dd, rfl, by omega, hdd, out, rfl, rfl⟩
    · have out := out (by
        cases j with
        | zero => rfl
        | succ k => rw [insInner]; simp only [gt_iff_lt, show ¬ a < k + 1 by omega, decide_false, Bool.false_and, Bool.false_eq_true, if_false])
      simp only [go_sem, f0, f1, f2, f3, f8, f9, decide_eq_false g1, next64 (show i < 9223372036854775807 by omega), reduceIte, Nat.reduceEqDiff, Nat.reduceAdd, Nat.reduceMul, Nat.reduceSub, Nat.reduceLT, Nat.reduceLeDiff, Int.reduceLE, Int.reduceLT, Int.reduceToNat, Int.reduceEq]
      exact ⟨e - (i + 1), by omega, i + 1, dd, rfl, by omega, hdd, out, rfl, rfl⟩
  · simp only [go_sem, r_block, reduceIte, Nat.reduceEqDiff, Nat.reduceAdd, Nat.reduceMul, Nat.reduceSub, Nat.reduceLT, Nat.reduceLeDiff, Int.reduceLE, Int.reduceLT, Int.reduceToNat, Int.reduceEq]
    unfold insOuter at hI
    rw [if_neg (by omega)] at hI
    rw [hI]
    exact aRet_as (r := .tup []) rfl rfl
end
end Go.Proofs.Ythdfpankebjleaa.L

/-
  The library's sort, of lists of facts: heaps, and reversing.
  Conditions: none.
-/
namespace Go.Proofs.Ythdfpankebjleaa.L
open Go Go.Av Go.Sort

section
variable {α : Type} [Inhabited α] {en : α → List AV} (hl : ∀ x, (en x).length = 1) (ho : ∀ x, (en x).all AV.one = true) (hce : ∀ x, ((en x).getD 0 (.v undef)).cells = en x) {cf : α → α → Int} {g : Nat} {β : St} (hC : ∀ σ', (∀ x o, β x = some o → σ' x = some o) → ∀ x y, AT Try.prog g [(en x).getD 0 (.v undef), (en y).getD 0 (.v undef)] σ' fun r σ'' => r = int (cf x y) ∧ σ'' = σ')
variable {σ : St} {b cap : Nat} {d : Array α} (hb : σ b = some (.rows 1 (rw' en d) false cap)) (hn : β b = none) (hs : ∀ x o, β x = some o → σ x = some o) {n : Nat} (hd : d.size = n) (hsz : n ≤ 1000000000)
include hl ho hce hC hb hn hs hd hsz
theorem sift_at {lo hi f : Nat} (hf : f + hi ≤ n) (hlo : lo ≤ n) : AT Try.prog 137 [slv b n cap, int lo, int hi, int f, fnv g] σ fun _ σ' => σ' = σ.set b (.rows 1 (rw' en (siftDown (ltc cf) hi f lo d)) false cap) := by
  refine AT.of_body Try.func137 rfl (by decide) (by kernel_rfl) (by kernel_rfl) (Nat.le_of_ble_eq_true rfl) ?_
  simp only [go_sem, r_block, reduceIte, Nat.reduceEqDiff, Nat.reduceAdd, Nat.reduceMul, Nat.reduceSub, Nat.reduceLT, Nat.reduceLeDiff, Int.reduceLE, Int.reduceLT, Int.reduceToNat, Int.reduceEq]
  refine ⟨fun m fr σ' => ∃ (r : Nat) (d' : Array α), m = n - r ∧ r ≤ n ∧ d'.size = n ∧ siftDown (ltc cf) hi f r d' = siftDown (ltc cf) hi f lo d ∧ σ' = σ.set b (.rows 1 (rw' en d') false cap) ∧ fr 0 = slv b n cap ∧ fr 2 = int hi ∧ fr 3 = int f ∧ fr 4 = fnv g ∧ fr 10 = int r, ⟨_, lo, d, rfl, hlo, hd, rfl, (set_id hb).symm, rfl, rfl, rfl, rfl, rfl⟩, ?_⟩
  rintro m fr σ' ⟨r, dd, rfl, hr, hdd, hI, rfl, f0, f2, f3, f4, f10⟩
  have w1 : IntKind.i64.wrap (IntKind.i64.wrap (2 * (r : Int)) + 1) = ((2 * r + 1 : Nat) : Int) := by rw [wrap64 (x := 2 * (r : Int)) (by omega), wrap64 (by omega)]; omega
  simp only [go_sem, r_block, f0, f2, f3, f4, f10, w1, reduceIte, Nat.reduceEqDiff, Nat.reduceAdd, Nat.reduceMul, Nat.reduceSub, Nat.reduceLT, Nat.reduceLeDiff, Int.reduceLE, Int.reduceLT, Int.reduceToNat, Int.reduceEq]
  refine aIf_by (fun hge => ?_) (fun hge => ?_)
  · simp only [go_sem, r_block, reduceIte, Nat.reduceEqDiff, Nat.reduceAdd, Nat.reduceMul, Nat.reduceSub, Nat.reduceLT, Nat.reduceLeDiff, Int.reduceLE, Int.reduceLT, Int.reduceToNat, Int.reduceEq]
    rw [← hI, sift_stop (by omega)]
    exact aRet_as (r := .tup []) rfl rfl
  · have hlt : 2 * r + 1 < hi := by omega
    rw [sift_step hlt] at hI
    have hch := chd_lt (lt := ltc cf) (f := f) (d := dd) hlt
    simp only [go_sem, reduceIte, Nat.reduceEqDiff, Nat.reduceAdd, Nat.reduceMul, Nat.reduceSub, Nat.reduceLT, Nat.reduceLeDiff, Int.reduceLE, Int.reduceLT, Int.reduceToNat, Int.reduceEq]
    refine aDraw_plan [.rd 0 false, .rd 1 false, .rd 2 false, .rd 3 false, .rd 4 false, .rd 5 false, .rd 6 false, .rd 7 false, .rd 8 false, .rd 9 false, .rd 10 false, .rd 11 true, .rd 12 false, .rd 13 false, .rd 14 false, .rd 15 false, .rd 16 false, .rd 17 false, .rd 18 true, .ef 19 [], .rd 20 false, .rd 21 false] (by kernel_rfl) (by kernel_rfl) (by kernel_rfl) ?_
    apply meet_by (fun fr σ' => σ' = σ.set b (.rows 1 (rw' en dd) false cap) ∧ fr 0 = slv b n cap ∧ fr 2 = int hi ∧ fr 3 = int f ∧ fr 4 = fnv g ∧ fr 10 = int r ∧ fr 11 = int (chd (ltc cf) hi f r dd))
    case h1 =>
      intro key
      have w2 : IntKind.i64.wrap (((2 * r + 1 : Nat) : Int) + 1) = ((2 * r + 2 : Nat) : Int) := by rw [wrap64 (by omega)]; omega
      by_cases g1 : ((2 * r + 2 : Nat) : Int) < hi
      · have w3 : IntKind.i64.wrap ((f : Int) + ((2 * r + 1 : Nat) : Int)) = ((f + (2 * r + 1) : Nat) : Int) := by rw [wrap64 (by omega)]; omega
        have w4 : IntKind.i64.wrap (((f + (2 * r + 1) : Nat) : Int) + 1) = ((f + (2 * r + 2) : Nat) : Int) := by rw [wrap64 (by omega)]; omega
        have q1 := rw_get (en := en) (d := dd) (j := f + (2 * r + 1)) (by omega)
        have q2 := rw_get (en := en) (d := dd) (j := f + (2 * r + 2)) (by omega)
        simp only [go_sem, f0, f2, f3, f4, f10, w2, w3, w4, decide_eq_true g1, set_same, q1, q2, en_take hl, reduceIte, Nat.reduceEqDiff, Nat.reduceAdd, Nat.reduceMul, Nat.reduceSub, Nat.reduceLT, Nat.reduceLeDiff, Int.reduceLE, Int.reduceLT, Int.reduceToNat, Int.reduceEq]
        refine ⟨by omega, by omega, by omega, by omega, (hC _ (sub_set hn hs) _ _).mono ?_⟩
        rintro _ σ1 ⟨rfl, rfl⟩
        simp only [go_sem, reduceIte, Nat.reduceEqDiff, Nat.reduceAdd, Nat.reduceMul, Nat.reduceSub, Nat.reduceLT, Nat.reduceLeDiff, Int.reduceLE, Int.reduceLT, Int.reduceToNat, Int.reduceEq]
        refine aIf_by (fun g2 => ?_) (fun g2 => ?_)
        · simp only [go_sem, w2, reduceIte, Nat.reduceEqDiff, Nat.reduceAdd, Nat.reduceMul, Nat.reduceSub, Nat.reduceLT, Nat.reduceLeDiff, Int.reduceLE, Int.reduceLT, Int.reduceToNat, Int.reduceEq]
          refine key _ _ ⟨rfl, f0, f2, f3, f4, f10, ?_⟩
          unfold chd
          rw [if_pos ⟨by omega, decide_eq_true g2⟩]
          rfl
        · simp only [go_sem, w2, reduceIte, Nat.reduceEqDiff, Nat.reduceAdd, Nat.reduceMul, Nat.reduceSub, Nat.reduceLT, Nat.reduceLeDiff, Int.reduceLE, Int.reduceLT, Int.reduceToNat, Int.reduceEq]
          refine key _ _ ⟨rfl, f0, f2, f3, f4, f10, ?_⟩
          unfold chd
          rw [if_neg (fun h => g2 (of_decide_eq_true h.2))]
          rfl
      · simp only [go_sem, f0, f2, f3, f4, f10, w2, decide_eq_false g1, reduceIte, Nat.reduceEqDiff, Nat.reduceAdd, Nat.reduceMul, Nat.reduceSub, Nat.reduceLT, Nat.reduceLeDiff, Int.reduceLE, Int.reduceLT, Int.reduceToNat, Int.reduceEq]
        refine key _ _ ⟨rfl, f0, f2, f3, f4, f10, ?_⟩
        unfold chd
        rw [if_neg (fun h => g1 (by omega))]
        rfl
    case h2 =>
      clear f0 f2 f3 f4 f10 fr
      generalize chd (ltc cf) hi f r dd = c at *
      rintro fr σ1 ⟨rfl, f0, f2, f3, f4, f10, f11⟩
      have w5 : IntKind.i64.wrap ((f : Int) + (r : Int)) = ((f + r : Nat) : Int) := by rw [wrap64 (by omega)]; omega
      have w6 : IntKind.i64.wrap ((f : Int) + (c : Int)) = ((f + c : Nat) : Int) := by rw [wrap64 (by omega)]; omega
      have q1 := rw_get (en := en) (d := dd) (j := f + r) (by omega)
      have q2 := rw_get (en := en) (d := dd) (j := f + c) (by omega)
      refine aDraw_plan [.rd 0 false, .rd 1 false, .rd 2 false, .rd 3 false, .rd 4 false, .rd 5 false, .rd 6 true, .rd 7 false, .rd 8 false, .rd 9 false, .rd 10 false, .rd 11 false, .rd 12 true, .ef 13 [], .rd 14 false, .rd 15 false] (by kernel_rfl) (by kernel_rfl) (by kernel_rfl) ?_
      simp only [go_sem, f0, f2, f3, f4, f10, f11, w5, w6, set_same, q1, q2, en_take hl, reduceIte, Nat.reduceEqDiff, Nat.reduceAdd, Nat.reduceMul, Nat.reduceSub, Nat.reduceLT, Nat.reduceLeDiff, Int.reduceLE, Int.reduceLT, Int.reduceToNat, Int.reduceEq]
      refine ⟨by omega, by omega, by omega, by omega, (hC _ (sub_set hn hs) _ _).mono ?_⟩
      rintro _ σ1 ⟨rfl, rfl⟩
      simp only [go_sem, reduceIte, Nat.reduceEqDiff, Nat.reduceAdd, Nat.reduceMul, Nat.reduceSub, Nat.reduceLT, Nat.reduceLeDiff, Int.reduceLE, Int.reduceLT, Int.reduceToNat, Int.reduceEq]
      refine aIf_by (fun g2 => ?_) (fun g2 => ?_)
      · rw [if_pos (by unfold ltc; exact decide_eq_true g2)] at hI
        simp only [go_sem, reduceIte, Nat.reduceEqDiff, Nat.reduceAdd, Nat.reduceMul, Nat.reduceSub, Nat.reduceLT, Nat.reduceLeDiff, Int.reduceLE, Int.reduceLT, Int.reduceToNat, Int.reduceEq]
        refine aDraw_plan [.rd 0 false, .rd 1 false, .rd 2 false, .rd 3 false, .rd 4 false, .rd 5 false, .rd 6 false, .rd 7 false, .rd 8 false, .rd 9 false, .rd 10 false, .rd 11 false, .rd 12 false, .rd 13 true, .rd 14 false, .rd 15 false, .rd 16 false, .rd 17 false, .rd 18 false, .rd 19 true, .rd 20 false, .ef 21 [], .rd 22 false, .ef 23 []] (by kernel_rfl) (by kernel_rfl) (by kernel_rfl) ?_
        have q3 := rw_get (en := en) (d := dd.setIfInBounds (f + r) dd[f + c]!) (j := f + c) (by rw [Array.size_setIfInBounds]; omega)
        simp only [go_sem, f0, f2, f3, f4, f10, f11, w5, w6, set_same, q1, q2, en_take hl, en_app hl, hl, ho, hce, rw_set, q3, Array.size_setIfInBounds, reduceIte, Nat.reduceEqDiff, Nat.reduceAdd, Nat.reduceMul, Nat.reduceSub, Nat.reduceLT, Nat.reduceLeDiff, Int.reduceLE, Int.reduceLT, Int.reduceToNat, Int.reduceEq]
        refine ⟨by omega, by omega, by omega, by omega, by omega, by omega, by omega, by omega, n - c, by omega, c, swp dd (f + r) (f + c), rfl, by omega, by rw [swp_size]; exact hdd, hI, rfl, rfl⟩
      · rw [if_neg (by unfold ltc; rw [decide_eq_false g2]; decide)] at hI
        simp only [go_sem, reduceIte, Nat.reduceEqDiff, Nat.reduceAdd, Nat.reduceMul, Nat.reduceSub, Nat.reduceLT, Nat.reduceLeDiff, Int.reduceLE, Int.reduceLT, Int.reduceToNat, Int.reduceEq]
        rw [← hI]
        exact aRet_as (r := .tup []) rfl rfl
omit hl ho hce hC hb hn hs hd hsz in
theorem sift_size {lt : α → α → Bool} {hi f : Nat} : ∀ (m r : Nat) (d : Array α), hi - r ≤ m → (siftDown lt hi f r d).size = d.size
  | 0, r, d, h => by rw [sift_stop (by omega)]
  | m + 1, r, d, h => by
    by_cases h1 : 2 * r + 1 < hi
    · have hc := chd_lt (lt := lt) (f := f) (d := d) h1
      rw [sift_step h1]
      split
      · rw [sift_size m _ _ (by omega), swp_size]
      · rfl
    · rw [sift_stop h1]
theorem heap_at {a e : Nat} (he : e ≤ n) (ha : a < e) : AT Try.prog 115 [slv b n cap, int a, int e, fnv g] σ fun _ σ' => σ' = σ.set b (.rows 1 (rw' en (heapSort (ltc cf) d a e)) false cap) := by
  refine AT.of_body Try.func115 rfl (by decide) (by kernel_rfl) (by kernel_rfl) (Nat.le_of_ble_eq_true rfl) ?_
  have w1 : IntKind.i64.wrap ((e : Int) - a) = ((e - a : Nat) : Int) := by rw [wrap64 (by omega)]; omega
  have w2 : IntKind.i64.wrap ((IntKind.i64.wrap (((e - a : Nat) : Int) - 1)).tdiv 2) = ((((e - a - 1) / 2 + 1 : Nat) : Int) - 1) := by
    rw [wrap64 (x := ((e - a : Nat) : Int) - 1) (by omega), Int.tdiv_eq_ediv_of_nonneg (by omega), wrap64 (by omega)]; omega
  simp only [go_sem, r_block, w1, w2, reduceIte, Nat.reduceEqDiff, Nat.reduceAdd, Nat.reduceMul, Nat.reduceSub, Nat.reduceLT, Nat.reduceLeDiff, Int.reduceLE, Int.reduceLT, Int.reduceToNat, Int.reduceEq]
  refine ⟨fun m fr σ' => ∃ (k : Nat) (d' : Array α), m = k + 1 ∧ k ≤ n ∧ d'.size = n ∧ heapBuild (ltc cf) (e - a) a k d' = heapBuild (ltc cf) (e - a) a ((e - a - 1) / 2 + 1) d ∧ σ' = σ.set b (.rows 1 (rw' en d') false cap) ∧ fr 0 = slv b n cap ∧ fr 3 = fnv g ∧ fr 8 = int a ∧ fr 9 = int 0 ∧ fr 10 = int (e - a : Nat) ∧ fr 11 = int ((k : Int) - 1), ⟨_, _, d, rfl, by omega, hd, rfl, (set_id hb).symm, rfl, rfl, rfl, rfl, rfl, rfl⟩, ?_⟩
  rintro m fr σ' ⟨k, dd, rfl, hk, hdd, hI, rfl, f0, f3, f8, f9, f10, f11⟩
  simp only [go_sem, f11, reduceIte, Nat.reduceEqDiff, Nat.reduceAdd, Nat.reduceMul, Nat.reduceSub, Nat.reduceLT, Nat.reduceLeDiff, Int.reduceLE, Int.reduceLT, Int.reduceToNat, Int.reduceEq]
  refine aIf_by (fun hge => ?_) (fun hge => ?_)
  · obtain ⟨j, rfl⟩ : ∃ j, k = j + 1 := ⟨k - 1, by omega⟩
    have ej : ((j + 1 : Nat) : Int) - 1 = (j : Int) := by omega
    simp only [go_sem, r_block, f0, f3, f8, f10, f11, ej, reduceIte, Nat.reduceEqDiff, Nat.reduceAdd, Nat.reduceMul, Nat.reduceSub, Nat.reduceLT, Nat.reduceLeDiff, Int.reduceLE, Int.reduceLT, Int.reduceToNat, Int.reduceEq]
    refine (sift_at hl ho hce hC (σ := σ.set b (.rows 1 (rw' en dd) false cap)) (d := dd) set_same hn (sub_set hn hs) hdd hsz (by omega) (by omega)).mono ?_
    rintro _ σ1 rfl
    have w3 : IntKind.i64.wrap ((j : Int) - 1) = (j : Int) - 1 := wrap64 (by omega)
    simp only [go_sem, f0, f3, f8, f9, f10, f11, ej, w3, hdd, reduceIte, Nat.reduceEqDiff, Nat.reduceAdd, Nat.reduceMul, Nat.reduceSub, Nat.reduceLT, Nat.reduceLeDiff, Int.reduceLE, Int.reduceLT, Int.reduceToNat, Int.reduceEq]
    exact ⟨j + 1, by omega, j, siftDown (ltc cf) (e - a) a j dd, rfl, by omega, by rw [sift_size _ _ _ (Nat.le_refl _)]; exact hdd, hI, rfl, rfl⟩
  · have hk0 : k = 0 := by omega
    subst hk0
    have w4 : IntKind.i64.wrap (((e - a : Nat) : Int) - 1) = ((e - a : Nat) : Int) - 1 := wrap64 (by omega)
    simp only [go_sem, r_block, f0, f3, f8, f9, f10, f11, w4, reduceIte, Nat.reduceEqDiff, Nat.reduceAdd, Nat.reduceMul, Nat.reduceSub, Nat.reduceLT, Nat.reduceLeDiff, Int.reduceLE, Int.reduceLT, Int.reduceToNat, Int.reduceEq]
    have hI : dd = heapBuild (ltc cf) (e - a) a ((e - a - 1) / 2 + 1) d := hI
    have hfin : heapSort (ltc cf) d a e = heapPop (ltc cf) a (e - a) dd := by rw [hI]; rfl
    refine ⟨fun m fr σ' => ∃ (k : Nat) (d' : Array α), m = k + 1 ∧ k ≤ e - a ∧ d'.size = n ∧ heapPop (ltc cf) a k d' = heapPop (ltc cf) a (e - a) dd ∧ σ' = σ.set b (.rows 1 (rw' en d') false cap) ∧ fr 0 = slv b n cap ∧ fr 3 = fnv g ∧ fr 8 = int a ∧ fr 9 = int 0 ∧ fr 12 = int ((k : Int) - 1), ⟨_, _, dd, rfl, by omega, hdd, rfl, rfl, f0, f3, f8, f9, rfl⟩, ?_⟩
    clear f0 f3 f8 f9 f10 f11 fr hI
    rintro m fr σ' ⟨k, de, rfl, hk, hde, hI, rfl, f0, f3, f8, f9, f12⟩
    simp only [go_sem, f12, reduceIte, Nat.reduceEqDiff, Nat.reduceAdd, Nat.reduceMul, Nat.reduceSub, Nat.reduceLT, Nat.reduceLeDiff, Int.reduceLE, Int.reduceLT, Int.reduceToNat, Int.reduceEq]
    refine aIf_by (fun hge => ?_) (fun hge => ?_)
    · obtain ⟨j, rfl⟩ : ∃ j, k = j + 1 := ⟨k - 1, by omega⟩
      have ej : ((j + 1 : Nat) : Int) - 1 = (j : Int) := by omega
      have w5 : IntKind.i64.wrap ((a : Int) + (j : Int)) = ((a + j : Nat) : Int) := by rw [wrap64 (by omega)]; omega
      have q1 := rw_get (en := en) (d := de) (j := a) (by omega)
      have q2 := rw_get (en := en) (d := de) (j := a + j) (by omega)
      have q3 := rw_get (en := en) (d := de.setIfInBounds a de[a + j]!) (j := a + j) (by rw [Array.size_setIfInBounds]; omega)
      simp only [go_sem, r_block, f0, f3, f8, f9, f12, ej, reduceIte, Nat.reduceEqDiff, Nat.reduceAdd, Nat.reduceMul, Nat.reduceSub, Nat.reduceLT, Nat.reduceLeDiff, Int.reduceLE, Int.reduceLT, Int.reduceToNat, Int.reduceEq]
      refine aDraw_plan [.rd 0 false, .rd 1 false, .rd 2 false, .rd 3 false, .rd 4 false, .rd 5 false, .rd 6 false, .rd 7 false, .rd 8 false, .rd 9 false, .rd 10 false, .rd 11 true, .rd 12 false, .rd 13 false, .rd 14 false, .rd 15 true, .rd 16 false, .ef 17 [], .rd 18 false, .ef 19 []] (by kernel_rfl) (by kernel_rfl) (by kernel_rfl) ?_
      simp only [go_sem, f0, f3, f8, f9, f12, ej, w5, set_same, q1, q2, en_take hl, en_app hl, hl, ho, hce, rw_set, q3, Array.size_setIfInBounds, reduceIte, Nat.reduceEqDiff, Nat.reduceAdd, Nat.reduceMul, Nat.reduceSub, Nat.reduceLT, Nat.reduceLeDiff, Int.reduceLE, Int.reduceLT, Int.reduceToNat, Int.reduceEq]
      refine ⟨by omega, by omega, by omega, by omega, by omega, by omega, by omega, by omega, ?_⟩
      have hsw : (swp de a (a + j)).size = n := by rw [swp_size]; exact hde
      refine (sift_at hl ho hce hC (lo := 0) (hi := j) (f := a) (σ := σ.set b (.rows 1 (rw' en (swp de a (a + j))) false cap)) (d := swp de a (a + j)) set_same hn (sub_set hn hs) hsw hsz (by omega) (by omega)).mono ?_
      rintro _ σ1 rfl
      have w3 : IntKind.i64.wrap ((j : Int) - 1) = (j : Int) - 1 := wrap64 (by omega)
      simp only [go_sem, f0, f3, f8, f9, f12, ej, w3, reduceIte, Nat.reduceEqDiff, Nat.reduceAdd, Nat.reduceMul, Nat.reduceSub, Nat.reduceLT, Nat.reduceLeDiff, Int.reduceLE, Int.reduceLT, Int.reduceToNat, Int.reduceEq]
      exact ⟨j + 1, by omega, j, siftDown (ltc cf) j a 0 (swp de a (a + j)), rfl, by omega, by rw [sift_size _ _ _ (Nat.le_refl _)]; exact hsw, hI, rfl, rfl⟩
    · have hk0 : k = 0 := by omega
      subst hk0
      simp only [go_sem, reduceIte, Nat.reduceEqDiff, Nat.reduceAdd, Nat.reduceMul, Nat.reduceSub, Nat.reduceLT, Nat.reduceLeDiff, Int.reduceLE, Int.reduceLT, Int.reduceToNat, Int.reduceEq]
      rw [hfin, ← hI]
      exact aRet_as (r := .tup []) rfl rfl
omit hl ho hce hC hb hn hs hd hsz in
theorem rev_eq {i j : Nat} {d : Array α} : reverseLoop i j d = if i < j then reverseLoop (i + 1) (j - 1) (swp d i j) else d := by rw [reverseLoop]
omit hC hn hs in
theorem rev_at {a e : Nat} (he : e ≤ n) (ha : a < e) : AT Try.prog 118 [slv b n cap, int a, int e, fnv g] σ fun _ σ' => σ' = σ.set b (.rows 1 (rw' en (reverseRange d a e)) false cap) := by
  refine AT.of_body Try.func118 rfl (by decide) (by kernel_rfl) (by kernel_rfl) (Nat.le_of_ble_eq_true rfl) ?_
  have w1 : IntKind.i64.wrap ((e : Int) - 1) = ((e - 1 : Nat) : Int) := by rw [wrap64 (by omega)]; omega
  simp only [go_sem, r_block, w1, reduceIte, Nat.reduceEqDiff, Nat.reduceAdd, Nat.reduceMul, Nat.reduceSub, Nat.reduceLT, Nat.reduceLeDiff, Int.reduceLE, Int.reduceLT, Int.reduceToNat, Int.reduceEq]
  refine ⟨fun m fr σ' => ∃ (i j : Nat) (d' : Array α), m = j - i ∧ j < n ∧ i ≤ n ∧ d'.size = n ∧ reverseLoop i j d' = reverseRange d a e ∧ σ' = σ.set b (.rows 1 (rw' en d') false cap) ∧ fr 0 = slv b n cap ∧ fr 8 = int i ∧ fr 9 = int j, ⟨_, a, e - 1, d, rfl, by omega, by omega, hd, rfl, (set_id hb).symm, rfl, rfl, rfl⟩, ?_⟩
  rintro m fr σ' ⟨i, j, dd, rfl, hj, hi, hdd, hI, rfl, f0, f8, f9⟩
  rw [rev_eq] at hI
  simp only [go_sem, f8, f9, reduceIte, Nat.reduceEqDiff, Nat.reduceAdd, Nat.reduceMul, Nat.reduceSub, Nat.reduceLT, Nat.reduceLeDiff, Int.reduceLE, Int.reduceLT, Int.reduceToNat, Int.reduceEq]
  refine aIf_by (fun hlt => ?_) (fun hlt => ?_)
  · have w2 : IntKind.i64.wrap ((j : Int) - 1) = ((j - 1 : Nat) : Int) := by rw [wrap64 (by omega)]; omega
    have q1 := rw_get (en := en) (d := dd) (j := i) (by omega)
    have q2 := rw_get (en := en) (d := dd) (j := j) (by omega)
    have q3 := rw_get (en := en) (d := dd.setIfInBounds i dd[j]!) (j := j) (by rw [Array.size_setIfInBounds]; omega)
    rw [if_pos (by omega)] at hI
    simp only [go_sem, r_block, reduceIte, Nat.reduceEqDiff, Nat.reduceAdd, Nat.reduceMul, Nat.reduceSub, Nat.reduceLT, Nat.reduceLeDiff, Int.reduceLE, Int.reduceLT, Int.reduceToNat, Int.reduceEq]
    refine aDraw_plan [.rd 0 false, .rd 1 false, .rd 2 false, .rd 3 false, .rd 4 false, .rd 5 false, .rd 6 false, .rd 7 true, .rd 8 false, .rd 9 false, .rd 10 false, .rd 11 true, .rd 12 false, .ef 13 [], .rd 14 false, .ef 15 []] (by kernel_rfl) (by kernel_rfl) (by kernel_rfl) ?_
    simp only [go_sem, f0, f8, f9, set_same, q1, q2, en_take hl, en_app hl, hl, ho, hce, rw_set, q3, Array.size_setIfInBounds, w2, next64 (show i < 9223372036854775807 by omega), reduceIte, Nat.reduceEqDiff, Nat.reduceAdd, Nat.reduceMul, Nat.reduceSub, Nat.reduceLT, Nat.reduceLeDiff, Int.reduceLE, Int.reduceLT, Int.reduceToNat, Int.reduceEq]
    refine ⟨by omega, by omega, by omega, by omega, by omega, by omega, by omega, by omega, j - 1 - (i + 1), by omega, i + 1, j - 1, swp dd i j, rfl, by omega, by omega, by rw [swp_size]; exact hdd, hI, rfl, rfl, rfl⟩
  · rw [if_neg (by omega)] at hI
    simp only [go_sem, reduceIte, Nat.reduceEqDiff, Nat.reduceAdd, Nat.reduceMul, Nat.reduceSub, Nat.reduceLT, Nat.reduceLeDiff, Int.reduceLE, Int.reduceLT, Int.reduceToNat, Int.reduceEq]
    rw [← hI]
    exact aRet_as (r := .tup []) rfl rfl
end
end Go.Proofs.Ythdfpankebjleaa.L

/-
  The library's sort, of lists of facts: the choice of a pivot.
  Conditions: none.
-/
namespace Go.Proofs.Ythdfpankebjleaa.L
open Go Go.Av Go.Sort

def hintN : Hint → Int
  | .unknown => 0
  | .increasing => 1
  | .decreasing => 2
section
variable {α : Type} [Inhabited α] {en : α → List AV} (hl : ∀ x, (en x).length = 1) (ho : ∀ x, (en x).all AV.one = true) (hce : ∀ x, ((en x).getD 0 (.v undef)).cells = en x) {cf : α → α → Int} {g : Nat} {β : St} (hC : ∀ σ', (∀ x o, β x = some o → σ' x = some o) → ∀ x y, AT Try.prog g [(en x).getD 0 (.v undef), (en y).getD 0 (.v undef)] σ' fun r σ'' => r = int (cf x y) ∧ σ'' = σ')
variable {σ : St} {b cap : Nat} {d : Array α} (hb : σ b = some (.rows 1 (rw' en d) false cap)) (hn : β b = none) (hs : ∀ x o, β x = some o → σ x = some o) {n : Nat} (hd : d.size = n) (hsz : n ≤ 1000000000)
variable {p : Nat} (hpb : p ≠ b) (hpn : β p = none)
theorem order2_lt {lt : α → α → Bool} {a c m k : Nat} (ha : a < m) (hc : c < m) : (order2 lt d a c k).1 < m ∧ (order2 lt d a c k).2.1 < m ∧ (order2 lt d a c k).2.2 ≤ k + 1 := by
  unfold order2
  split
  · exact ⟨hc, ha, Nat.le_refl _⟩
  · exact ⟨ha, hc, Nat.le_succ _⟩
theorem median_lt {lt : α → α → Bool} {a c e m k : Nat} (ha : a < m) (hc : c < m) (he : e < m) : (median lt d a c e k).1 < m ∧ (median lt d a c e k).2 ≤ k + 3 := by
  unfold median
  have h1 := order2_lt (d := d) (lt := lt) (k := k) ha hc
  have h2 := order2_lt (d := d) (lt := lt) (k := (order2 lt d a c k).2.2) h1.2.1 he
  have h3 := order2_lt (d := d) (lt := lt) (k := (order2 lt d (order2 lt d a c k).2.1 e (order2 lt d a c k).2.2).2.2) h1.1 h2.1
  exact ⟨h3.2.1, by show (order2 lt d _ _ _).2.2 ≤ _; omega⟩
include hl ho hce hC hb hn hs hd hsz hpb hpn
theorem order2_at {a c k : Nat} (ha : a < n) (hc : c < n) (hk : k ≤ 1000) (hp : σ p = some (.cells [int k])) : AT Try.prog 146 [slv b n cap, int a, int c, ptr p, fnv g] σ fun r σ' => r = .tup [int (order2 (ltc cf) d a c k).1, int (order2 (ltc cf) d a c k).2.1] ∧ σ' = σ.set p (.cells [int (order2 (ltc cf) d a c k).2.2]) := by
  refine AT.of_body Try.func146 rfl (by decide) (by kernel_rfl) (by kernel_rfl) (Nat.le_of_ble_eq_true rfl) ?_
  have q1 := rw_get (en := en) (d := d) (j := a) (by omega)
  have q2 := rw_get (en := en) (d := d) (j := c) (by omega)
  simp only [go_sem, reduceIte, Nat.reduceEqDiff, Nat.reduceAdd, Nat.reduceMul, Nat.reduceSub, Nat.reduceLT, Nat.reduceLeDiff, Int.reduceLE, Int.reduceLT, Int.reduceToNat, Int.reduceEq]
  refine aDraw_plan [.rd 0 false, .rd 1 false, .rd 2 false, .rd 3 false, .rd 4 true, .rd 5 false, .rd 6 false, .rd 7 false, .rd 8 true, .ef 9 [], .rd 10 false] (by kernel_rfl) (by kernel_rfl) (by kernel_rfl) ?_
  simp only [go_sem, hb, q1, q2, en_take hl, reduceIte, Nat.reduceEqDiff, Nat.reduceAdd, Nat.reduceMul, Nat.reduceSub, Nat.reduceLT, Nat.reduceLeDiff, Int.reduceLE, Int.reduceLT, Int.reduceToNat, Int.reduceEq]
  refine ⟨by omega, by omega, by omega, by omega, (hC _ hs _ _).mono ?_⟩
  rintro _ σ1 ⟨rfl, rfl⟩
  simp only [go_sem, reduceIte, Nat.reduceEqDiff, Nat.reduceAdd, Nat.reduceMul, Nat.reduceSub, Nat.reduceLT, Nat.reduceLeDiff, Int.reduceLE, Int.reduceLT, Int.reduceToNat, Int.reduceEq]
  refine aIf_by (fun g2 => ?_) (fun g2 => ?_)
  · have e : order2 (ltc cf) d a c k = (c, a, k + 1) := by unfold order2; exact if_pos (decide_eq_true g2)
    simp only [go_sem, hp, next64 (show k < 9223372036854775807 by omega), reduceIte, Nat.reduceEqDiff, Nat.reduceAdd, Nat.reduceMul, Nat.reduceSub, Nat.reduceLT, Nat.reduceLeDiff, Int.reduceLE, Int.reduceLT, Int.reduceToNat, Int.reduceEq]
    refine aRet_as (r := .tup [int c, int a]) rfl ?_
    rw [e]
    exact ⟨rfl, rfl⟩
  · have e : order2 (ltc cf) d a c k = (a, c, k) := by unfold order2; exact if_neg (fun h => g2 (of_decide_eq_true h))
    simp only [go_sem, reduceIte, Nat.reduceEqDiff, Nat.reduceAdd, Nat.reduceMul, Nat.reduceSub, Nat.reduceLT, Nat.reduceLeDiff, Int.reduceLE, Int.reduceLT, Int.reduceToNat, Int.reduceEq]
    refine aRet_as (r := .tup [int a, int c]) rfl ?_
    rw [e]
    exact ⟨rfl, (set_id hp).symm⟩
theorem median_at {a c e k : Nat} (ha : a < n) (hc : c < n) (he : e < n) (hk : k ≤ 990) (hp : σ p = some (.cells [int k])) : AT Try.prog 141 [slv b n cap, int a, int c, int e, ptr p, fnv g] σ fun r σ' => r = int (median (ltc cf) d a c e k).1 ∧ σ' = σ.set p (.cells [int (median (ltc cf) d a c e k).2]) := by
  refine AT.of_body Try.func141 rfl (by decide) (by kernel_rfl) (by kernel_rfl) (Nat.le_of_ble_eq_true rfl) ?_
  have hm : median (ltc cf) d a c e k = ((order2 (ltc cf) d (order2 (ltc cf) d a c k).1 (order2 (ltc cf) d (order2 (ltc cf) d a c k).2.1 e (order2 (ltc cf) d a c k).2.2).1 (order2 (ltc cf) d (order2 (ltc cf) d a c k).2.1 e (order2 (ltc cf) d a c k).2.2).2.2).2.1, (order2 (ltc cf) d (order2 (ltc cf) d a c k).1 (order2 (ltc cf) d (order2 (ltc cf) d a c k).2.1 e (order2 (ltc cf) d a c k).2.2).1 (order2 (ltc cf) d (order2 (ltc cf) d a c k).2.1 e (order2 (ltc cf) d a c k).2.2).2.2).2.2) := rfl
  rw [hm]
  have l1 := order2_lt (d := d) (lt := ltc cf) (k := k) ha hc
  generalize hx1 : order2 (ltc cf) d a c k = x1 at l1 ⊢
  have l2 := order2_lt (d := d) (lt := ltc cf) (k := x1.2.2) l1.2.1 he
  generalize hx2 : order2 (ltc cf) d x1.2.1 e x1.2.2 = x2 at l2 ⊢
  have l3 := order2_lt (d := d) (lt := ltc cf) (k := x2.2.2) l1.1 l2.1
  generalize hx3 : order2 (ltc cf) d x1.1 x2.1 x2.2.2 = x3 at l3 ⊢
  simp only [go_sem, reduceIte, Nat.reduceEqDiff, Nat.reduceAdd, Nat.reduceMul, Nat.reduceSub, Nat.reduceLT, Nat.reduceLeDiff, Int.reduceLE, Int.reduceLT, Int.reduceToNat, Int.reduceEq]
  refine (order2_at hl ho hce hC hb hn hs hd hsz hpb hpn ha hc (by omega) hp).mono ?_
  rintro _ _ ⟨rfl, rfl⟩
  rw [hx1]
  simp only [go_sem, reduceIte, Nat.reduceEqDiff, Nat.reduceAdd, Nat.reduceMul, Nat.reduceSub, Nat.reduceLT, Nat.reduceLeDiff, Int.reduceLE, Int.reduceLT, Int.reduceToNat, Int.reduceEq]
  refine (order2_at hl ho hce hC (σ := σ.set p (.cells [int x1.2.2])) (by rw [set_ne (Ne.symm hpb)]; exact hb) hn (sub_set hpn hs) hd hsz hpb hpn l1.2.1 he (by omega) set_same).mono ?_
  rintro _ _ ⟨rfl, rfl⟩
  rw [hx2]
  simp only [go_sem, reduceIte, Nat.reduceEqDiff, Nat.reduceAdd, Nat.reduceMul, Nat.reduceSub, Nat.reduceLT, Nat.reduceLeDiff, Int.reduceLE, Int.reduceLT, Int.reduceToNat, Int.reduceEq]
  refine (order2_at hl ho hce hC (σ := σ.set p (.cells [int x2.2.2])) (by rw [set_ne (Ne.symm hpb)]; exact hb) hn (sub_set hpn hs) hd hsz hpb hpn l1.1 l2.1 (by omega) set_same).mono ?_
  rintro _ _ ⟨rfl, rfl⟩
  rw [hx3]
  simp only [go_sem, reduceIte, Nat.reduceEqDiff, Nat.reduceAdd, Nat.reduceMul, Nat.reduceSub, Nat.reduceLT, Nat.reduceLeDiff, Int.reduceLE, Int.reduceLT, Int.reduceToNat, Int.reduceEq]
  exact aRet_as (r := int x3.2.1) rfl ⟨rfl, rfl⟩
theorem medadj_at {a k : Nat} (ha : 1 ≤ a) (ha2 : a + 1 < n) (hk : k ≤ 990) (hp : σ p = some (.cells [int k])) : AT Try.prog 140 [slv b n cap, int a, ptr p, fnv g] σ fun r σ' => r = int (medianAdjacent (ltc cf) d a k).1 ∧ σ' = σ.set p (.cells [int (medianAdjacent (ltc cf) d a k).2]) := by
  refine AT.of_body Try.func140 rfl (by decide) (by kernel_rfl) (by kernel_rfl) (Nat.le_of_ble_eq_true rfl) ?_
  have w1 : IntKind.i64.wrap ((a : Int) - 1) = ((a - 1 : Nat) : Int) := by rw [wrap64 (by omega)]; omega
  simp only [go_sem, w1, next64 (show a < 9223372036854775807 by omega), reduceIte, Nat.reduceEqDiff, Nat.reduceAdd, Nat.reduceMul, Nat.reduceSub, Nat.reduceLT, Nat.reduceLeDiff, Int.reduceLE, Int.reduceLT, Int.reduceToNat, Int.reduceEq]
  refine (median_at hl ho hce hC hb hn hs hd hsz hpb hpn (by omega) (by omega) ha2 hk hp).mono ?_
  rintro _ _ ⟨rfl, rfl⟩
  simp only [go_sem, reduceIte, Nat.reduceEqDiff, Nat.reduceAdd, Nat.reduceMul, Nat.reduceSub, Nat.reduceLT, Nat.reduceLeDiff, Int.reduceLE, Int.reduceLT, Int.reduceToNat, Int.reduceEq]
  exact aRet_as (r := int (medianAdjacent (ltc cf) d a k).1) rfl ⟨rfl, rfl⟩
omit hpb hpn in
theorem pivot_at {a e : Nat} (he : e ≤ n) (ha : a + 12 < e) : AT Try.prog 117 [slv b n cap, int a, int e, fnv g] σ fun r σ' => r = .tup [int (choosePivot (ltc cf) d a e).1, int (hintN (choosePivot (ltc cf) d a e).2)] ∧ σ' = σ := by
  refine AT.of_body Try.func117 rfl (by decide) (by kernel_rfl) (by kernel_rfl) (Nat.le_of_ble_eq_true rfl) ?_
  obtain ⟨q, hq⟩ : ∃ q, q = (e - a) / 4 := ⟨_, rfl⟩
  have w1 : IntKind.i64.wrap ((e : Int) - a) = ((e - a : Nat) : Int) := by rw [wrap64 (by omega)]; omega
  have w2 : IntKind.i64.wrap (((e - a : Nat) : Int).tdiv 4) = (q : Int) := by rw [Int.tdiv_eq_ediv_of_nonneg (by omega), wrap64 (by omega)]; omega
  have w3 : IntKind.i64.wrap ((a : Int) + IntKind.i64.wrap ((q : Int) * 1)) = ((a + q : Nat) : Int) := by rw [wrap64 (x := (q : Int) * 1) (by omega), wrap64 (by omega)]; omega
  have w4 : IntKind.i64.wrap ((a : Int) + IntKind.i64.wrap ((q : Int) * 2)) = ((a + q * 2 : Nat) : Int) := by rw [wrap64 (x := (q : Int) * 2) (by omega), wrap64 (by omega)]; omega
  have w5 : IntKind.i64.wrap ((a : Int) + IntKind.i64.wrap ((q : Int) * 3)) = ((a + q * 3 : Nat) : Int) := by rw [wrap64 (x := (q : Int) * 3) (by omega), wrap64 (by omega)]; omega
  simp only [go_sem, w1, reduceIte, Nat.reduceEqDiff, Nat.reduceAdd, Nat.reduceMul, Nat.reduceSub, Nat.reduceLT, Nat.reduceLeDiff, Int.reduceLE, Int.reduceLT, Int.reduceToNat, Int.reduceEq]
  refine aNew_intro fun p hp hpx => ?_
  have hpb : p ≠ b := fun h => hpx b _ hb h.symm
  have hpn : β p = none := by
    cases h : β p with
    | none => rfl
    | some o => exact absurd rfl (hpx p o (hs p o h))
  have hb1 : ∀ ob, (σ.set p ob) b = some (.rows 1 (rw' en d) false cap) := fun ob => by rw [set_ne (Ne.symm hpb)]; exact hb
  have cp : ∀ r : Nat × Nat, r = (if 8 ≤ e - a then (if 50 ≤ e - a then median (ltc cf) d (medianAdjacent (ltc cf) d (a + q) 0).1 (medianAdjacent (ltc cf) d (a + q * 2) (medianAdjacent (ltc cf) d (a + q) 0).2).1 (medianAdjacent (ltc cf) d (a + q * 3) (medianAdjacent (ltc cf) d (a + q * 2) (medianAdjacent (ltc cf) d (a + q) 0).2).2).1 (medianAdjacent (ltc cf) d (a + q * 3) (medianAdjacent (ltc cf) d (a + q * 2) (medianAdjacent (ltc cf) d (a + q) 0).2).2).2 else median (ltc cf) d (a + q) (a + q * 2) (a + q * 3) 0) else (a + q * 2, 0)) → choosePivot (ltc cf) d a e = (r.1, if r.2 = 0 then .increasing else if r.2 = 12 then .decreasing else .unknown) := fun r h => by
    subst h
    subst hq
    unfold choosePivot
    simp only [Nat.mul_one]
  rw [if_pos (show 8 ≤ e - a by omega)] at cp
  have d8 := decide_eq_true (show (8 : Int) ≤ ((e - a : Nat) : Int) by omega)
  have hm1 : ∀ {a c k : Nat}, 1 ≤ a → a + 1 < n → (medianAdjacent (ltc cf) d a k).1 < n ∧ (medianAdjacent (ltc cf) d a k).2 ≤ k + 3 := fun h1 h2 => median_lt (by omega) (by omega) h2
  simp only [go_sem, w2, w3, w4, w5, w1, d8, reduceIte, Nat.reduceEqDiff, Nat.reduceAdd, Nat.reduceMul, Nat.reduceSub, Nat.reduceLT, Nat.reduceLeDiff, Int.reduceLE, Int.reduceLT, Int.reduceToNat, Int.reduceEq]
  apply meet_by (fun fr σ' => ∃ r : Nat × Nat, fr 13 = int r.1 ∧ fr 55 = int r.2 ∧ σ' = σ.set p (.cells [int r.2]) ∧ choosePivot (ltc cf) d a e = (r.1, if r.2 = 0 then .increasing else if r.2 = 12 then .decreasing else .unknown))
  case h1 =>
    intro key
    refine aIf_by (fun g1 => ?_) (fun g1 => ?_)
    · rw [if_pos (show 50 ≤ e - a by omega)] at cp
      have l1 := hm1 (a := a + q) (c := 0) (k := 0) (by omega) (by omega)
      simp only [go_sem, reduceIte, Nat.reduceEqDiff, Nat.reduceAdd, Nat.reduceMul, Nat.reduceSub, Nat.reduceLT, Nat.reduceLeDiff, Int.reduceLE, Int.reduceLT, Int.reduceToNat, Int.reduceEq]
      refine (medadj_at hl ho hce hC (σ := σ.set p (.cells [int 0])) (hb1 _) hn (sub_set hpn hs) hd hsz hpb hpn (a := a + q) (k := 0) (by omega) (by omega) (by omega) set_same).mono ?_
      rintro _ _ ⟨rfl, rfl⟩
      generalize medianAdjacent (ltc cf) d (a + q) 0 = x1 at cp l1 ⊢
      have l2 := hm1 (a := a + q * 2) (c := 0) (k := x1.2) (by omega) (by omega)
      simp only [go_sem, reduceIte, Nat.reduceEqDiff, Nat.reduceAdd, Nat.reduceMul, Nat.reduceSub, Nat.reduceLT, Nat.reduceLeDiff, Int.reduceLE, Int.reduceLT, Int.reduceToNat, Int.reduceEq]
      refine (medadj_at hl ho hce hC (σ := σ.set p (.cells [int x1.2])) (hb1 _) hn (sub_set hpn hs) hd hsz hpb hpn (a := a + q * 2) (k := x1.2) (by omega) (by omega) (by omega) set_same).mono ?_
      rintro _ _ ⟨rfl, rfl⟩
      generalize medianAdjacent (ltc cf) d (a + q * 2) x1.2 = x2 at cp l2 ⊢
      have l3 := hm1 (a := a + q * 3) (c := 0) (k := x2.2) (by omega) (by omega)
      simp only [go_sem, reduceIte, Nat.reduceEqDiff, Nat.reduceAdd, Nat.reduceMul, Nat.reduceSub, Nat.reduceLT, Nat.reduceLeDiff, Int.reduceLE, Int.reduceLT, Int.reduceToNat, Int.reduceEq]
      refine (medadj_at hl ho hce hC (σ := σ.set p (.cells [int x2.2])) (hb1 _) hn (sub_set hpn hs) hd hsz hpb hpn (a := a + q * 3) (k := x2.2) (by omega) (by omega) (by omega) set_same).mono ?_
      rintro _ _ ⟨rfl, rfl⟩
      generalize medianAdjacent (ltc cf) d (a + q * 3) x2.2 = x3 at cp l3 ⊢
      simp only [go_sem, reduceIte, Nat.reduceEqDiff, Nat.reduceAdd, Nat.reduceMul, Nat.reduceSub, Nat.reduceLT, Nat.reduceLeDiff, Int.reduceLE, Int.reduceLT, Int.reduceToNat, Int.reduceEq]
      refine (median_at hl ho hce hC (σ := σ.set p (.cells [int x3.2])) (hb1 _) hn (sub_set hpn hs) hd hsz hpb hpn (a := x1.1) (c := x2.1) (e := x3.1) (k := x3.2) (by omega) (by omega) (by omega) (by omega) set_same).mono ?_
      rintro _ _ ⟨rfl, rfl⟩
      generalize median (ltc cf) d x1.1 x2.1 x3.1 x3.2 = r at cp ⊢
      simp only [go_sem, set_same, reduceIte, Nat.reduceEqDiff, Nat.reduceAdd, Nat.reduceMul, Nat.reduceSub, Nat.reduceLT, Nat.reduceLeDiff, Int.reduceLE, Int.reduceLT, Int.reduceToNat, Int.reduceEq]
      refine key _ _ ?_
      exact ⟨r, rfl, rfl, rfl, cp r rfl⟩
    · rw [if_neg (show ¬ 50 ≤ e - a by omega)] at cp
      simp only [go_sem, reduceIte, Nat.reduceEqDiff, Nat.reduceAdd, Nat.reduceMul, Nat.reduceSub, Nat.reduceLT, Nat.reduceLeDiff, Int.reduceLE, Int.reduceLT, Int.reduceToNat, Int.reduceEq]
      refine (median_at hl ho hce hC (σ := σ.set p (.cells [int 0])) (hb1 _) hn (sub_set hpn hs) hd hsz hpb hpn (a := a + q) (c := a + q * 2) (e := a + q * 3) (k := 0) (by omega) (by omega) (by omega) (by omega) set_same).mono ?_
      rintro _ _ ⟨rfl, rfl⟩
      generalize median (ltc cf) d (a + q) (a + q * 2) (a + q * 3) 0 = r at cp ⊢
      simp only [go_sem, set_same, reduceIte, Nat.reduceEqDiff, Nat.reduceAdd, Nat.reduceMul, Nat.reduceSub, Nat.reduceLT, Nat.reduceLeDiff, Int.reduceLE, Int.reduceLT, Int.reduceToNat, Int.reduceEq]
      refine key _ _ ?_
      exact ⟨r, rfl, rfl, rfl, cp r rfl⟩
  case h2 =>
    rintro fr σ1 ⟨r, f13, f55, rfl, hcp⟩
    have hdr : ∀ v, View (σ.set p (.cells [int r.2])) v σ v := fun v => view_drop (set_sub hp fun _ _ h => h)
    rw [hcp]
    simp only [go_sem, r_block, f55, reduceIte, Nat.reduceEqDiff, Nat.reduceAdd, Nat.reduceMul, Nat.reduceSub, Nat.reduceLT, Nat.reduceLeDiff, Int.reduceLE, Int.reduceLT, Int.reduceToNat, Int.reduceEq]
    refine aIf_by (fun k1 => ?_) (fun k1 => ?_)
    · simp only [go_sem, r_block, f13, reduceIte, Nat.reduceEqDiff, Nat.reduceAdd, Nat.reduceMul, Nat.reduceSub, Nat.reduceLT, Nat.reduceLeDiff, Int.reduceLE, Int.reduceLT, Int.reduceToNat, Int.reduceEq]
      refine aRet_view (r := .tup [int r.1, int 1]) rfl _ σ (hdr _) ⟨?_, rfl⟩
      show _ = AV.tup [int r.1, int (hintN (if r.2 = 0 then _ else _))]
      rw [if_pos (by omega)]
      rfl
    · simp only [go_sem, r_block, f55, reduceIte, Nat.reduceEqDiff, Nat.reduceAdd, Nat.reduceMul, Nat.reduceSub, Nat.reduceLT, Nat.reduceLeDiff, Int.reduceLE, Int.reduceLT, Int.reduceToNat, Int.reduceEq]
      refine aIf_by (fun k2 => ?_) (fun k2 => ?_)
      · simp only [go_sem, r_block, f13, reduceIte, Nat.reduceEqDiff, Nat.reduceAdd, Nat.reduceMul, Nat.reduceSub, Nat.reduceLT, Nat.reduceLeDiff, Int.reduceLE, Int.reduceLT, Int.reduceToNat, Int.reduceEq]
        refine aRet_view (r := .tup [int r.1, int 2]) rfl _ σ (hdr _) ⟨?_, rfl⟩
        show _ = AV.tup [int r.1, int (hintN (if r.2 = 0 then _ else if r.2 = 12 then _ else _))]
        rw [if_neg (by omega), if_pos (by omega)]
        rfl
      · simp only [go_sem, r_block, f13, reduceIte, Nat.reduceEqDiff, Nat.reduceAdd, Nat.reduceMul, Nat.reduceSub, Nat.reduceLT, Nat.reduceLeDiff, Int.reduceLE, Int.reduceLT, Int.reduceToNat, Int.reduceEq]
        refine aRet_view (r := .tup [int r.1, int 0]) rfl _ σ (hdr _) ⟨?_, rfl⟩
        show _ = AV.tup [int r.1, int (hintN (if r.2 = 0 then _ else if r.2 = 12 then _ else _))]
        rw [if_neg (by omega), if_neg (by omega)]
        rfl
end
end Go.Proofs.Ythdfpankebjleaa.L

/-
  The library's sort, of lists of facts: patterns are broken.
  Conditions: none.
-/
namespace Go.Proofs.Ythdfpankebjleaa.L
open Go Go.Av Go.Sort

section
variable {α : Type} [Inhabited α] {en : α → List AV} (hl : ∀ x, (en x).length = 1) (ho : ∀ x, (en x).all AV.one = true) (hce : ∀ x, ((en x).getD 0 (.v undef)).cells = en x) {cf : α → α → Int} {g : Nat}
variable {σ : St} {b cap : Nat} {d : Array α} (hb : σ b = some (.rows 1 (rw' en d) false cap)) {n : Nat} (hd : d.size = n) (hsz : n ≤ 1000000000)
/-- The rounds. -/
def brk (d : Array α) (a len m i0 : Nat) : Nat → UInt64 × Array α
  | 0 => (UInt64.ofNat len, d)
  | j + 1 => breakStep a len m (brk d a len m i0 j) (i0 + j)
theorem pow_bl {len : Nat} (h : 0 < len) : 1 <<< bitsLen len ≤ 2 * len := by
  unfold bitsLen
  rw [if_neg (by omega), Nat.one_shiftLeft, Nat.pow_succ]
  have := Nat.log2_self_le (n := len) (by omega)
  omega
theorem brk_eq {a e : Nat} (h : 8 ≤ e - a) : breakPatterns d a e = (brk d a (e - a) (1 <<< bitsLen (e - a)) (a + (e - a) / 4 * 2 - 1) 3).2 := by
  unfold breakPatterns
  simp only [ge_iff_le, h, if_true]
  rfl
theorem bandu {x y : Nat} (hx : x < 18446744073709551616) (hy : y < 18446744073709551616) : band .u64 (x : Int) (y : Int) = ((x &&& y : Nat) : Int) := by
  show IntKind.u64.wrap ((BitVec.ofInt 64 (x : Int) &&& BitVec.ofInt 64 (y : Int)).toNat : Int) = _
  have h : x &&& y ≤ x := Nat.and_le_left
  rw [wrapu, BitVec.toNat_and, ofI, ofI, Nat.mod_eq_of_lt hx, Nat.mod_eq_of_lt hy, Nat.mod_eq_of_lt (by omega)]
/-- The other one of a round. -/
def oth (len m : Nat) (s : UInt64) : Nat := if len ≤ (s.toNat &&& (m - 1)) then (s.toNat &&& (m - 1)) - len else s.toNat &&& (m - 1)
theorem oth_lt {len : Nat} {s : UInt64} (h : 0 < len) : oth len (1 <<< bitsLen len) s < len := by
  have h1 := pow_bl h
  have h2 : s.toNat &&& (1 <<< bitsLen len - 1) ≤ 1 <<< bitsLen len - 1 := Nat.and_le_right
  unfold oth
  split <;> omega
include hl ho hce hb hd hsz
theorem break_at {a e : Nat} (he : e ≤ n) (ha : a + 8 ≤ e) : AT Try.prog 116 [slv b n cap, int a, int e, fnv g] σ fun _ σ' => σ' = σ.set b (.rows 1 (rw' en (breakPatterns d a e)) false cap) := by
  refine AT.of_body Try.func116 rfl (by decide) (by kernel_rfl) (by kernel_rfl) (Nat.le_of_ble_eq_true rfl) ?_
  rw [brk_eq (by omega)]
  obtain ⟨len, hlen⟩ : ∃ len, len = e - a := ⟨_, rfl⟩
  obtain ⟨m, hm⟩ : ∃ m, m = 1 <<< bitsLen len := ⟨_, rfl⟩
  have hm2 : m ≤ 2 * len := by rw [hm]; exact pow_bl (by omega)
  have hm1 : 1 ≤ m := by rw [hm, Nat.one_shiftLeft]; exact Nat.one_le_two_pow
  obtain ⟨q, hq⟩ : ∃ q, q = len / 4 := ⟨_, rfl⟩
  have w1 : IntKind.i64.wrap ((e : Int) - a) = (len : Int) := by rw [wrap64 (by omega)]; omega
  have w2 : IntKind.i64.wrap ((len : Int).tdiv 4) = (q : Int) := by rw [Int.tdiv_eq_ediv_of_nonneg (by omega), wrap64 (by omega)]; omega
  have w3 : IntKind.i64.wrap ((a : Int) + IntKind.i64.wrap ((q : Int) * 2)) = ((a + q * 2 : Nat) : Int) := by rw [wrap64 (x := (q : Int) * 2) (by omega), wrap64 (by omega)]; omega
  have w4 : IntKind.i64.wrap (((a + q * 2 : Nat) : Int) - 1) = ((a + q * 2 - 1 : Nat) : Int) := by rw [wrap64 (by omega)]; omega
  have w5 : IntKind.i64.wrap (((a + q * 2 : Nat) : Int) + 1) = ((a + q * 2 + 1 : Nat) : Int) := by rw [wrap64 (by omega)]; omega
  have w6 : IntKind.u64.wrap (len : Int) = ((UInt64.ofNat len).toNat : Int) := by rw [wrapu, UInt64.toNat_ofNat']
  rw [← hlen, ← hm, ← hq]
  have d8 := decide_eq_true (show (8 : Int) ≤ (len : Int) by omega)
  simp only [go_sem, w1, d8, w6, reduceIte, Nat.reduceEqDiff, Nat.reduceAdd, Nat.reduceMul, Nat.reduceSub, Nat.reduceLT, Nat.reduceLeDiff, Int.reduceLE, Int.reduceLT, Int.reduceToNat, Int.reduceEq]
  refine aNew_intro fun r hr hrx => ?_
  have hrb : r ≠ b := fun h => hrx b _ hb h.symm
  simp only [go_sem, reduceIte, Nat.reduceEqDiff, Nat.reduceAdd, Nat.reduceMul, Nat.reduceSub, Nat.reduceLT, Nat.reduceLeDiff, Int.reduceLE, Int.reduceLT, Int.reduceToNat, Int.reduceEq]
  refine (pow2_at (by omega)).mono ?_
  rintro _ σ1 ⟨rfl, rfl⟩
  rw [← hm]
  simp only [go_sem, r_block, w2, w3, w4, reduceIte, Nat.reduceEqDiff, Nat.reduceAdd, Nat.reduceMul, Nat.reduceSub, Nat.reduceLT, Nat.reduceLeDiff, Int.reduceLE, Int.reduceLT, Int.reduceToNat, Int.reduceEq]
  refine ⟨fun k fr σ' => ∃ j : Nat, k = 3 - j ∧ j ≤ 3 ∧ (brk d a len m (a + q * 2 - 1) j).2.size = n ∧ σ' b = some (.rows 1 (rw' en (brk d a len m (a + q * 2 - 1) j).2) false cap) ∧ σ' r = some (.cells [u64 (brk d a len m (a + q * 2 - 1) j).1.toNat]) ∧ (∀ x o, σ x = some o → x ≠ b → σ' x = some o) ∧ fr 0 = slv b n cap ∧ fr 1 = int a ∧ fr 8 = int len ∧ fr 9 = .v (.pointer (some ⟨r, 0, none⟩)) ∧ fr 10 = u64 m ∧ fr 11 = int (a + q * 2 - 1 + j : Nat), ⟨_, 0, rfl, by omega, hd, by rw [set_ne (Ne.symm hrb)]; exact hb, set_same, fun x o hx _ => set_sub hr (fun _ _ h => h) x o hx, rfl, rfl, rfl, rfl, rfl, rfl⟩, ?_⟩
  rintro k fr σ' ⟨j, rfl, hj, hdd, hbb, hrr, hss, f0, f1, f8, f9, f10, f11⟩
  simp only [go_sem, f1, f8, f11, w2, w3, w5, reduceIte, Nat.reduceEqDiff, Nat.reduceAdd, Nat.reduceMul, Nat.reduceSub, Nat.reduceLT, Nat.reduceLeDiff, Int.reduceLE, Int.reduceLT, Int.reduceToNat, Int.reduceEq]
  refine aIf_by (fun hlt => ?_) (fun hlt => ?_)
  · have hj3 : j < 3 := by omega
    have hst : brk d a len m (a + q * 2 - 1) (j + 1) = (xorNext (brk d a len m (a + q * 2 - 1) j).1, swp (brk d a len m (a + q * 2 - 1) j).2 (a + q * 2 - 1 + j) (a + oth len m (xorNext (brk d a len m (a + q * 2 - 1) j).1))) := rfl
    generalize brk d a len m (a + q * 2 - 1) j = st at hdd hbb hrr hst
    obtain ⟨s, dd⟩ := st
    have hot : oth len m (xorNext s) < len := by rw [hm]; exact oth_lt (by omega)
    simp only [go_sem, r_block, f9, reduceIte, Nat.reduceEqDiff, Nat.reduceAdd, Nat.reduceMul, Nat.reduceSub, Nat.reduceLT, Nat.reduceLeDiff, Int.reduceLE, Int.reduceLT, Int.reduceToNat, Int.reduceEq]
    refine (next_at hrr).mono ?_
    rintro _ _ ⟨rfl, rfl⟩
    have v1 : IntKind.u64.wrap ((m : Int) - 1) = ((m - 1 : Nat) : Int) := by
      rw [show ((m : Int) - 1) = ((m - 1 : Nat) : Int) by omega, wrapu]; omega
    have v2 : band .u64 ((xorNext s).toNat : Int) ((m - 1 : Nat) : Int) = (((xorNext s).toNat &&& (m - 1) : Nat) : Int) := bandu (xorNext s).toNat_lt (by omega)
    have hand : (xorNext s).toNat &&& (m - 1) ≤ m - 1 := Nat.and_le_right
    obtain ⟨t, ht⟩ : ∃ t, t = (xorNext s).toNat &&& (m - 1) := ⟨_, rfl⟩
    rw [← ht] at v2 hand
    have v3 : IntKind.i64.wrap (t : Int) = (t : Int) := wrap64 (by omega)
    simp only [go_sem, f1, f8, f10, v1, v2, v3, reduceIte, Nat.reduceEqDiff, Nat.reduceAdd, Nat.reduceMul, Nat.reduceSub, Nat.reduceLT, Nat.reduceLeDiff, Int.reduceLE, Int.reduceLT, Int.reduceToNat, Int.reduceEq]
    refine aIf_meet (fun fr σ'' => σ'' = σ'.set r (.cells [u64 (xorNext s).toNat]) ∧ fr 0 = slv b n cap ∧ fr 1 = int a ∧ fr 8 = int len ∧ fr 9 = .v (.pointer (some ⟨r, 0, none⟩)) ∧ fr 10 = u64 m ∧ fr 11 = int (a + q * 2 - 1 + j : Nat) ∧ fr 12 = int (oth len m (xorNext s))) (fun g1 => ?_) (fun g1 => ?_) ?_
    · have v4 : IntKind.i64.wrap ((t : Int) - len) = ((t - len : Nat) : Int) := by rw [wrap64 (by omega)]; omega
      have e : oth len m (xorNext s) = t - len := by unfold oth; rw [← ht, if_pos (by omega)]
      simp only [go_sem, f0, f1, f8, f9, f10, f11, v4, e, reduceIte, Nat.reduceEqDiff, Nat.reduceAdd, Nat.reduceMul, Nat.reduceSub, Nat.reduceLT, Nat.reduceLeDiff, Int.reduceLE, Int.reduceLT, Int.reduceToNat, Int.reduceEq]
    · have e : oth len m (xorNext s) = t := by unfold oth; rw [← ht, if_neg (by omega)]
      simp only [go_sem, f0, f1, f8, f9, f10, f11, e, reduceIte, Nat.reduceEqDiff, Nat.reduceAdd, Nat.reduceMul, Nat.reduceSub, Nat.reduceLT, Nat.reduceLeDiff, Int.reduceLE, Int.reduceLT, Int.reduceToNat, Int.reduceEq]
    clear f0 f1 f8 f9 f10 f11 ht v1 v2 v3
    generalize oth len m (xorNext s) = k at hot hst
    rintro fr σ2 ⟨hσ2, f0, f1, f8, f9, f10, f11, f12⟩
    obtain ⟨i, hi⟩ : ∃ i, i = a + q * 2 - 1 + j := ⟨_, rfl⟩
    have hb2 : σ2 b = some (.rows 1 (rw' en dd) false cap) := by rw [hσ2, set_ne (Ne.symm hrb)]; exact hbb
    have hr2 : σ2 r = some (.cells [u64 (xorNext s).toNat]) := by rw [hσ2]; exact set_same
    have hs2 : ∀ x o, σ x = some o → x ≠ b → σ2 x = some o := fun x o hx hxb => by
      rw [hσ2, set_ne (hrx x o hx)]; exact hss x o hx hxb
    have hdd : dd.size = n := hdd
    have v5 : IntKind.i64.wrap ((a : Int) + (k : Int)) = ((a + k : Nat) : Int) := by rw [wrap64 (by omega)]; omega
    have v6 : IntKind.i64.wrap (((a + q * 2 - 1 + j : Nat) : Int) + 1) = ((a + q * 2 - 1 + (j + 1) : Nat) : Int) := by rw [wrap64 (by omega)]; omega
    have q1 := rw_get (en := en) (d := dd) (j := a + q * 2 - 1 + j) (by omega)
    have q2 := rw_get (en := en) (d := dd) (j := a + k) (by omega)
    have q3 := rw_get (en := en) (d := dd.setIfInBounds (a + q * 2 - 1 + j) dd[a + k]!) (j := a + k) (by rw [Array.size_setIfInBounds]; omega)
    simp only [go_sem, reduceIte, Nat.reduceEqDiff, Nat.reduceAdd, Nat.reduceMul, Nat.reduceSub, Nat.reduceLT, Nat.reduceLeDiff, Int.reduceLE, Int.reduceLT, Int.reduceToNat, Int.reduceEq]
    refine aDraw_plan [.rd 0 false, .rd 1 false, .rd 2 false, .rd 3 false, .rd 4 false, .rd 5 false, .rd 6 false, .rd 7 false, .rd 8 false, .rd 9 false, .rd 10 false, .rd 11 true, .rd 12 false, .rd 13 false, .rd 14 false, .rd 15 true, .rd 16 false, .ef 17 [], .rd 18 false, .ef 19 []] (by kernel_rfl) (by kernel_rfl) (by kernel_rfl) ?_
    simp only [go_sem, f0, f1, f11, f12, v5, hb2, set_same, q1, q2, en_take hl, en_app hl, hl, ho, hce, rw_set, q3, Array.size_setIfInBounds, v6, f8, f9, f10, reduceIte, Nat.reduceEqDiff, Nat.reduceAdd, Nat.reduceMul, Nat.reduceSub, Nat.reduceLT, Nat.reduceLeDiff, Int.reduceLE, Int.reduceLT, Int.reduceToNat, Int.reduceEq]
    refine ⟨by omega, by omega, by omega, by omega, by omega, by omega, by omega, by omega, 3 - (j + 1), by omega, j + 1, rfl, by omega, by rw [hst, swp_size]; exact hdd, by rw [hst]; rfl, by rw [set_ne hrb, hst]; exact hr2, fun x o hx hxb => by rw [set_ne hxb]; exact hs2 x o hx hxb, rfl⟩
  · obtain rfl : j = 3 := by omega
    simp only [go_sem, reduceIte, Nat.reduceEqDiff, Nat.reduceAdd, Nat.reduceMul, Nat.reduceSub, Nat.reduceLT, Nat.reduceLeDiff, Int.reduceLE, Int.reduceLT, Int.reduceToNat, Int.reduceEq]
    refine aRet_view (r := .tup []) rfl _ (σ.set b (.rows 1 (rw' en (brk d a len m (a + q * 2 - 1) 3).2) false cap)) (view_drop fun x o hx => ?_) rfl
    by_cases e : x = b
    · subst e
      rw [set_same] at hx
      rw [hbb]; exact hx
    · rw [set_ne e] at hx
      exact hss x o hx e
end
end Go.Proofs.Ythdfpankebjleaa.L

/-
  The library's sort, of lists of facts: what is nearly sorted.
  Conditions: none.
-/
namespace Go.Proofs.Ythdfpankebjleaa.L
open Go Go.Av Go.Sort

section
variable {α : Type} [Inhabited α] {en : α → List AV} (hl : ∀ x, (en x).length = 1) (ho : ∀ x, (en x).all AV.one = true) (hce : ∀ x, ((en x).getD 0 (.v undef)).cells = en x) {cf : α → α → Int} {g : Nat} {β : St} (hC : ∀ σ', (∀ x o, β x = some o → σ' x = some o) → ∀ x y, AT Try.prog g [(en x).getD 0 (.v undef), (en y).getD 0 (.v undef)] σ' fun r σ'' => r = int (cf x y) ∧ σ'' = σ')
variable {σ : St} {b cap : Nat} {d : Array α} (hb : σ b = some (.rows 1 (rw' en d) false cap)) (hn : β b = none) (hs : ∀ x o, β x = some o → σ x = some o) {n : Nat} (hd : d.size = n) (hsz : n ≤ 1000000000)
theorem scan_eq {lt : α → α → Bool} {d : Array α} {e i : Nat} : scanSorted lt d e i = if i < e ∧ lt d[i]! d[i - 1]! = false then scanSorted lt d e (i + 1) else i := by
  rw [scanSorted]
  by_cases h : i < e <;> cases h2 : lt d[i]! d[i - 1]! <;> simp [h]
theorem up_eq {lt : α → α → Bool} {d : Array α} {e j : Nat} : shiftUp lt e j d = if j < e ∧ lt d[j]! d[j - 1]! = true then shiftUp lt e (j + 1) (swp d j (j - 1)) else d := by
  rw [shiftUp]
  by_cases h : j < e <;> cases h2 : lt d[j]! d[j - 1]! <;> simp [h]
/-- One step. -/
def pst (lt : α → α → Bool) (a e : Nat) (i : Nat) (d : Array α) : Array α :=
  let d1 := swp d i (i - 1)
  let d2 := if 2 ≤ i - a then shiftDown lt (i - 1) d1 else d1
  if 2 ≤ e - i then shiftUp lt e (i + 1) d2 else d2
theorem pin_eq {lt : α → α → Bool} {a e s i : Nat} {d : Array α} : partialIns lt a e (s + 1) i d = if scanSorted lt d e i = e then (d, true) else if e - a < 50 then (d, false) else partialIns lt a e s (scanSorted lt d e i) (pst lt a e (scanSorted lt d e i) d) := rfl
include hl ho hce hC hb hn hs hd hsz
theorem partial_at {a e : Nat} (he : e ≤ n) (ha : a < e) : AT Try.prog 119 [slv b n cap, int a, int e, fnv g] σ fun r σ' => r = boo (partialInsertionSort (ltc cf) d a e).2 ∧ σ' = σ.set b (.rows 1 (rw' en (partialInsertionSort (ltc cf) d a e).1) false cap) := by
  refine AT.of_body Try.func119 rfl (by decide) (by kernel_rfl) (by kernel_rfl) (Nat.le_of_ble_eq_true rfl) ?_
  simp only [go_sem, r_block, next64 (show a < 9223372036854775807 by omega), reduceIte, Nat.reduceEqDiff, Nat.reduceAdd, Nat.reduceMul, Nat.reduceSub, Nat.reduceLT, Nat.reduceLeDiff, Int.reduceLE, Int.reduceLT, Int.reduceToNat, Int.reduceEq]
  refine ⟨fun m fr σ' => ∃ (s i : Nat) (d' : Array α), m = s ∧ s ≤ 5 ∧ a < i ∧ i ≤ e ∧ d'.size = n ∧ partialIns (ltc cf) a e s i d' = partialInsertionSort (ltc cf) d a e ∧ σ' = σ.set b (.rows 1 (rw' en d') false cap) ∧ fr 0 = slv b n cap ∧ fr 1 = int a ∧ fr 2 = int e ∧ fr 3 = fnv g ∧ fr 9 = int i ∧ fr 10 = int ((5 : Int) - s), ⟨_, 5, a + 1, d, rfl, by omega, by omega, by omega, hd, rfl, (set_id hb).symm, rfl, rfl, rfl, rfl, rfl, rfl⟩, ?_⟩
  rintro m fr σ' ⟨s, i, dd, hm, h5, hi1, hi2, hdd, hI, rfl, f0, f1, f2, f3, f9, f10⟩
  subst hm
  simp only [go_sem, f10, reduceIte, Nat.reduceEqDiff, Nat.reduceAdd, Nat.reduceMul, Nat.reduceSub, Nat.reduceLT, Nat.reduceLeDiff, Int.reduceLE, Int.reduceLT, Int.reduceToNat, Int.reduceEq]
  refine aIf_by (fun hlt => ?_) (fun hlt => ?_)
  · obtain ⟨t, rfl⟩ : ∃ t, m = t + 1 := ⟨m - 1, by omega⟩
    rw [pin_eq] at hI
    simp only [go_sem, reduceIte, Nat.reduceEqDiff, Nat.reduceAdd, Nat.reduceMul, Nat.reduceSub, Nat.reduceLT, Nat.reduceLeDiff, Int.reduceLE, Int.reduceLT, Int.reduceToNat, Int.reduceEq]
    rw [r_block]
    simp only [go_sem, reduceIte, Nat.reduceEqDiff, Nat.reduceAdd, Nat.reduceMul, Nat.reduceSub, Nat.reduceLT, Nat.reduceLeDiff, Int.reduceLE, Int.reduceLT, Int.reduceToNat, Int.reduceEq]
    refine aMeet (fun fr σ' => σ' = σ.set b (.rows 1 (rw' en dd) false cap) ∧ ∃ j : Nat, a < j ∧ j ≤ e ∧ scanSorted (ltc cf) dd e i = j ∧ fr 0 = slv b n cap ∧ fr 1 = int a ∧ fr 2 = int e ∧ fr 3 = fnv g ∧ fr 9 = int j ∧ fr 10 = int ((5 : Int) - (t + 1 : Nat))) ?_ ?_
    · simp only [go_sem, r_block, reduceIte, Nat.reduceEqDiff, Nat.reduceAdd, Nat.reduceMul, Nat.reduceSub, Nat.reduceLT, Nat.reduceLeDiff, Int.reduceLE, Int.reduceLT, Int.reduceToNat, Int.reduceEq]
      refine ⟨fun k fr σ' => ∃ j : Nat, k = e - j ∧ a < j ∧ j ≤ e ∧ scanSorted (ltc cf) dd e j = scanSorted (ltc cf) dd e i ∧ σ' = σ.set b (.rows 1 (rw' en dd) false cap) ∧ fr 0 = slv b n cap ∧ fr 1 = int a ∧ fr 2 = int e ∧ fr 3 = fnv g ∧ fr 9 = int j ∧ fr 10 = int ((5 : Int) - (t + 1 : Nat)), ⟨_, i, rfl, hi1, hi2, rfl, rfl, f0, f1, f2, f3, f9, f10⟩, ?_⟩
      clear f0 f1 f2 f3 f9 f10 fr
      rintro k fr σ' ⟨j, rfl, hj1, hj2, hJ, rfl, f0, f1, f2, f3, f9, f10⟩
      rw [scan_eq] at hJ
      have w1 : IntKind.i64.wrap ((j : Int) - 1) = ((j - 1 : Nat) : Int) := by rw [wrap64 (by omega)]; omega
      simp only [go_sem, reduceIte, Nat.reduceEqDiff, Nat.reduceAdd, Nat.reduceMul, Nat.reduceSub, Nat.reduceLT, Nat.reduceLeDiff, Int.reduceLE, Int.reduceLT, Int.reduceToNat, Int.reduceEq]
      refine aDraw_plan [.rd 0 false, .rd 1 false, .rd 2 false, .rd 3 false, .rd 4 false, .rd 5 false, .rd 6 false, .rd 7 false, .rd 8 true, .rd 9 false, .rd 10 false, .rd 11 false, .rd 12 false, .rd 13 true, .ef 14 [], .rd 15 false, .rd 16 false, .rd 17 false] (by kernel_rfl) (by kernel_rfl) (by kernel_rfl) ?_
      by_cases g1 : (j : Int) < e
      · have q1 := rw_get (en := en) (d := dd) (j := j) (by omega)
        have q2 := rw_get (en := en) (d := dd) (j := j - 1) (by omega)
        simp only [go_sem, f0, f1, f2, f3, f9, decide_eq_true g1, w1, set_same, q1, q2, en_take hl, reduceIte, Nat.reduceEqDiff, Nat.reduceAdd, Nat.reduceMul, Nat.reduceSub, Nat.reduceLT, Nat.reduceLeDiff, Int.reduceLE, Int.reduceLT, Int.reduceToNat, Int.reduceEq]
        refine ⟨by omega, by omega, by omega, by omega, (hC _ (sub_set hn hs) _ _).mono ?_⟩
        rintro _ σ1 ⟨rfl, rfl⟩
        simp only [go_sem, reduceIte, Nat.reduceEqDiff, Nat.reduceAdd, Nat.reduceMul, Nat.reduceSub, Nat.reduceLT, Nat.reduceLeDiff, Int.reduceLE, Int.reduceLT, Int.reduceToNat, Int.reduceEq]
        refine aIf_by (fun g2 => ?_) (fun g2 => ?_)
        · rw [if_neg (by unfold ltc; rw [decide_eq_true g2]; simp)] at hJ
          simp only [go_sem, reduceIte, Nat.reduceEqDiff, Nat.reduceAdd, Nat.reduceMul, Nat.reduceSub, Nat.reduceLT, Nat.reduceLeDiff, Int.reduceLE, Int.reduceLT, Int.reduceToNat, Int.reduceEq]
          exact ⟨j, hj1, hj2, hJ.symm, f0, f1, f2, f3, f9, f10⟩
        · rw [if_pos ⟨by omega, by unfold ltc; exact decide_eq_false g2⟩] at hJ
          simp only [go_sem, r_block, f0, f1, f2, f3, f9, f10, next64 (show j < 9223372036854775807 by omega), reduceIte, Nat.reduceEqDiff, Nat.reduceAdd, Nat.reduceMul, Nat.reduceSub, Nat.reduceLT, Nat.reduceLeDiff, Int.reduceLE, Int.reduceLT, Int.reduceToNat, Int.reduceEq]
          exact ⟨e - (j + 1), by omega, j + 1, rfl, by omega, by omega, hJ, rfl⟩
      · rw [if_neg (by omega)] at hJ
        simp only [go_sem, f2, f9, decide_eq_false g1, reduceIte, Nat.reduceEqDiff, Nat.reduceAdd, Nat.reduceMul, Nat.reduceSub, Nat.reduceLT, Nat.reduceLeDiff, Int.reduceLE, Int.reduceLT, Int.reduceToNat, Int.reduceEq]
        exact ⟨j, hj1, hj2, hJ.symm, f0, f1, f3, rfl, f10⟩
    clear f0 f1 f2 f3 f9 f10 fr
    rintro fr σ' ⟨rfl, j, hj1, hj2, hJ, f0, f1, f2, f3, f9, f10⟩
    rw [hJ] at hI
    have w1 : IntKind.i64.wrap ((j : Int) - 1) = ((j - 1 : Nat) : Int) := by rw [wrap64 (by omega)]; omega
    have w2 : IntKind.i64.wrap ((e : Int) - a) = ((e - a : Nat) : Int) := by rw [wrap64 (by omega)]; omega
    have w3 : IntKind.i64.wrap ((j : Int) - a) = ((j - a : Nat) : Int) := by rw [wrap64 (by omega)]; omega
    have w4 : IntKind.i64.wrap ((e : Int) - j) = ((e - j : Nat) : Int) := by rw [wrap64 (by omega)]; omega
    simp only [go_sem, f2, f9, reduceIte, Nat.reduceEqDiff, Nat.reduceAdd, Nat.reduceMul, Nat.reduceSub, Nat.reduceLT, Nat.reduceLeDiff, Int.reduceLE, Int.reduceLT, Int.reduceToNat, Int.reduceEq]
    refine aIf_by (fun g1 => ?_) (fun g1 => ?_)
    · rw [if_pos (by omega)] at hI
      simp only [go_sem, reduceIte, Nat.reduceEqDiff, Nat.reduceAdd, Nat.reduceMul, Nat.reduceSub, Nat.reduceLT, Nat.reduceLeDiff, Int.reduceLE, Int.reduceLT, Int.reduceToNat, Int.reduceEq]
      rw [← hI]
      exact aRet_as (r := boo true) rfl ⟨rfl, rfl⟩
    rw [if_neg (by omega)] at hI
    simp only [go_sem, f1, f2, w2, reduceIte, Nat.reduceEqDiff, Nat.reduceAdd, Nat.reduceMul, Nat.reduceSub, Nat.reduceLT, Nat.reduceLeDiff, Int.reduceLE, Int.reduceLT, Int.reduceToNat, Int.reduceEq]
    refine aIf_by (fun g2 => ?_) (fun g2 => ?_)
    · rw [if_pos (by omega)] at hI
      simp only [go_sem, reduceIte, Nat.reduceEqDiff, Nat.reduceAdd, Nat.reduceMul, Nat.reduceSub, Nat.reduceLT, Nat.reduceLeDiff, Int.reduceLE, Int.reduceLT, Int.reduceToNat, Int.reduceEq]
      rw [← hI]
      exact aRet_as (r := boo false) rfl ⟨rfl, rfl⟩
    rw [if_neg (by omega)] at hI
    simp only [go_sem, reduceIte, Nat.reduceEqDiff, Nat.reduceAdd, Nat.reduceMul, Nat.reduceSub, Nat.reduceLT, Nat.reduceLeDiff, Int.reduceLE, Int.reduceLT, Int.reduceToNat, Int.reduceEq]
    have q1 := rw_get (en := en) (d := dd) (j := j) (by omega)
    have q2 := rw_get (en := en) (d := dd) (j := j - 1) (by omega)
    have q3 := rw_get (en := en) (d := dd.setIfInBounds j dd[j - 1]!) (j := j - 1) (by rw [Array.size_setIfInBounds]; omega)
    refine aDraw_plan [.rd 0 false, .rd 1 false, .rd 2 false, .rd 3 false, .rd 4 false, .rd 5 false, .rd 6 false, .rd 7 false, .rd 8 false, .rd 9 true, .rd 10 false, .rd 11 false, .rd 12 false, .rd 13 true, .rd 14 false, .ef 15 [], .rd 16 false, .ef 17 []] (by kernel_rfl) (by kernel_rfl) (by kernel_rfl) ?_
    simp only [go_sem, f0, f1, f2, f3, f9, w1, w3, set_same, q1, q2, en_take hl, en_app hl, hl, ho, hce, rw_set, q3, Array.size_setIfInBounds, reduceIte, Nat.reduceEqDiff, Nat.reduceAdd, Nat.reduceMul, Nat.reduceSub, Nat.reduceLT, Nat.reduceLeDiff, Int.reduceLE, Int.reduceLT, Int.reduceToNat, Int.reduceEq]
    refine ⟨by omega, by omega, by omega, by omega, by omega, by omega, by omega, by omega, ?_⟩
    obtain ⟨d1, hd1⟩ : ∃ d1, d1 = swp dd j (j - 1) := ⟨_, rfl⟩
    have hz1 : d1.size = n := by rw [hd1, swp_size]; exact hdd
    have hI : partialIns (ltc cf) a e t j (if 2 ≤ e - j then shiftUp (ltc cf) e (j + 1) (if 2 ≤ j - a then shiftDown (ltc cf) (j - 1) d1 else d1) else (if 2 ≤ j - a then shiftDown (ltc cf) (j - 1) d1 else d1)) = partialInsertionSort (ltc cf) d a e := by rw [hd1]; exact hI
    have e1 : AObj.rows 1 (rw' en ((dd.setIfInBounds j dd[j - 1]!).setIfInBounds (j - 1) dd[j]!)) false cap = AObj.rows 1 (rw' en d1) false cap := by rw [hd1]; rfl
    rw [e1]
    clear e1 q1 q2 q3
    refine aIf_meet (fun fr σ' => ∃ d2, d2 = (if 2 ≤ j - a then shiftDown (ltc cf) (j - 1) d1 else d1) ∧ d2.size = n ∧ σ' = σ.set b (.rows 1 (rw' en d2) false cap) ∧ fr 0 = slv b n cap ∧ fr 1 = int a ∧ fr 2 = int e ∧ fr 3 = fnv g ∧ fr 9 = int j ∧ fr 10 = int ((5 : Int) - (t + 1 : Nat))) (fun g3 => ?_) (fun g3 => ?_) ?_
    · rw [if_pos (by omega)]
      simp only [go_sem, r_block, f9, w1, reduceIte, Nat.reduceEqDiff, Nat.reduceAdd, Nat.reduceMul, Nat.reduceSub, Nat.reduceLT, Nat.reduceLeDiff, Int.reduceLE, Int.reduceLT, Int.reduceToNat, Int.reduceEq]
      refine ⟨fun m fr σ' => ∃ (k : Nat) (dk : Array α), m = k + 1 ∧ k < n ∧ dk.size = n ∧ shiftDown (ltc cf) k dk = shiftDown (ltc cf) (j - 1) d1 ∧ σ' = σ.set b (.rows 1 (rw' en dk) false cap) ∧ fr 0 = slv b n cap ∧ fr 1 = int a ∧ fr 2 = int e ∧ fr 3 = fnv g ∧ fr 9 = int j ∧ fr 10 = int ((5 : Int) - (t + 1 : Nat)) ∧ fr 11 = int k, ⟨_, j - 1, d1, rfl, by omega, hz1, rfl, rfl, f0, f1, f2, f3, f9, f10, rfl⟩, ?_⟩
      clear f0 f1 f2 f3 f9 f10 fr
      rintro m fr σ' ⟨k, dk, rfl, hk, hdk, hK, rfl, f0, f1, f2, f3, f9, f10, f11⟩
      simp only [go_sem, f11, reduceIte, Nat.reduceEqDiff, Nat.reduceAdd, Nat.reduceMul, Nat.reduceSub, Nat.reduceLT, Nat.reduceLeDiff, Int.reduceLE, Int.reduceLT, Int.reduceToNat, Int.reduceEq]
      refine aIf_by (fun g4 => ?_) (fun g4 => ?_)
      · obtain ⟨l, rfl⟩ : ∃ l, k = l + 1 := ⟨k - 1, by omega⟩
        have w5 : IntKind.i64.wrap (((l + 1 : Nat) : Int) - 1) = (l : Int) := by rw [wrap64 (by omega)]; omega
        have q1 := rw_get (en := en) (d := dk) (j := l + 1) (by omega)
        have q2 := rw_get (en := en) (d := dk) (j := l) (by omega)
        have q3 := rw_get (en := en) (d := dk.setIfInBounds (l + 1) dk[l]!) (j := l) (by rw [Array.size_setIfInBounds]; omega)
        rw [shiftDown] at hK
        simp only [go_sem, r_block, reduceIte, Nat.reduceEqDiff, Nat.reduceAdd, Nat.reduceMul, Nat.reduceSub, Nat.reduceLT, Nat.reduceLeDiff, Int.reduceLE, Int.reduceLT, Int.reduceToNat, Int.reduceEq]
        refine aDraw_plan [.rd 0 false, .rd 1 false, .rd 2 false, .rd 3 false, .rd 4 true, .rd 5 false, .rd 6 false, .rd 7 false, .rd 8 false, .rd 9 true, .ef 10 [], .rd 11 false, .rd 12 false] (by kernel_rfl) (by kernel_rfl) (by kernel_rfl) ?_
        simp only [go_sem, f0, f3, f11, w5, set_same, q1, q2, en_take hl, reduceIte, Nat.reduceEqDiff, Nat.reduceAdd, Nat.reduceMul, Nat.reduceSub, Nat.reduceLT, Nat.reduceLeDiff, Int.reduceLE, Int.reduceLT, Int.reduceToNat, Int.reduceEq]
        refine ⟨by omega, by omega, by omega, by omega, (hC _ (sub_set hn hs) _ _).mono ?_⟩
        rintro _ σ1 ⟨rfl, rfl⟩
        simp only [go_sem, reduceIte, Nat.reduceEqDiff, Nat.reduceAdd, Nat.reduceMul, Nat.reduceSub, Nat.reduceLT, Nat.reduceLeDiff, Int.reduceLE, Int.reduceLT, Int.reduceToNat, Int.reduceEq]
        refine aIf_by (fun g5 => ?_) (fun g5 => ?_)
        · rw [if_neg (by unfold ltc; rw [decide_eq_true g5]; simp)] at hK
          simp only [go_sem, reduceIte, Nat.reduceEqDiff, Nat.reduceAdd, Nat.reduceMul, Nat.reduceSub, Nat.reduceLT, Nat.reduceLeDiff, Int.reduceLE, Int.reduceLT, Int.reduceToNat, Int.reduceEq]
          refine aDraw_plan [.rd 0 false, .rd 1 false, .rd 2 false, .rd 3 false, .rd 4 false, .rd 5 false, .rd 6 false, .rd 7 false, .rd 8 false, .rd 9 true, .rd 10 false, .rd 11 false, .rd 12 false, .rd 13 true, .rd 14 false, .ef 15 [], .rd 16 false, .ef 17 []] (by kernel_rfl) (by kernel_rfl) (by kernel_rfl) ?_
          simp only [go_sem, f0, f3, f11, w5, set_same, q1, q2, en_take hl, en_app hl, hl, ho, hce, rw_set, q3, Array.size_setIfInBounds, f1, f2, f9, f10, reduceIte, Nat.reduceEqDiff, Nat.reduceAdd, Nat.reduceMul, Nat.reduceSub, Nat.reduceLT, Nat.reduceLeDiff, Int.reduceLE, Int.reduceLT, Int.reduceToNat, Int.reduceEq]
          exact ⟨by omega, by omega, by omega, by omega, by omega, by omega, by omega, by omega, l + 1, by omega, l, swp dk (l + 1) l, rfl, by omega, by rw [swp_size]; exact hdk, hK, rfl, rfl⟩
        · rw [if_pos (by unfold ltc; rw [decide_eq_false g5]; rfl)] at hK
          simp only [go_sem, reduceIte, Nat.reduceEqDiff, Nat.reduceAdd, Nat.reduceMul, Nat.reduceSub, Nat.reduceLT, Nat.reduceLeDiff, Int.reduceLE, Int.reduceLT, Int.reduceToNat, Int.reduceEq]
          exact ⟨dk, hK, hdk, rfl, f0, f1, f2, f3, f9, f10⟩
      · obtain rfl : k = 0 := by omega
        simp only [go_sem, reduceIte, Nat.reduceEqDiff, Nat.reduceAdd, Nat.reduceMul, Nat.reduceSub, Nat.reduceLT, Nat.reduceLeDiff, Int.reduceLE, Int.reduceLT, Int.reduceToNat, Int.reduceEq]
        exact ⟨dk, hK, hdk, rfl, f0, f1, f2, f3, f9, f10⟩
    · rw [if_neg (by omega)]
      simp only [go_sem, reduceIte, Nat.reduceEqDiff, Nat.reduceAdd, Nat.reduceMul, Nat.reduceSub, Nat.reduceLT, Nat.reduceLeDiff, Int.reduceLE, Int.reduceLT, Int.reduceToNat, Int.reduceEq]
      exact ⟨d1, rfl, hz1, rfl, f0, f1, f2, f3, f9, f10⟩
    clear f0 f1 f2 f3 f9 f10 fr
    rintro fr σ' ⟨d2, hd2, hz2, rfl, f0, f1, f2, f3, f9, f10⟩
    rw [← hd2] at hI
    clear hd1 hd2 hz1 d1
    simp only [go_sem, f2, f9, w4, reduceIte, Nat.reduceEqDiff, Nat.reduceAdd, Nat.reduceMul, Nat.reduceSub, Nat.reduceLT, Nat.reduceLeDiff, Int.reduceLE, Int.reduceLT, Int.reduceToNat, Int.reduceEq]
    have w6 : IntKind.i64.wrap (((5 : Int) - (t + 1 : Nat)) + 1) = (5 : Int) - (t : Nat) := by rw [wrap64 (by omega)]; omega
    refine aIf_by (fun g3 => ?_) (fun g3 => ?_)
    · rw [if_pos (by omega)] at hI
      simp only [go_sem, r_block, f9, next64 (show j < 9223372036854775807 by omega), reduceIte, Nat.reduceEqDiff, Nat.reduceAdd, Nat.reduceMul, Nat.reduceSub, Nat.reduceLT, Nat.reduceLeDiff, Int.reduceLE, Int.reduceLT, Int.reduceToNat, Int.reduceEq]
      refine ⟨fun m fr σ' => ∃ (k : Nat) (dk : Array α), m = e - k ∧ j < k ∧ dk.size = n ∧ shiftUp (ltc cf) e k dk = shiftUp (ltc cf) e (j + 1) d2 ∧ σ' = σ.set b (.rows 1 (rw' en dk) false cap) ∧ fr 0 = slv b n cap ∧ fr 1 = int a ∧ fr 2 = int e ∧ fr 3 = fnv g ∧ fr 9 = int j ∧ fr 10 = int ((5 : Int) - (t + 1 : Nat)) ∧ fr 12 = int k, ⟨_, j + 1, d2, rfl, by omega, hz2, rfl, rfl, f0, f1, f2, f3, f9, f10, rfl⟩, ?_⟩
      clear f0 f1 f2 f3 f9 f10 fr
      rintro m fr σ' ⟨k, dk, rfl, hk, hdk, hK, rfl, f0, f1, f2, f3, f9, f10, f12⟩
      rw [up_eq] at hK
      simp only [go_sem, f12, f2, reduceIte, Nat.reduceEqDiff, Nat.reduceAdd, Nat.reduceMul, Nat.reduceSub, Nat.reduceLT, Nat.reduceLeDiff, Int.reduceLE, Int.reduceLT, Int.reduceToNat, Int.reduceEq]
      refine aIf_by (fun g4 => ?_) (fun g4 => ?_)
      · have w5 : IntKind.i64.wrap ((k : Int) - 1) = ((k - 1 : Nat) : Int) := by rw [wrap64 (by omega)]; omega
        have q1 := rw_get (en := en) (d := dk) (j := k) (by omega)
        have q2 := rw_get (en := en) (d := dk) (j := k - 1) (by omega)
        have q3 := rw_get (en := en) (d := dk.setIfInBounds k dk[k - 1]!) (j := k - 1) (by rw [Array.size_setIfInBounds]; omega)
        simp only [go_sem, r_block, reduceIte, Nat.reduceEqDiff, Nat.reduceAdd, Nat.reduceMul, Nat.reduceSub, Nat.reduceLT, Nat.reduceLeDiff, Int.reduceLE, Int.reduceLT, Int.reduceToNat, Int.reduceEq]
        refine aDraw_plan [.rd 0 false, .rd 1 false, .rd 2 false, .rd 3 false, .rd 4 true, .rd 5 false, .rd 6 false, .rd 7 false, .rd 8 false, .rd 9 true, .ef 10 [], .rd 11 false, .rd 12 false] (by kernel_rfl) (by kernel_rfl) (by kernel_rfl) ?_
        simp only [go_sem, f0, f3, f12, w5, set_same, q1, q2, en_take hl, reduceIte, Nat.reduceEqDiff, Nat.reduceAdd, Nat.reduceMul, Nat.reduceSub, Nat.reduceLT, Nat.reduceLeDiff, Int.reduceLE, Int.reduceLT, Int.reduceToNat, Int.reduceEq]
        refine ⟨by omega, by omega, by omega, by omega, (hC _ (sub_set hn hs) _ _).mono ?_⟩
        rintro _ σ1 ⟨rfl, rfl⟩
        simp only [go_sem, reduceIte, Nat.reduceEqDiff, Nat.reduceAdd, Nat.reduceMul, Nat.reduceSub, Nat.reduceLT, Nat.reduceLeDiff, Int.reduceLE, Int.reduceLT, Int.reduceToNat, Int.reduceEq]
        refine aIf_by (fun g5 => ?_) (fun g5 => ?_)
        · rw [if_pos ⟨by omega, by unfold ltc; exact decide_eq_true g5⟩] at hK
          simp only [go_sem, reduceIte, Nat.reduceEqDiff, Nat.reduceAdd, Nat.reduceMul, Nat.reduceSub, Nat.reduceLT, Nat.reduceLeDiff, Int.reduceLE, Int.reduceLT, Int.reduceToNat, Int.reduceEq]
          refine aDraw_plan [.rd 0 false, .rd 1 false, .rd 2 false, .rd 3 false, .rd 4 false, .rd 5 false, .rd 6 false, .rd 7 false, .rd 8 false, .rd 9 true, .rd 10 false, .rd 11 false, .rd 12 false, .rd 13 true, .rd 14 false, .ef 15 [], .rd 16 false, .ef 17 []] (by kernel_rfl) (by kernel_rfl) (by kernel_rfl) ?_
          simp only [go_sem, f0, f3, f12, w5, set_same, q1, q2, en_take hl, en_app hl, hl, ho, hce, rw_set, q3, Array.size_setIfInBounds, f1, f2, f9, f10, next64 (show k < 9223372036854775807 by omega), reduceIte, Nat.reduceEqDiff, Nat.reduceAdd, Nat.reduceMul, Nat.reduceSub, Nat.reduceLT, Nat.reduceLeDiff, Int.reduceLE, Int.reduceLT, Int.reduceToNat, Int.reduceEq]
          exact ⟨by omega, by omega, by omega, by omega, by omega, by omega, by omega, by omega, e - (k + 1), by omega, k + 1, swp dk k (k - 1), rfl, by omega, by rw [swp_size]; exact hdk, hK, rfl, rfl⟩
        · rw [if_neg (fun h => g5 (of_decide_eq_true h.2))] at hK
          simp only [go_sem, f0, f1, f2, f3, f9, f10, w6, reduceIte, Nat.reduceEqDiff, Nat.reduceAdd, Nat.reduceMul, Nat.reduceSub, Nat.reduceLT, Nat.reduceLeDiff, Int.reduceLE, Int.reduceLT, Int.reduceToNat, Int.reduceEq]
          exact ⟨t, by omega, t, j, dk, rfl, by omega, hj1, hj2, hdk, by rw [hK]; exact hI, rfl, rfl, rfl⟩
      · rw [if_neg (fun h => g4 (by omega))] at hK
        simp only [go_sem, f0, f1, f2, f3, f9, f10, w6, reduceIte, Nat.reduceEqDiff, Nat.reduceAdd, Nat.reduceMul, Nat.reduceSub, Nat.reduceLT, Nat.reduceLeDiff, Int.reduceLE, Int.reduceLT, Int.reduceToNat, Int.reduceEq]
        exact ⟨t, by omega, t, j, dk, rfl, by omega, hj1, hj2, hdk, by rw [hK]; exact hI, rfl, rfl, rfl⟩
    · rw [if_neg (by omega)] at hI
      simp only [go_sem, f0, f1, f2, f3, f9, f10, w6, reduceIte, Nat.reduceEqDiff, Nat.reduceAdd, Nat.reduceMul, Nat.reduceSub, Nat.reduceLT, Nat.reduceLeDiff, Int.reduceLE, Int.reduceLT, Int.reduceToNat, Int.reduceEq]
      exact ⟨t, by omega, t, j, d2, rfl, by omega, hj1, hj2, hz2, hI, rfl, rfl, rfl⟩
  · obtain rfl : m = 0 := by omega
    simp only [go_sem, reduceIte, Nat.reduceEqDiff, Nat.reduceAdd, Nat.reduceMul, Nat.reduceSub, Nat.reduceLT, Nat.reduceLeDiff, Int.reduceLE, Int.reduceLT, Int.reduceToNat, Int.reduceEq]
    rw [← hI]
    exact aRet_as (r := boo false) rfl ⟨rfl, rfl⟩
end
end Go.Proofs.Ythdfpankebjleaa.L

/-
  The library's sort, of lists of facts: parting those that are equal.
  Conditions: none.
-/
namespace Go.Proofs.Ythdfpankebjleaa.L
open Go Go.Av Go.Sort

section
variable {α : Type} [Inhabited α] {en : α → List AV} (hl : ∀ x, (en x).length = 1) (ho : ∀ x, (en x).all AV.one = true) (hce : ∀ x, ((en x).getD 0 (.v undef)).cells = en x) {cf : α → α → Int} {g : Nat} {β : St} (hC : ∀ σ', (∀ x o, β x = some o → σ' x = some o) → ∀ x y, AT Try.prog g [(en x).getD 0 (.v undef), (en y).getD 0 (.v undef)] σ' fun r σ'' => r = int (cf x y) ∧ σ'' = σ')
variable {σ : St} {b cap : Nat} {d : Array α} (hb : σ b = some (.rows 1 (rw' en d) false cap)) (hn : β b = none) (hs : ∀ x o, β x = some o → σ x = some o) {n : Nat} (hd : d.size = n) (hsz : n ≤ 1000000000)
theorem sup_eq {p : α → Bool} {d : Array α} {j i : Nat} : scanUp p d j i = if i ≤ j ∧ p d[i]! = true then scanUp p d j (i + 1) else i := by
  rw [scanUp]
  by_cases h : i ≤ j <;> cases h2 : p d[i]! <;> simp [h]
theorem sdn_eq {p : α → Bool} {d : Array α} {i j : Nat} (hi : 1 ≤ i) : scanDown p d i j = if i ≤ j ∧ p d[j]! = true then scanDown p d i (j - 1) else j := by
  cases j with
  | zero => rw [scanDown, if_neg (fun h => by omega)]
  | succ k =>
    rw [scanDown]
    by_cases h : i ≤ k + 1 <;> cases h2 : p d[k + 1]! <;> simp [h]
theorem peq_stop {lt : α → α → Bool} {a i j i2 j2 : Nat} {d : Array α} (h1 : scanUp (fun x => !lt d[a]! x) d j i = i2) (h2 : scanDown (fun x => lt d[a]! x) d i2 j = j2) (h : j2 < i2) : partEqLoop lt a i j d = (i2, d) := by
  rw [partEqLoop]
  simp only [h1, h2]
  rw [if_pos h]
theorem peq_go {lt : α → α → Bool} {a i j i2 j2 : Nat} {d : Array α} (h1 : scanUp (fun x => !lt d[a]! x) d j i = i2) (h2 : scanDown (fun x => lt d[a]! x) d i2 j = j2) (h : ¬ j2 < i2) (hi : i ≤ i2) (hj : j2 ≤ j) : partEqLoop lt a i j d = partEqLoop lt a (i2 + 1) (j2 - 1) (swp d i2 j2) := by
  rw [partEqLoop]
  simp only [h1, h2]
  rw [if_neg h, dif_pos (by omega)]
include hl ho hce hC hb hn hs hd hsz
theorem parteq_at {a e pv : Nat} (he : e ≤ n) (ha : a + 2 ≤ e) (hp : pv < n) : AT Try.prog 120 [slv b n cap, int a, int e, int pv, fnv g] σ fun r σ' => r = int (partitionEqual (ltc cf) d a e pv).1 ∧ σ' = σ.set b (.rows 1 (rw' en (partitionEqual (ltc cf) d a e pv).2) false cap) := by
  refine AT.of_body Try.func120 rfl (by decide) (by kernel_rfl) (by kernel_rfl) (Nat.le_of_ble_eq_true rfl) ?_
  have q1 := rw_get (en := en) (d := d) (j := a) (by omega)
  have q2 := rw_get (en := en) (d := d) (j := pv) (by omega)
  have q3 := rw_get (en := en) (d := d.setIfInBounds a d[pv]!) (j := pv) (by rw [Array.size_setIfInBounds]; omega)
  have w1 : IntKind.i64.wrap ((e : Int) - 1) = ((e - 1 : Nat) : Int) := by rw [wrap64 (by omega)]; omega
  simp only [go_sem, reduceIte, Nat.reduceEqDiff, Nat.reduceAdd, Nat.reduceMul, Nat.reduceSub, Nat.reduceLT, Nat.reduceLeDiff, Int.reduceLE, Int.reduceLT, Int.reduceToNat, Int.reduceEq]
  refine aDraw_plan [.rd 0 false, .rd 1 false, .rd 2 false, .rd 3 false, .rd 4 false, .rd 5 false, .rd 6 false, .rd 7 true, .rd 8 false, .rd 9 false, .rd 10 false, .rd 11 true, .rd 12 false, .ef 13 [], .rd 14 false, .ef 15 []] (by kernel_rfl) (by kernel_rfl) (by kernel_rfl) ?_
  simp only [go_sem, r_block, hb, set_same, q1, q2, en_take hl, en_app hl, hl, ho, hce, rw_set, q3, Array.size_setIfInBounds, w1, next64 (show a < 9223372036854775807 by omega), reduceIte, Nat.reduceEqDiff, Nat.reduceAdd, Nat.reduceMul, Nat.reduceSub, Nat.reduceLT, Nat.reduceLeDiff, Int.reduceLE, Int.reduceLT, Int.reduceToNat, Int.reduceEq]
  refine ⟨by omega, by omega, by omega, by omega, by omega, by omega, by omega, by omega, ?_⟩
  clear q1 q2 q3
  refine ⟨fun m fr σ' => ∃ (i j : Nat) (d' : Array α), m = j + 1 - i ∧ a < i ∧ i ≤ e ∧ j < e ∧ i ≤ j + 2 ∧ d'.size = n ∧ partEqLoop (ltc cf) a i j d' = partitionEqual (ltc cf) d a e pv ∧ σ' = σ.set b (.rows 1 (rw' en d') false cap) ∧ fr 0 = slv b n cap ∧ fr 1 = int a ∧ fr 4 = fnv g ∧ fr 11 = int i ∧ fr 12 = int j, ⟨_, a + 1, e - 1, swp d a pv, rfl, by omega, by omega, by omega, by omega, by rw [swp_size]; exact hd, rfl, rfl, rfl, rfl, rfl, rfl, rfl⟩, ?_⟩
  rintro m fr σ' ⟨i, j, dd, rfl, hi1, hi2, hj1, hij, hdd, hI, rfl, f0, f1, f4, f11, f12⟩
  simp only [go_sem, reduceIte, Nat.reduceEqDiff, Nat.reduceAdd, Nat.reduceMul, Nat.reduceSub, Nat.reduceLT, Nat.reduceLeDiff, Int.reduceLE, Int.reduceLT, Int.reduceToNat, Int.reduceEq]
  rw [r_block]
  simp only [go_sem, reduceIte, Nat.reduceEqDiff, Nat.reduceAdd, Nat.reduceMul, Nat.reduceSub, Nat.reduceLT, Nat.reduceLeDiff, Int.reduceLE, Int.reduceLT, Int.reduceToNat, Int.reduceEq]
  refine aMeet (fun fr σ' => σ' = σ.set b (.rows 1 (rw' en dd) false cap) ∧ ∃ i2 : Nat, i ≤ i2 ∧ (i2 ≤ i ∨ i2 ≤ j + 1) ∧ scanUp (fun x => !ltc cf dd[a]! x) dd j i = i2 ∧ fr 0 = slv b n cap ∧ fr 1 = int a ∧ fr 4 = fnv g ∧ fr 11 = int i2 ∧ fr 12 = int j) ?_ ?_
  · simp only [go_sem, r_block, reduceIte, Nat.reduceEqDiff, Nat.reduceAdd, Nat.reduceMul, Nat.reduceSub, Nat.reduceLT, Nat.reduceLeDiff, Int.reduceLE, Int.reduceLT, Int.reduceToNat, Int.reduceEq]
    refine ⟨fun m fr σ' => ∃ i2 : Nat, m = j + 1 - i2 ∧ i ≤ i2 ∧ (i2 ≤ i ∨ i2 ≤ j + 1) ∧ scanUp (fun x => !ltc cf dd[a]! x) dd j i2 = scanUp (fun x => !ltc cf dd[a]! x) dd j i ∧ σ' = σ.set b (.rows 1 (rw' en dd) false cap) ∧ fr 0 = slv b n cap ∧ fr 1 = int a ∧ fr 4 = fnv g ∧ fr 11 = int i2 ∧ fr 12 = int j, ⟨_, i, rfl, by omega, by omega, rfl, rfl, f0, f1, f4, f11, f12⟩, ?_⟩
    clear f0 f1 f4 f11 f12 fr
    rintro m fr σ' ⟨i2, rfl, h1, h2, hJ, rfl, f0, f1, f4, f11, f12⟩
    rw [sup_eq] at hJ
    simp only [go_sem, reduceIte, Nat.reduceEqDiff, Nat.reduceAdd, Nat.reduceMul, Nat.reduceSub, Nat.reduceLT, Nat.reduceLeDiff, Int.reduceLE, Int.reduceLT, Int.reduceToNat, Int.reduceEq]
    refine aDraw_plan [.rd 0 false, .rd 1 false, .rd 2 false, .rd 3 false, .rd 4 false, .rd 5 false, .rd 6 false, .rd 7 false, .rd 8 true, .rd 9 false, .rd 10 false, .rd 11 false, .rd 12 true, .ef 13 [], .rd 14 false, .rd 15 false, .rd 16 false] (by kernel_rfl) (by kernel_rfl) (by kernel_rfl) ?_
    by_cases g1 : (i2 : Int) ≤ j
    · have q1 := rw_get (en := en) (d := dd) (j := i2) (by omega)
      have q2 := rw_get (en := en) (d := dd) (j := a) (by omega)
      simp only [go_sem, f0, f1, f4, f11, f12, decide_eq_true g1, set_same, q1, q2, en_take hl, reduceIte, Nat.reduceEqDiff, Nat.reduceAdd, Nat.reduceMul, Nat.reduceSub, Nat.reduceLT, Nat.reduceLeDiff, Int.reduceLE, Int.reduceLT, Int.reduceToNat, Int.reduceEq]
      refine ⟨by omega, by omega, by omega, by omega, (hC _ (sub_set hn hs) _ _).mono ?_⟩
      rintro _ σ1 ⟨rfl, rfl⟩
      simp only [go_sem, reduceIte, Nat.reduceEqDiff, Nat.reduceAdd, Nat.reduceMul, Nat.reduceSub, Nat.reduceLT, Nat.reduceLeDiff, Int.reduceLE, Int.reduceLT, Int.reduceToNat, Int.reduceEq]
      refine aIf_by (fun g2 => ?_) (fun g2 => ?_)
      · rw [if_neg (by unfold ltc; rw [decide_eq_true g2]; simp)] at hJ
        simp only [go_sem, reduceIte, Nat.reduceEqDiff, Nat.reduceAdd, Nat.reduceMul, Nat.reduceSub, Nat.reduceLT, Nat.reduceLeDiff, Int.reduceLE, Int.reduceLT, Int.reduceToNat, Int.reduceEq]
        exact ⟨i2, h1, h2, hJ.symm, f0, f1, f4, f11, f12⟩
      · rw [if_pos ⟨by omega, by unfold ltc; rw [decide_eq_false g2]; rfl⟩] at hJ
        simp only [go_sem, r_block, f0, f1, f4, f11, f12, next64 (show i2 < 9223372036854775807 by omega), reduceIte, Nat.reduceEqDiff, Nat.reduceAdd, Nat.reduceMul, Nat.reduceSub, Nat.reduceLT, Nat.reduceLeDiff, Int.reduceLE, Int.reduceLT, Int.reduceToNat, Int.reduceEq]
        exact ⟨j + 1 - (i2 + 1), by omega, i2 + 1, rfl, by omega, by omega, hJ, rfl⟩
    · rw [if_neg (by omega)] at hJ
      simp only [go_sem, f11, f12, decide_eq_false g1, reduceIte, Nat.reduceEqDiff, Nat.reduceAdd, Nat.reduceMul, Nat.reduceSub, Nat.reduceLT, Nat.reduceLeDiff, Int.reduceLE, Int.reduceLT, Int.reduceToNat, Int.reduceEq]
      exact ⟨i2, h1, h2, hJ.symm, f0, f1, f4, rfl⟩
  clear f0 f1 f4 f11 f12 fr
  rintro fr σ' ⟨rfl, i2, h1, h2, hi3, f0, f1, f4, f11, f12⟩
  simp only [go_sem, reduceIte, Nat.reduceEqDiff, Nat.reduceAdd, Nat.reduceMul, Nat.reduceSub, Nat.reduceLT, Nat.reduceLeDiff, Int.reduceLE, Int.reduceLT, Int.reduceToNat, Int.reduceEq]
  refine aMeet (fun fr σ' => σ' = σ.set b (.rows 1 (rw' en dd) false cap) ∧ ∃ j2 : Nat, j2 ≤ j ∧ scanDown (fun x => ltc cf dd[a]! x) dd i2 j = j2 ∧ (i2 ≤ j → i2 ≤ j2 + 1) ∧ (j < i2 → j2 = j) ∧ fr 0 = slv b n cap ∧ fr 1 = int a ∧ fr 4 = fnv g ∧ fr 11 = int i2 ∧ fr 12 = int j2) ?_ ?_
  · simp only [go_sem, r_block, reduceIte, Nat.reduceEqDiff, Nat.reduceAdd, Nat.reduceMul, Nat.reduceSub, Nat.reduceLT, Nat.reduceLeDiff, Int.reduceLE, Int.reduceLT, Int.reduceToNat, Int.reduceEq]
    refine ⟨fun m fr σ' => ∃ j2 : Nat, m = j2 ∧ j2 ≤ j ∧ scanDown (fun x => ltc cf dd[a]! x) dd i2 j2 = scanDown (fun x => ltc cf dd[a]! x) dd i2 j ∧ (i2 ≤ j → i2 ≤ j2 + 1) ∧ (j < i2 → j2 = j) ∧ σ' = σ.set b (.rows 1 (rw' en dd) false cap) ∧ fr 0 = slv b n cap ∧ fr 1 = int a ∧ fr 4 = fnv g ∧ fr 11 = int i2 ∧ fr 12 = int j2, ⟨_, j, rfl, by omega, rfl, by omega, by omega, rfl, f0, f1, f4, f11, f12⟩, ?_⟩
    clear f0 f1 f4 f11 f12 fr
    rintro m fr σ' ⟨j2, hm, k1, hJ, k2, k3, rfl, f0, f1, f4, f11, f12⟩
    subst hm
    rw [sdn_eq (by omega)] at hJ
    simp only [go_sem, reduceIte, Nat.reduceEqDiff, Nat.reduceAdd, Nat.reduceMul, Nat.reduceSub, Nat.reduceLT, Nat.reduceLeDiff, Int.reduceLE, Int.reduceLT, Int.reduceToNat, Int.reduceEq]
    refine aDraw_plan [.rd 0 false, .rd 1 false, .rd 2 false, .rd 3 false, .rd 4 false, .rd 5 false, .rd 6 false, .rd 7 false, .rd 8 true, .rd 9 false, .rd 10 false, .rd 11 false, .rd 12 true, .ef 13 [], .rd 14 false, .rd 15 false] (by kernel_rfl) (by kernel_rfl) (by kernel_rfl) ?_
    by_cases g1 : (i2 : Int) ≤ m
    · have q1 := rw_get (en := en) (d := dd) (j := m) (by omega)
      have q2 := rw_get (en := en) (d := dd) (j := a) (by omega)
      have w2 : IntKind.i64.wrap ((m : Int) - 1) = ((m - 1 : Nat) : Int) := by rw [wrap64 (by omega)]; omega
      simp only [go_sem, f0, f1, f4, f11, f12, decide_eq_true g1, set_same, q1, q2, en_take hl, reduceIte, Nat.reduceEqDiff, Nat.reduceAdd, Nat.reduceMul, Nat.reduceSub, Nat.reduceLT, Nat.reduceLeDiff, Int.reduceLE, Int.reduceLT, Int.reduceToNat, Int.reduceEq]
      refine ⟨by omega, by omega, by omega, by omega, (hC _ (sub_set hn hs) _ _).mono ?_⟩
      rintro _ σ1 ⟨rfl, rfl⟩
      simp only [go_sem, reduceIte, Nat.reduceEqDiff, Nat.reduceAdd, Nat.reduceMul, Nat.reduceSub, Nat.reduceLT, Nat.reduceLeDiff, Int.reduceLE, Int.reduceLT, Int.reduceToNat, Int.reduceEq]
      refine aIf_by (fun g2 => ?_) (fun g2 => ?_)
      · rw [if_pos ⟨by omega, by unfold ltc; exact decide_eq_true g2⟩] at hJ
        simp only [go_sem, r_block, f0, f1, f4, f11, f12, w2, reduceIte, Nat.reduceEqDiff, Nat.reduceAdd, Nat.reduceMul, Nat.reduceSub, Nat.reduceLT, Nat.reduceLeDiff, Int.reduceLE, Int.reduceLT, Int.reduceToNat, Int.reduceEq]
        exact ⟨m - 1, by omega, m - 1, rfl, by omega, hJ, by omega, by omega, rfl⟩
      · rw [if_neg (fun h => g2 (of_decide_eq_true h.2))] at hJ
        simp only [go_sem, reduceIte, Nat.reduceEqDiff, Nat.reduceAdd, Nat.reduceMul, Nat.reduceSub, Nat.reduceLT, Nat.reduceLeDiff, Int.reduceLE, Int.reduceLT, Int.reduceToNat, Int.reduceEq]
        exact ⟨m, k1, hJ.symm, k2, k3, f0, f1, f4, f11, f12⟩
    · rw [if_neg (fun h => g1 (by omega))] at hJ
      simp only [go_sem, f11, f12, decide_eq_false g1, reduceIte, Nat.reduceEqDiff, Nat.reduceAdd, Nat.reduceMul, Nat.reduceSub, Nat.reduceLT, Nat.reduceLeDiff, Int.reduceLE, Int.reduceLT, Int.reduceToNat, Int.reduceEq]
      exact ⟨m, k1, hJ.symm, k2, k3, f0, f1, f4, rfl⟩
  clear f0 f1 f4 f11 f12 fr
  rintro fr σ' ⟨rfl, j2, k1, hj3, k2, k3, f0, f1, f4, f11, f12⟩
  simp only [go_sem, f11, f12, reduceIte, Nat.reduceEqDiff, Nat.reduceAdd, Nat.reduceMul, Nat.reduceSub, Nat.reduceLT, Nat.reduceLeDiff, Int.reduceLE, Int.reduceLT, Int.reduceToNat, Int.reduceEq]
  refine aIf_by (fun g1 => ?_) (fun g1 => ?_)
  · rw [peq_stop hi3 hj3 (by omega)] at hI
    simp only [go_sem, f11, reduceIte, Nat.reduceEqDiff, Nat.reduceAdd, Nat.reduceMul, Nat.reduceSub, Nat.reduceLT, Nat.reduceLeDiff, Int.reduceLE, Int.reduceLT, Int.reduceToNat, Int.reduceEq]
    rw [← hI]
    exact aRet_as (r := int i2) rfl ⟨rfl, rfl⟩
  · rw [peq_go hi3 hj3 (by omega) h1 k1] at hI
    have w2 : IntKind.i64.wrap ((j2 : Int) - 1) = ((j2 - 1 : Nat) : Int) := by rw [wrap64 (by omega)]; omega
    have q1 := rw_get (en := en) (d := dd) (j := i2) (by omega)
    have q2 := rw_get (en := en) (d := dd) (j := j2) (by omega)
    have q3 := rw_get (en := en) (d := dd.setIfInBounds i2 dd[j2]!) (j := j2) (by rw [Array.size_setIfInBounds]; omega)
    simp only [go_sem, reduceIte, Nat.reduceEqDiff, Nat.reduceAdd, Nat.reduceMul, Nat.reduceSub, Nat.reduceLT, Nat.reduceLeDiff, Int.reduceLE, Int.reduceLT, Int.reduceToNat, Int.reduceEq]
    refine aDraw_plan [.rd 0 false, .rd 1 false, .rd 2 false, .rd 3 false, .rd 4 false, .rd 5 false, .rd 6 false, .rd 7 true, .rd 8 false, .rd 9 false, .rd 10 false, .rd 11 true, .rd 12 false, .ef 13 [], .rd 14 false, .ef 15 []] (by kernel_rfl) (by kernel_rfl) (by kernel_rfl) ?_
    simp only [go_sem, f0, f1, f4, f11, f12, set_same, q1, q2, en_take hl, en_app hl, hl, ho, hce, rw_set, q3, Array.size_setIfInBounds, w2, next64 (show i2 < 9223372036854775807 by omega), reduceIte, Nat.reduceEqDiff, Nat.reduceAdd, Nat.reduceMul, Nat.reduceSub, Nat.reduceLT, Nat.reduceLeDiff, Int.reduceLE, Int.reduceLT, Int.reduceToNat, Int.reduceEq]
    exact ⟨by omega, by omega, by omega, by omega, by omega, by omega, by omega, by omega, j2 - 1 + 1 - (i2 + 1), by omega, i2 + 1, j2 - 1, swp dd i2 j2, rfl, by omega, by omega, by omega, by omega, by rw [swp_size]; exact hdd, hI, rfl, rfl, rfl⟩
end
end Go.Proofs.Ythdfpankebjleaa.L

/-
  The library's sort, of lists of facts: parting.
  Conditions: none.
-/
namespace Go.Proofs.Ythdfpankebjleaa.L
open Go Go.Av Go.Sort

section
variable {α : Type} [Inhabited α] {en : α → List AV} (hl : ∀ x, (en x).length = 1) (ho : ∀ x, (en x).all AV.one = true) (hce : ∀ x, ((en x).getD 0 (.v undef)).cells = en x) {cf : α → α → Int} {g : Nat} {β : St} (hC : ∀ σ', (∀ x o, β x = some o → σ' x = some o) → ∀ x y, AT Try.prog g [(en x).getD 0 (.v undef), (en y).getD 0 (.v undef)] σ' fun r σ'' => r = int (cf x y) ∧ σ'' = σ')
variable {σ : St} {b cap : Nat} {d : Array α} (hb : σ b = some (.rows 1 (rw' en d) false cap)) (hn : β b = none) (hs : ∀ x o, β x = some o → σ x = some o) {n : Nat} (hd : d.size = n) (hsz : n ≤ 1000000000)
theorem pl_stop {lt : α → α → Bool} {a i j i2 j2 : Nat} {d : Array α} (h1 : scanUp (fun x => lt x d[a]!) d j i = i2) (h2 : scanDown (fun x => !lt x d[a]!) d i2 j = j2) (h : j2 < i2) : partLoop lt a i j d = (j2, d) := by
  rw [partLoop]
  simp only [h1, h2]
  rw [if_pos h]
theorem pl_go {lt : α → α → Bool} {a i j i2 j2 : Nat} {d : Array α} (h1 : scanUp (fun x => lt x d[a]!) d j i = i2) (h2 : scanDown (fun x => !lt x d[a]!) d i2 j = j2) (h : ¬ j2 < i2) (hi : i ≤ i2) (hj : j2 ≤ j) : partLoop lt a i j d = partLoop lt a (i2 + 1) (j2 - 1) (swp d i2 j2) := by
  rw [partLoop]
  simp only [h1, h2]
  rw [if_neg h, dif_pos (by omega)]
theorem pt_stop {lt : α → α → Bool} {a e pv i2 j2 : Nat} {d d0 : Array α} (h0 : d0 = swp d a pv) (h1 : scanUp (fun x => lt x d0[a]!) d0 (e - 1) (a + 1) = i2) (h2 : scanDown (fun x => !lt x d0[a]!) d0 i2 (e - 1) = j2) (h : j2 < i2) : partition lt d a e pv = (j2, true, swp d0 j2 a) := by
  unfold partition
  simp only [← h0, h1, h2]
  rw [if_pos h]
theorem pt_go {lt : α → α → Bool} {a e pv i2 j2 : Nat} {d d0 : Array α} (h0 : d0 = swp d a pv) (h1 : scanUp (fun x => lt x d0[a]!) d0 (e - 1) (a + 1) = i2) (h2 : scanDown (fun x => !lt x d0[a]!) d0 i2 (e - 1) = j2) (h : ¬ j2 < i2) : partition lt d a e pv = ((partLoop lt a (i2 + 1) (j2 - 1) (swp d0 i2 j2)).1, false, swp (partLoop lt a (i2 + 1) (j2 - 1) (swp d0 i2 j2)).2 (partLoop lt a (i2 + 1) (j2 - 1) (swp d0 i2 j2)).1 a) := by
  unfold partition
  simp only [← h0, h1, h2]
  rw [if_neg h]
include hl ho hce hC hb hn hs hd hsz
theorem part_at {a e pv : Nat} (he : e ≤ n) (ha : a + 2 ≤ e) (hp : pv < n) : AT Try.prog 121 [slv b n cap, int a, int e, int pv, fnv g] σ fun r σ' => r = .tup [int (partition (ltc cf) d a e pv).1, boo (partition (ltc cf) d a e pv).2.1] ∧ σ' = σ.set b (.rows 1 (rw' en (partition (ltc cf) d a e pv).2.2) false cap) := by
  refine AT.of_body Try.func121 rfl (by decide) (by kernel_rfl) (by kernel_rfl) (Nat.le_of_ble_eq_true rfl) ?_
  have q1 := rw_get (en := en) (d := d) (j := a) (by omega)
  have q2 := rw_get (en := en) (d := d) (j := pv) (by omega)
  have q3 := rw_get (en := en) (d := d.setIfInBounds a d[pv]!) (j := pv) (by rw [Array.size_setIfInBounds]; omega)
  have w1 : IntKind.i64.wrap ((e : Int) - 1) = ((e - 1 : Nat) : Int) := by rw [wrap64 (by omega)]; omega
  simp only [go_sem, reduceIte, Nat.reduceEqDiff, Nat.reduceAdd, Nat.reduceMul, Nat.reduceSub, Nat.reduceLT, Nat.reduceLeDiff, Int.reduceLE, Int.reduceLT, Int.reduceToNat, Int.reduceEq]
  refine aDraw_plan [.rd 0 false, .rd 1 false, .rd 2 false, .rd 3 false, .rd 4 false, .rd 5 false, .rd 6 false, .rd 7 true, .rd 8 false, .rd 9 false, .rd 10 false, .rd 11 true, .rd 12 false, .ef 13 [], .rd 14 false, .ef 15 []] (by kernel_rfl) (by kernel_rfl) (by kernel_rfl) ?_
  simp only [go_sem, hb, set_same, q1, q2, en_take hl, en_app hl, hl, ho, hce, rw_set, q3, Array.size_setIfInBounds, w1, next64 (show a < 9223372036854775807 by omega), reduceIte, Nat.reduceEqDiff, Nat.reduceAdd, Nat.reduceMul, Nat.reduceSub, Nat.reduceLT, Nat.reduceLeDiff, Int.reduceLE, Int.reduceLT, Int.reduceToNat, Int.reduceEq]
  refine ⟨by omega, by omega, by omega, by omega, by omega, by omega, by omega, by omega, ?_⟩
  clear q1 q2 q3
  obtain ⟨d0, hd0⟩ : ∃ d0, d0 = swp d a pv := ⟨_, rfl⟩
  have hz0 : d0.size = n := by rw [hd0, swp_size]; exact hd
  have e1 : AObj.rows 1 (rw' en ((d.setIfInBounds a d[pv]!).setIfInBounds pv d[a]!)) false cap = AObj.rows 1 (rw' en d0) false cap := by rw [hd0]; rfl
  rw [e1]
  clear e1
  apply meet_by (fun fr σ' => σ' = σ.set b (.rows 1 (rw' en d0) false cap) ∧ fr 0 = slv b n cap ∧ fr 1 = int a ∧ fr 4 = fnv g ∧ fr 12 = int (a + 1 : Nat) ∧ fr 13 = int (e - 1 : Nat))
  case h1 => exact fun key => key _ _ ⟨rfl, rfl, rfl, rfl, rfl, rfl⟩
  rintro fr σ' ⟨rfl, f0, f1, f4, f12, f13⟩
  obtain ⟨i0, hi0⟩ : ∃ i0, i0 = a + 1 := ⟨_, rfl⟩
  obtain ⟨j0, hj0⟩ : ∃ j0, j0 = e - 1 := ⟨_, rfl⟩
  rw [← hi0] at f12
  rw [← hj0] at f13
  refine aMeet (fun fr σ' => σ' = σ.set b (.rows 1 (rw' en d0) false cap) ∧ ∃ i2 : Nat, i0 ≤ i2 ∧ (i2 ≤ i0 ∨ i2 ≤ j0 + 1) ∧ scanUp (fun x => ltc cf x d0[a]!) d0 j0 i0 = i2 ∧ fr 0 = slv b n cap ∧ fr 1 = int a ∧ fr 4 = fnv g ∧ fr 12 = int i2 ∧ fr 13 = int j0) ?_ ?_
  · simp only [go_sem, r_block, reduceIte, Nat.reduceEqDiff, Nat.reduceAdd, Nat.reduceMul, Nat.reduceSub, Nat.reduceLT, Nat.reduceLeDiff, Int.reduceLE, Int.reduceLT, Int.reduceToNat, Int.reduceEq]
    refine ⟨fun m fr σ' => ∃ i2 : Nat, m = j0 + 1 - i2 ∧ i0 ≤ i2 ∧ (i2 ≤ i0 ∨ i2 ≤ j0 + 1) ∧ scanUp (fun x => ltc cf x d0[a]!) d0 j0 i2 = scanUp (fun x => ltc cf x d0[a]!) d0 j0 i0 ∧ σ' = σ.set b (.rows 1 (rw' en d0) false cap) ∧ fr 0 = slv b n cap ∧ fr 1 = int a ∧ fr 4 = fnv g ∧ fr 12 = int i2 ∧ fr 13 = int j0, ⟨_, i0, rfl, by omega, by omega, rfl, rfl, f0, f1, f4, f12, f13⟩, ?_⟩
    clear f0 f1 f4 f12 f13
    rintro m fr σ' ⟨i2, rfl, h1, h2, hJ, rfl, f0, f1, f4, f12, f13⟩
    rw [sup_eq] at hJ
    simp only [go_sem, reduceIte, Nat.reduceEqDiff, Nat.reduceAdd, Nat.reduceMul, Nat.reduceSub, Nat.reduceLT, Nat.reduceLeDiff, Int.reduceLE, Int.reduceLT, Int.reduceToNat, Int.reduceEq]
    refine aDraw_plan [.rd 0 false, .rd 1 false, .rd 2 false, .rd 3 false, .rd 4 false, .rd 5 false, .rd 6 false, .rd 7 false, .rd 8 true, .rd 9 false, .rd 10 false, .rd 11 false, .rd 12 true, .ef 13 [], .rd 14 false, .rd 15 false] (by kernel_rfl) (by kernel_rfl) (by kernel_rfl) ?_
    by_cases g1 : (i2 : Int) ≤ (j0 : Nat)
    · have q1 := rw_get (en := en) (d := d0) (j := i2) (by omega)
      have q2 := rw_get (en := en) (d := d0) (j := a) (by omega)
      simp only [go_sem, f0, f1, f4, f12, f13, decide_eq_true g1, set_same, q1, q2, en_take hl, reduceIte, Nat.reduceEqDiff, Nat.reduceAdd, Nat.reduceMul, Nat.reduceSub, Nat.reduceLT, Nat.reduceLeDiff, Int.reduceLE, Int.reduceLT, Int.reduceToNat, Int.reduceEq]
      refine ⟨by omega, by omega, by omega, by omega, (hC _ (sub_set hn hs) _ _).mono ?_⟩
      rintro _ σ1 ⟨rfl, rfl⟩
      simp only [go_sem, reduceIte, Nat.reduceEqDiff, Nat.reduceAdd, Nat.reduceMul, Nat.reduceSub, Nat.reduceLT, Nat.reduceLeDiff, Int.reduceLE, Int.reduceLT, Int.reduceToNat, Int.reduceEq]
      refine aIf_by (fun g2 => ?_) (fun g2 => ?_)
      · rw [if_pos ⟨by omega, by unfold ltc; exact decide_eq_true g2⟩] at hJ
        simp only [go_sem, r_block, f0, f1, f4, f12, f13, next64 (show i2 < 9223372036854775807 by omega), reduceIte, Nat.reduceEqDiff, Nat.reduceAdd, Nat.reduceMul, Nat.reduceSub, Nat.reduceLT, Nat.reduceLeDiff, Int.reduceLE, Int.reduceLT, Int.reduceToNat, Int.reduceEq]
        exact ⟨j0 + 1 - (i2 + 1), by omega, i2 + 1, rfl, by omega, by omega, hJ, rfl⟩
      · rw [if_neg (fun h => g2 (of_decide_eq_true h.2))] at hJ
        simp only [go_sem, reduceIte, Nat.reduceEqDiff, Nat.reduceAdd, Nat.reduceMul, Nat.reduceSub, Nat.reduceLT, Nat.reduceLeDiff, Int.reduceLE, Int.reduceLT, Int.reduceToNat, Int.reduceEq]
        exact ⟨i2, h1, h2, hJ.symm, f0, f1, f4, f12, f13⟩
    · rw [if_neg (fun h => g1 (by omega))] at hJ
      simp only [go_sem, f12, f13, decide_eq_false g1, reduceIte, Nat.reduceEqDiff, Nat.reduceAdd, Nat.reduceMul, Nat.reduceSub, Nat.reduceLT, Nat.reduceLeDiff, Int.reduceLE, Int.reduceLT, Int.reduceToNat, Int.reduceEq]
      exact ⟨i2, h1, h2, hJ.symm, f0, f1, f4, rfl⟩
  clear f0 f1 f4 f12 f13
  rintro fr σ' ⟨rfl, i2, h1, h2, hi3, f0, f1, f4, f12, f13⟩
  simp only [go_sem, reduceIte, Nat.reduceEqDiff, Nat.reduceAdd, Nat.reduceMul, Nat.reduceSub, Nat.reduceLT, Nat.reduceLeDiff, Int.reduceLE, Int.reduceLT, Int.reduceToNat, Int.reduceEq]
  refine aMeet (fun fr σ' => σ' = σ.set b (.rows 1 (rw' en d0) false cap) ∧ ∃ j2 : Nat, j2 ≤ j0 ∧ scanDown (fun x => !ltc cf x d0[a]!) d0 i2 j0 = j2 ∧ (i2 ≤ j0 → i2 ≤ j2 + 1) ∧ (j0 < i2 → j2 = j0) ∧ fr 0 = slv b n cap ∧ fr 1 = int a ∧ fr 4 = fnv g ∧ fr 12 = int i2 ∧ fr 13 = int j2) ?_ ?_
  · simp only [go_sem, r_block, reduceIte, Nat.reduceEqDiff, Nat.reduceAdd, Nat.reduceMul, Nat.reduceSub, Nat.reduceLT, Nat.reduceLeDiff, Int.reduceLE, Int.reduceLT, Int.reduceToNat, Int.reduceEq]
    refine ⟨fun m fr σ' => ∃ j2 : Nat, m = j2 ∧ j2 ≤ j0 ∧ scanDown (fun x => !ltc cf x d0[a]!) d0 i2 j2 = scanDown (fun x => !ltc cf x d0[a]!) d0 i2 j0 ∧ (i2 ≤ j0 → i2 ≤ j2 + 1) ∧ (j0 < i2 → j2 = j0) ∧ σ' = σ.set b (.rows 1 (rw' en d0) false cap) ∧ fr 0 = slv b n cap ∧ fr 1 = int a ∧ fr 4 = fnv g ∧ fr 12 = int i2 ∧ fr 13 = int j2, ⟨_, j0, rfl, by omega, rfl, by omega, by omega, rfl, f0, f1, f4, f12, f13⟩, ?_⟩
    clear f0 f1 f4 f12 f13
    rintro m fr σ' ⟨j2, hm, k1, hJ, k2, k3, rfl, f0, f1, f4, f12, f13⟩
    subst hm
    rw [sdn_eq (by omega)] at hJ
    simp only [go_sem, reduceIte, Nat.reduceEqDiff, Nat.reduceAdd, Nat.reduceMul, Nat.reduceSub, Nat.reduceLT, Nat.reduceLeDiff, Int.reduceLE, Int.reduceLT, Int.reduceToNat, Int.reduceEq]
    refine aDraw_plan [.rd 0 false, .rd 1 false, .rd 2 false, .rd 3 false, .rd 4 false, .rd 5 false, .rd 6 false, .rd 7 false, .rd 8 true, .rd 9 false, .rd 10 false, .rd 11 false, .rd 12 true, .ef 13 [], .rd 14 false, .rd 15 false, .rd 16 false] (by kernel_rfl) (by kernel_rfl) (by kernel_rfl) ?_
    by_cases g1 : (i2 : Int) ≤ m
    · have q1 := rw_get (en := en) (d := d0) (j := m) (by omega)
      have q2 := rw_get (en := en) (d := d0) (j := a) (by omega)
      have w2 : IntKind.i64.wrap ((m : Int) - 1) = ((m - 1 : Nat) : Int) := by rw [wrap64 (by omega)]; omega
      simp only [go_sem, f0, f1, f4, f12, f13, decide_eq_true g1, set_same, q1, q2, en_take hl, reduceIte, Nat.reduceEqDiff, Nat.reduceAdd, Nat.reduceMul, Nat.reduceSub, Nat.reduceLT, Nat.reduceLeDiff, Int.reduceLE, Int.reduceLT, Int.reduceToNat, Int.reduceEq]
      refine ⟨by omega, by omega, by omega, by omega, (hC _ (sub_set hn hs) _ _).mono ?_⟩
      rintro _ σ1 ⟨rfl, rfl⟩
      simp only [go_sem, reduceIte, Nat.reduceEqDiff, Nat.reduceAdd, Nat.reduceMul, Nat.reduceSub, Nat.reduceLT, Nat.reduceLeDiff, Int.reduceLE, Int.reduceLT, Int.reduceToNat, Int.reduceEq]
      refine aIf_by (fun g2 => ?_) (fun g2 => ?_)
      · rw [if_neg (by unfold ltc; rw [decide_eq_true g2]; simp)] at hJ
        simp only [go_sem, reduceIte, Nat.reduceEqDiff, Nat.reduceAdd, Nat.reduceMul, Nat.reduceSub, Nat.reduceLT, Nat.reduceLeDiff, Int.reduceLE, Int.reduceLT, Int.reduceToNat, Int.reduceEq]
        exact ⟨m, k1, hJ.symm, k2, k3, f0, f1, f4, f12, f13⟩
      · rw [if_pos ⟨by omega, by unfold ltc; rw [decide_eq_false g2]; rfl⟩] at hJ
        simp only [go_sem, r_block, f0, f1, f4, f12, f13, w2, reduceIte, Nat.reduceEqDiff, Nat.reduceAdd, Nat.reduceMul, Nat.reduceSub, Nat.reduceLT, Nat.reduceLeDiff, Int.reduceLE, Int.reduceLT, Int.reduceToNat, Int.reduceEq]
        exact ⟨m - 1, by omega, m - 1, rfl, by omega, hJ, by omega, by omega, rfl⟩
    · rw [if_neg (fun h => g1 (by omega))] at hJ
      simp only [go_sem, f12, f13, decide_eq_false g1, reduceIte, Nat.reduceEqDiff, Nat.reduceAdd, Nat.reduceMul, Nat.reduceSub, Nat.reduceLT, Nat.reduceLeDiff, Int.reduceLE, Int.reduceLT, Int.reduceToNat, Int.reduceEq]
      exact ⟨m, k1, hJ.symm, k2, k3, f0, f1, f4, rfl⟩
  clear f0 f1 f4 f12 f13
  rintro fr σ' ⟨rfl, j2, k1, hj3, k2, k3, f0, f1, f4, f12, f13⟩
  rw [hi0, hj0] at hi3
  rw [hj0] at hj3
  simp only [go_sem, f12, f13, reduceIte, Nat.reduceEqDiff, Nat.reduceAdd, Nat.reduceMul, Nat.reduceSub, Nat.reduceLT, Nat.reduceLeDiff, Int.reduceLE, Int.reduceLT, Int.reduceToNat, Int.reduceEq]
  have q1 := rw_get (en := en) (d := d0) (j := a) (by omega)
  refine aIf_by (fun g1 => ?_) (fun g1 => ?_)
  · rw [pt_stop hd0 hi3 hj3 (by omega)]
    have q2 := rw_get (en := en) (d := d0) (j := j2) (by omega)
    have q3 := rw_get (en := en) (d := d0.setIfInBounds j2 d0[a]!) (j := a) (by rw [Array.size_setIfInBounds]; omega)
    simp only [go_sem, reduceIte, Nat.reduceEqDiff, Nat.reduceAdd, Nat.reduceMul, Nat.reduceSub, Nat.reduceLT, Nat.reduceLeDiff, Int.reduceLE, Int.reduceLT, Int.reduceToNat, Int.reduceEq]
    refine aDraw_plan [.rd 0 false, .rd 1 false, .rd 2 false, .rd 3 false, .rd 4 false, .rd 5 false, .rd 6 false, .rd 7 true, .rd 8 false, .rd 9 false, .rd 10 false, .rd 11 true, .rd 12 false, .ef 13 [], .rd 14 false, .ef 15 []] (by kernel_rfl) (by kernel_rfl) (by kernel_rfl) ?_
    simp only [go_sem, f0, f1, f4, f12, f13, set_same, q1, q2, en_take hl, en_app hl, hl, ho, hce, rw_set, q3, Array.size_setIfInBounds, reduceIte, Nat.reduceEqDiff, Nat.reduceAdd, Nat.reduceMul, Nat.reduceSub, Nat.reduceLT, Nat.reduceLeDiff, Int.reduceLE, Int.reduceLT, Int.reduceToNat, Int.reduceEq]
    refine ⟨by omega, by omega, by omega, by omega, by omega, by omega, by omega, by omega, ?_⟩
    exact aRet_as (r := .tup [int j2, boo true]) rfl ⟨rfl, rfl⟩
  · rw [pt_go hd0 hi3 hj3 (by omega)]
    have w2 : IntKind.i64.wrap ((j2 : Int) - 1) = ((j2 - 1 : Nat) : Int) := by rw [wrap64 (by omega)]; omega
    have q1 := rw_get (en := en) (d := d0) (j := i2) (by omega)
    have q2 := rw_get (en := en) (d := d0) (j := j2) (by omega)
    have q3 := rw_get (en := en) (d := d0.setIfInBounds i2 d0[j2]!) (j := j2) (by rw [Array.size_setIfInBounds]; omega)
    simp only [go_sem, reduceIte, Nat.reduceEqDiff, Nat.reduceAdd, Nat.reduceMul, Nat.reduceSub, Nat.reduceLT, Nat.reduceLeDiff, Int.reduceLE, Int.reduceLT, Int.reduceToNat, Int.reduceEq]
    refine aDraw_plan [.rd 0 false, .rd 1 false, .rd 2 false, .rd 3 false, .rd 4 false, .rd 5 false, .rd 6 false, .rd 7 true, .rd 8 false, .rd 9 false, .rd 10 false, .rd 11 true, .rd 12 false, .ef 13 [], .rd 14 false, .ef 15 []] (by kernel_rfl) (by kernel_rfl) (by kernel_rfl) ?_
    simp only [go_sem, r_block, f0, f1, f4, f12, f13, set_same, q1, q2, en_take hl, en_app hl, hl, ho, hce, rw_set, q3, Array.size_setIfInBounds, w2, next64 (show i2 < 9223372036854775807 by omega), reduceIte, Nat.reduceEqDiff, Nat.reduceAdd, Nat.reduceMul, Nat.reduceSub, Nat.reduceLT, Nat.reduceLeDiff, Int.reduceLE, Int.reduceLT, Int.reduceToNat, Int.reduceEq]
    refine ⟨by omega, by omega, by omega, by omega, by omega, by omega, by omega, by omega, ?_⟩
    clear q1 q2 q3
    obtain ⟨R, hR⟩ : ∃ R, R = partLoop (ltc cf) a (i2 + 1) (j2 - 1) (swp d0 i2 j2) := ⟨_, rfl⟩
    rw [← hR]
    refine ⟨fun m fr σ' => ∃ (i j : Nat) (d' : Array α), m = j + 1 - i ∧ a < i ∧ i ≤ e ∧ j < e ∧ i ≤ j + 2 ∧ d'.size = n ∧ partLoop (ltc cf) a i j d' = R ∧ σ' = σ.set b (.rows 1 (rw' en d') false cap) ∧ fr 0 = slv b n cap ∧ fr 1 = int a ∧ fr 4 = fnv g ∧ fr 12 = int i ∧ fr 13 = int j, ⟨_, i2 + 1, j2 - 1, swp d0 i2 j2, rfl, by omega, by omega, by omega, by omega, by rw [swp_size]; exact hz0, hR.symm, rfl, f0, f1, f4, rfl, rfl⟩, ?_⟩
    clear f0 f1 f4 f12 f13 hi3 hj3 k2 k3 h1 h2 k1 w2 g1 i2 j2 hR
    rintro m fr σ' ⟨i, j, dd, rfl, hi1, hi2, hj1, hij, hdd, hI, rfl, f0, f1, f4, f12, f13⟩
    simp only [go_sem, reduceIte, Nat.reduceEqDiff, Nat.reduceAdd, Nat.reduceMul, Nat.reduceSub, Nat.reduceLT, Nat.reduceLeDiff, Int.reduceLE, Int.reduceLT, Int.reduceToNat, Int.reduceEq]
    rw [r_block]
    simp only [go_sem, reduceIte, Nat.reduceEqDiff, Nat.reduceAdd, Nat.reduceMul, Nat.reduceSub, Nat.reduceLT, Nat.reduceLeDiff, Int.reduceLE, Int.reduceLT, Int.reduceToNat, Int.reduceEq]
    refine aMeet (fun fr σ' => σ' = σ.set b (.rows 1 (rw' en dd) false cap) ∧ ∃ i2 : Nat, i ≤ i2 ∧ (i2 ≤ i ∨ i2 ≤ j + 1) ∧ scanUp (fun x => ltc cf x dd[a]!) dd j i = i2 ∧ fr 0 = slv b n cap ∧ fr 1 = int a ∧ fr 4 = fnv g ∧ fr 12 = int i2 ∧ fr 13 = int j) ?_ ?_
    · simp only [go_sem, r_block, reduceIte, Nat.reduceEqDiff, Nat.reduceAdd, Nat.reduceMul, Nat.reduceSub, Nat.reduceLT, Nat.reduceLeDiff, Int.reduceLE, Int.reduceLT, Int.reduceToNat, Int.reduceEq]
      refine ⟨fun m fr σ' => ∃ i2 : Nat, m = j + 1 - i2 ∧ i ≤ i2 ∧ (i2 ≤ i ∨ i2 ≤ j + 1) ∧ scanUp (fun x => ltc cf x dd[a]!) dd j i2 = scanUp (fun x => ltc cf x dd[a]!) dd j i ∧ σ' = σ.set b (.rows 1 (rw' en dd) false cap) ∧ fr 0 = slv b n cap ∧ fr 1 = int a ∧ fr 4 = fnv g ∧ fr 12 = int i2 ∧ fr 13 = int j, ⟨_, i, rfl, by omega, by omega, rfl, rfl, f0, f1, f4, f12, f13⟩, ?_⟩
      clear f0 f1 f4 f12 f13
      rintro m fr σ' ⟨i2, rfl, h1, h2, hJ, rfl, f0, f1, f4, f12, f13⟩
      rw [sup_eq] at hJ
      simp only [go_sem, reduceIte, Nat.reduceEqDiff, Nat.reduceAdd, Nat.reduceMul, Nat.reduceSub, Nat.reduceLT, Nat.reduceLeDiff, Int.reduceLE, Int.reduceLT, Int.reduceToNat, Int.reduceEq]
      refine aDraw_plan [.rd 0 false, .rd 1 false, .rd 2 false, .rd 3 false, .rd 4 false, .rd 5 false, .rd 6 false, .rd 7 false, .rd 8 true, .rd 9 false, .rd 10 false, .rd 11 false, .rd 12 true, .ef 13 [], .rd 14 false, .rd 15 false] (by kernel_rfl) (by kernel_rfl) (by kernel_rfl) ?_
      by_cases g1 : (i2 : Int) ≤ (j : Nat)
      · have q1 := rw_get (en := en) (d := dd) (j := i2) (by omega)
        have q2 := rw_get (en := en) (d := dd) (j := a) (by omega)
        simp only [go_sem, f0, f1, f4, f12, f13, decide_eq_true g1, set_same, q1, q2, en_take hl, reduceIte, Nat.reduceEqDiff, Nat.reduceAdd, Nat.reduceMul, Nat.reduceSub, Nat.reduceLT, Nat.reduceLeDiff, Int.reduceLE, Int.reduceLT, Int.reduceToNat, Int.reduceEq]
        refine ⟨by omega, by omega, by omega, by omega, (hC _ (sub_set hn hs) _ _).mono ?_⟩
        rintro _ σ1 ⟨rfl, rfl⟩
        simp only [go_sem, reduceIte, Nat.reduceEqDiff, Nat.reduceAdd, Nat.reduceMul, Nat.reduceSub, Nat.reduceLT, Nat.reduceLeDiff, Int.reduceLE, Int.reduceLT, Int.reduceToNat, Int.reduceEq]
        refine aIf_by (fun g2 => ?_) (fun g2 => ?_)
        · rw [if_pos ⟨by omega, by unfold ltc; exact decide_eq_true g2⟩] at hJ
          simp only [go_sem, r_block, f0, f1, f4, f12, f13, next64 (show i2 < 9223372036854775807 by omega), reduceIte, Nat.reduceEqDiff, Nat.reduceAdd, Nat.reduceMul, Nat.reduceSub, Nat.reduceLT, Nat.reduceLeDiff, Int.reduceLE, Int.reduceLT, Int.reduceToNat, Int.reduceEq]
          exact ⟨j + 1 - (i2 + 1), by omega, i2 + 1, rfl, by omega, by omega, hJ, rfl⟩
        · rw [if_neg (fun h => g2 (of_decide_eq_true h.2))] at hJ
          simp only [go_sem, reduceIte, Nat.reduceEqDiff, Nat.reduceAdd, Nat.reduceMul, Nat.reduceSub, Nat.reduceLT, Nat.reduceLeDiff, Int.reduceLE, Int.reduceLT, Int.reduceToNat, Int.reduceEq]
          exact ⟨i2, h1, h2, hJ.symm, f0, f1, f4, f12, f13⟩
      · rw [if_neg (fun h => g1 (by omega))] at hJ
        simp only [go_sem, f12, f13, decide_eq_false g1, reduceIte, Nat.reduceEqDiff, Nat.reduceAdd, Nat.reduceMul, Nat.reduceSub, Nat.reduceLT, Nat.reduceLeDiff, Int.reduceLE, Int.reduceLT, Int.reduceToNat, Int.reduceEq]
        exact ⟨i2, h1, h2, hJ.symm, f0, f1, f4, rfl⟩
    clear f0 f1 f4 f12 f13
    rintro fr σ' ⟨rfl, i2, h1, h2, hi3, f0, f1, f4, f12, f13⟩
    simp only [go_sem, reduceIte, Nat.reduceEqDiff, Nat.reduceAdd, Nat.reduceMul, Nat.reduceSub, Nat.reduceLT, Nat.reduceLeDiff, Int.reduceLE, Int.reduceLT, Int.reduceToNat, Int.reduceEq]
    refine aMeet (fun fr σ' => σ' = σ.set b (.rows 1 (rw' en dd) false cap) ∧ ∃ j2 : Nat, j2 ≤ j ∧ scanDown (fun x => !ltc cf x dd[a]!) dd i2 j = j2 ∧ (i2 ≤ j → i2 ≤ j2 + 1) ∧ (j < i2 → j2 = j) ∧ fr 0 = slv b n cap ∧ fr 1 = int a ∧ fr 4 = fnv g ∧ fr 12 = int i2 ∧ fr 13 = int j2) ?_ ?_
    · simp only [go_sem, r_block, reduceIte, Nat.reduceEqDiff, Nat.reduceAdd, Nat.reduceMul, Nat.reduceSub, Nat.reduceLT, Nat.reduceLeDiff, Int.reduceLE, Int.reduceLT, Int.reduceToNat, Int.reduceEq]
      refine ⟨fun m fr σ' => ∃ j2 : Nat, m = j2 ∧ j2 ≤ j ∧ scanDown (fun x => !ltc cf x dd[a]!) dd i2 j2 = scanDown (fun x => !ltc cf x dd[a]!) dd i2 j ∧ (i2 ≤ j → i2 ≤ j2 + 1) ∧ (j < i2 → j2 = j) ∧ σ' = σ.set b (.rows 1 (rw' en dd) false cap) ∧ fr 0 = slv b n cap ∧ fr 1 = int a ∧ fr 4 = fnv g ∧ fr 12 = int i2 ∧ fr 13 = int j2, ⟨_, j, rfl, by omega, rfl, by omega, by omega, rfl, f0, f1, f4, f12, f13⟩, ?_⟩
      clear f0 f1 f4 f12 f13
      rintro m fr σ' ⟨j2, hm, k1, hJ, k2, k3, rfl, f0, f1, f4, f12, f13⟩
      subst hm
      rw [sdn_eq (by omega)] at hJ
      simp only [go_sem, reduceIte, Nat.reduceEqDiff, Nat.reduceAdd, Nat.reduceMul, Nat.reduceSub, Nat.reduceLT, Nat.reduceLeDiff, Int.reduceLE, Int.reduceLT, Int.reduceToNat, Int.reduceEq]
      refine aDraw_plan [.rd 0 false, .rd 1 false, .rd 2 false, .rd 3 false, .rd 4 false, .rd 5 false, .rd 6 false, .rd 7 false, .rd 8 true, .rd 9 false, .rd 10 false, .rd 11 false, .rd 12 true, .ef 13 [], .rd 14 false, .rd 15 false, .rd 16 false] (by kernel_rfl) (by kernel_rfl) (by kernel_rfl) ?_
      by_cases g1 : (i2 : Int) ≤ m
      · have q1 := rw_get (en := en) (d := dd) (j := m) (by omega)
        have q2 := rw_get (en := en) (d := dd) (j := a) (by omega)
        have w2 : IntKind.i64.wrap ((m : Int) - 1) = ((m - 1 : Nat) : Int) := by rw [wrap64 (by omega)]; omega
        simp only [go_sem, f0, f1, f4, f12, f13, decide_eq_true g1, set_same, q1, q2, en_take hl, reduceIte, Nat.reduceEqDiff, Nat.reduceAdd, Nat.reduceMul, Nat.reduceSub, Nat.reduceLT, Nat.reduceLeDiff, Int.reduceLE, Int.reduceLT, Int.reduceToNat, Int.reduceEq]
        refine ⟨by omega, by omega, by omega, by omega, (hC _ (sub_set hn hs) _ _).mono ?_⟩
        rintro _ σ1 ⟨rfl, rfl⟩
        simp only [go_sem, reduceIte, Nat.reduceEqDiff, Nat.reduceAdd, Nat.reduceMul, Nat.reduceSub, Nat.reduceLT, Nat.reduceLeDiff, Int.reduceLE, Int.reduceLT, Int.reduceToNat, Int.reduceEq]
        refine aIf_by (fun g2 => ?_) (fun g2 => ?_)
        · rw [if_neg (by unfold ltc; rw [decide_eq_true g2]; simp)] at hJ
          simp only [go_sem, reduceIte, Nat.reduceEqDiff, Nat.reduceAdd, Nat.reduceMul, Nat.reduceSub, Nat.reduceLT, Nat.reduceLeDiff, Int.reduceLE, Int.reduceLT, Int.reduceToNat, Int.reduceEq]
          exact ⟨m, k1, hJ.symm, k2, k3, f0, f1, f4, f12, f13⟩
        · rw [if_pos ⟨by omega, by unfold ltc; rw [decide_eq_false g2]; rfl⟩] at hJ
          simp only [go_sem, r_block, f0, f1, f4, f12, f13, w2, reduceIte, Nat.reduceEqDiff, Nat.reduceAdd, Nat.reduceMul, Nat.reduceSub, Nat.reduceLT, Nat.reduceLeDiff, Int.reduceLE, Int.reduceLT, Int.reduceToNat, Int.reduceEq]
          exact ⟨m - 1, by omega, m - 1, rfl, by omega, hJ, by omega, by omega, rfl⟩
      · rw [if_neg (fun h => g1 (by omega))] at hJ
        simp only [go_sem, f12, f13, decide_eq_false g1, reduceIte, Nat.reduceEqDiff, Nat.reduceAdd, Nat.reduceMul, Nat.reduceSub, Nat.reduceLT, Nat.reduceLeDiff, Int.reduceLE, Int.reduceLT, Int.reduceToNat, Int.reduceEq]
        exact ⟨m, k1, hJ.symm, k2, k3, f0, f1, f4, rfl⟩
    clear f0 f1 f4 f12 f13
    rintro fr σ' ⟨rfl, j2, k1, hj3, k2, k3, f0, f1, f4, f12, f13⟩
    simp only [go_sem, f12, f13, reduceIte, Nat.reduceEqDiff, Nat.reduceAdd, Nat.reduceMul, Nat.reduceSub, Nat.reduceLT, Nat.reduceLeDiff, Int.reduceLE, Int.reduceLT, Int.reduceToNat, Int.reduceEq]
    refine aIf_by (fun g1 => ?_) (fun g1 => ?_)
    · rw [pl_stop hi3 hj3 (by omega)] at hI
      rw [← hI]
      have q1 := rw_get (en := en) (d := dd) (j := a) (by omega)
      have q2 := rw_get (en := en) (d := dd) (j := j2) (by omega)
      have q3 := rw_get (en := en) (d := dd.setIfInBounds j2 dd[a]!) (j := a) (by rw [Array.size_setIfInBounds]; omega)
      simp only [go_sem, reduceIte, Nat.reduceEqDiff, Nat.reduceAdd, Nat.reduceMul, Nat.reduceSub, Nat.reduceLT, Nat.reduceLeDiff, Int.reduceLE, Int.reduceLT, Int.reduceToNat, Int.reduceEq]
      refine aDraw_plan [.rd 0 false, .rd 1 false, .rd 2 false, .rd 3 false, .rd 4 false, .rd 5 false, .rd 6 false, .rd 7 true, .rd 8 false, .rd 9 false, .rd 10 false, .rd 11 true, .rd 12 false, .ef 13 [], .rd 14 false, .ef 15 []] (by kernel_rfl) (by kernel_rfl) (by kernel_rfl) ?_
      simp only [go_sem, f0, f1, f4, f12, f13, set_same, q1, q2, en_take hl, en_app hl, hl, ho, hce, rw_set, q3, Array.size_setIfInBounds, reduceIte, Nat.reduceEqDiff, Nat.reduceAdd, Nat.reduceMul, Nat.reduceSub, Nat.reduceLT, Nat.reduceLeDiff, Int.reduceLE, Int.reduceLT, Int.reduceToNat, Int.reduceEq]
      refine ⟨by omega, by omega, by omega, by omega, by omega, by omega, by omega, by omega, ?_⟩
      exact aRet_as (r := .tup [int j2, boo false]) rfl ⟨rfl, rfl⟩
    · rw [pl_go hi3 hj3 (by omega) h1 k1] at hI
      have w2 : IntKind.i64.wrap ((j2 : Int) - 1) = ((j2 - 1 : Nat) : Int) := by rw [wrap64 (by omega)]; omega
      have q1 := rw_get (en := en) (d := dd) (j := i2) (by omega)
      have q2 := rw_get (en := en) (d := dd) (j := j2) (by omega)
      have q3 := rw_get (en := en) (d := dd.setIfInBounds i2 dd[j2]!) (j := j2) (by rw [Array.size_setIfInBounds]; omega)
      simp only [go_sem, reduceIte, Nat.reduceEqDiff, Nat.reduceAdd, Nat.reduceMul, Nat.reduceSub, Nat.reduceLT, Nat.reduceLeDiff, Int.reduceLE, Int.reduceLT, Int.reduceToNat, Int.reduceEq]
      refine aDraw_plan [.rd 0 false, .rd 1 false, .rd 2 false, .rd 3 false, .rd 4 false, .rd 5 false, .rd 6 false, .rd 7 true, .rd 8 false, .rd 9 false, .rd 10 false, .rd 11 true, .rd 12 false, .ef 13 [], .rd 14 false, .ef 15 []] (by kernel_rfl) (by kernel_rfl) (by kernel_rfl) ?_
      simp only [go_sem, f0, f1, f4, f12, f13, set_same, q1, q2, en_take hl, en_app hl, hl, ho, hce, rw_set, q3, Array.size_setIfInBounds, w2, next64 (show i2 < 9223372036854775807 by omega), reduceIte, Nat.reduceEqDiff, Nat.reduceAdd, Nat.reduceMul, Nat.reduceSub, Nat.reduceLT, Nat.reduceLeDiff, Int.reduceLE, Int.reduceLT, Int.reduceToNat, Int.reduceEq]
      exact ⟨by omega, by omega, by omega, by omega, by omega, by omega, by omega, by omega, j2 - 1 + 1 - (i2 + 1), by omega, i2 + 1, j2 - 1, swp dd i2 j2, rfl, by omega, by omega, by omega, by omega, by rw [swp_size]; exact hdd, hI, rfl, rfl, rfl⟩
end
end Go.Proofs.Ythdfpankebjleaa.L

/-
  The library's sort, of lists of facts: the whole.
  Conditions: none.
-/
namespace Go.Proofs.Ythdfpankebjleaa.L
open Go Go.Av Go.Sort

section
variable {α : Type} [Inhabited α] {en : α → List AV} (hl : ∀ x, (en x).length = 1) (ho : ∀ x, (en x).all AV.one = true) (hce : ∀ x, ((en x).getD 0 (.v undef)).cells = en x) {cf : α → α → Int} {g : Nat} {β : St} (hC : ∀ σ', (∀ x o, β x = some o → σ' x = some o) → ∀ x y, AT Try.prog g [(en x).getD 0 (.v undef), (en y).getD 0 (.v undef)] σ' fun r σ'' => r = int (cf x y) ∧ σ'' = σ')
variable {b cap : Nat} (hn : β b = none) {n : Nat} (hsz : n ≤ 1000000000) (hS : SWO (ltc cf))
include hl ho hce hC hn hsz hS
theorem pdq_at : ∀ (w : Nat) {σ : St} {d : Array α} {a e limit : Nat}, e - a ≤ w → σ b = some (.rows 1 (rw' en d) false cap) → (∀ x o, β x = some o → σ x = some o) → d.size = n → a ≤ e → e ≤ n → limit ≤ 1000 → Below (ltc cf) a e d →
    AT Try.prog 86 [slv b n cap, int a, int e, int limit, fnv g] σ fun _ σ' => ∃ d', σ' = σ.set b (.rows 1 (rw' en d') false cap) ∧ PermIn a e d d' ∧ SortedIn (ltc cf) a e d' := by
  intro w
  induction w using Nat.strongRecOn with
  | ind w ih =>
  intro σ d a e limit hw hb hs hd hae he hlim hB
  refine AT.of_body Try.func86 rfl (by decide) (by kernel_rfl) (by kernel_rfl) (Nat.le_of_ble_eq_true rfl) ?_
  simp only [go_sem, r_block, reduceIte, Nat.reduceEqDiff, Nat.reduceAdd, Nat.reduceMul, Nat.reduceSub, Nat.reduceLT, Nat.reduceLeDiff, Int.reduceLE, Int.reduceLT, Int.reduceToNat, Int.reduceEq]
  refine ⟨fun m fr σ' => ∃ (p q lim : Nat) (wb wp : Bool) (d' : Array α), m = q - p ∧ p ≤ q ∧ q ≤ n ∧ q - p ≤ w ∧ lim ≤ 1000 ∧ d'.size = n ∧ Below (ltc cf) p q d' ∧ (∀ R, PermIn p q d' R → SortedIn (ltc cf) p q R → PermIn a e d R ∧ SortedIn (ltc cf) a e R) ∧ σ' = σ.set b (.rows 1 (rw' en d') false cap) ∧ fr 0 = slv b n cap ∧ fr 1 = int p ∧ fr 2 = int q ∧ fr 3 = int lim ∧ fr 4 = fnv g ∧ fr 10 = boo wb ∧ fr 11 = boo wp, ⟨_, a, e, limit, true, true, d, rfl, hae, he, hw, hlim, hd, hB, fun R h1 h2 => ⟨h1, h2⟩, (set_id hb).symm, rfl, rfl, rfl, rfl, rfl, rfl, rfl⟩, ?_⟩
  rintro m fr σ' ⟨p, q, lim, wb, wp, dd, rfl, hpq, hq, hw2, hlim2, hdd, hB2, hF, rfl, f0, f1, f2, f3, f4, f10, f11⟩
  have w1 : IntKind.i64.wrap ((q : Int) - p) = ((q - p : Nat) : Int) := by rw [wrap64 (by omega)]; omega
  simp only [go_sem, reduceIte, Nat.reduceEqDiff, Nat.reduceAdd, Nat.reduceMul, Nat.reduceSub, Nat.reduceLT, Nat.reduceLeDiff, Int.reduceLE, Int.reduceLT, Int.reduceToNat, Int.reduceEq]
  rw [r_block]
  simp only [go_sem, f1, f2, w1, reduceIte, Nat.reduceEqDiff, Nat.reduceAdd, Nat.reduceMul, Nat.reduceSub, Nat.reduceLT, Nat.reduceLeDiff, Int.reduceLE, Int.reduceLT, Int.reduceToNat, Int.reduceEq]
  refine aIf_by (fun g1 => ?_) (fun g1 => ?_)
  · simp only [go_sem, f0, f1, f2, f4, reduceIte, Nat.reduceEqDiff, Nat.reduceAdd, Nat.reduceMul, Nat.reduceSub, Nat.reduceLT, Nat.reduceLeDiff, Int.reduceLE, Int.reduceLT, Int.reduceToNat, Int.reduceEq]
    refine (ins_at hl ho hce hC (σ := σ.set b (.rows 1 (rw' en dd) false cap)) (d := dd) set_same hn (sub_set hn hs) hdd hsz (a := p) (e := q) hq (by omega)).mono ?_
    rintro _ σ1 rfl
    simp only [go_sem, reduceIte, Nat.reduceEqDiff, Nat.reduceAdd, Nat.reduceMul, Nat.reduceSub, Nat.reduceLT, Nat.reduceLeDiff, Int.reduceLE, Int.reduceLT, Int.reduceToNat, Int.reduceEq]
    have h := insertionSort_holds (lt := ltc cf) hS dd p q hpq (by omega)
    exact aRet_as (r := .tup []) rfl ⟨_, rfl, hF _ h.1 h.2⟩
  simp only [go_sem, f3, reduceIte, Nat.reduceEqDiff, Nat.reduceAdd, Nat.reduceMul, Nat.reduceSub, Nat.reduceLT, Nat.reduceLeDiff, Int.reduceLE, Int.reduceLT, Int.reduceToNat, Int.reduceEq]
  refine aIf_by (fun g2 => ?_) (fun g2 => ?_)
  · simp only [go_sem, f0, f1, f2, f4, reduceIte, Nat.reduceEqDiff, Nat.reduceAdd, Nat.reduceMul, Nat.reduceSub, Nat.reduceLT, Nat.reduceLeDiff, Int.reduceLE, Int.reduceLT, Int.reduceToNat, Int.reduceEq]
    refine (heap_at hl ho hce hC (σ := σ.set b (.rows 1 (rw' en dd) false cap)) (d := dd) set_same hn (sub_set hn hs) hdd hsz (a := p) (e := q) hq (by omega)).mono ?_
    rintro _ σ1 rfl
    simp only [go_sem, reduceIte, Nat.reduceEqDiff, Nat.reduceAdd, Nat.reduceMul, Nat.reduceSub, Nat.reduceLT, Nat.reduceLeDiff, Int.reduceLE, Int.reduceLT, Int.reduceToNat, Int.reduceEq]
    have h := heapSort_holds (lt := ltc cf) hS dd p q hpq (by omega)
    exact aRet_as (r := .tup []) rfl ⟨_, rfl, hF _ h.1 h.2⟩
  simp only [go_sem, f10, reduceIte, Nat.reduceEqDiff, Nat.reduceAdd, Nat.reduceMul, Nat.reduceSub, Nat.reduceLT, Nat.reduceLeDiff, Int.reduceLE, Int.reduceLT, Int.reduceToNat, Int.reduceEq]
  refine aIf_meetb (fun fr σ' => ∃ (lim' : Nat) (d1 : Array α), lim' ≤ 1000 ∧ PermIn p q dd d1 ∧ σ' = σ.set b (.rows 1 (rw' en d1) false cap) ∧ fr 0 = slv b n cap ∧ fr 1 = int p ∧ fr 2 = int q ∧ fr 3 = int lim' ∧ fr 4 = fnv g ∧ fr 10 = boo wb ∧ fr 11 = boo wp ∧ fr 12 = int (q - p : Nat)) (fun g3 => ?_) (fun g3 => ?_) ?_
  · simp only [go_sem, reduceIte, Nat.reduceEqDiff, Nat.reduceAdd, Nat.reduceMul, Nat.reduceSub, Nat.reduceLT, Nat.reduceLeDiff, Int.reduceLE, Int.reduceLT, Int.reduceToNat, Int.reduceEq]
    exact ⟨lim, dd, hlim2, permIn_refl dd p q, rfl, f0, f1, f2, f3, f4, f10, f11⟩
  · have w2 : IntKind.i64.wrap ((lim : Int) - 1) = ((lim - 1 : Nat) : Int) := by rw [wrap64 (by omega)]; omega
    simp only [go_sem, f0, f1, f2, f4, reduceIte, Nat.reduceEqDiff, Nat.reduceAdd, Nat.reduceMul, Nat.reduceSub, Nat.reduceLT, Nat.reduceLeDiff, Int.reduceLE, Int.reduceLT, Int.reduceToNat, Int.reduceEq]
    refine (break_at hl ho hce (σ := σ.set b (.rows 1 (rw' en dd) false cap)) (d := dd) set_same hdd hsz (a := p) (e := q) hq (by omega)).mono ?_
    rintro _ σ1 rfl
    simp only [go_sem, f0, f1, f2, f3, f4, f10, f11, w2, reduceIte, Nat.reduceEqDiff, Nat.reduceAdd, Nat.reduceMul, Nat.reduceSub, Nat.reduceLT, Nat.reduceLeDiff, Int.reduceLE, Int.reduceLT, Int.reduceToNat, Int.reduceEq]
    refine ⟨lim - 1, breakPatterns dd p q, by omega, breakPatterns_holds dd p q hpq (by omega), rfl, rfl⟩
  clear f0 f1 f2 f3 f4 f10 f11 fr hlim2
  rintro fr σ' ⟨lim, d1, hlim2, hP1, rfl, f0, f1, f2, f3, f4, f10, f11, f12⟩
  have hz1 : d1.size = n := by rw [hP1.1]; exact hdd
  have hB1 : Below (ltc cf) p q d1 := hB2.perm (by omega) hP1
  have hc0 := choosePivot_holds (ltc cf) d1 p q (by omega)
  simp only [go_sem, f0, f1, f2, f4, reduceIte, Nat.reduceEqDiff, Nat.reduceAdd, Nat.reduceMul, Nat.reduceSub, Nat.reduceLT, Nat.reduceLeDiff, Int.reduceLE, Int.reduceLT, Int.reduceToNat, Int.reduceEq]
  refine (pivot_at hl ho hce hC (σ := σ.set b (.rows 1 (rw' en d1) false cap)) (d := d1) set_same hn (sub_set hn hs) hz1 hsz (a := p) (e := q) hq (by omega)).mono ?_
  rintro _ _ ⟨rfl, rfl⟩
  generalize choosePivot (ltc cf) d1 p q = c at hc0 ⊢
  obtain ⟨c1, c2⟩ := c
  simp only [go_sem, f0, f1, f2, f4, reduceIte, Nat.reduceEqDiff, Nat.reduceAdd, Nat.reduceMul, Nat.reduceSub, Nat.reduceLT, Nat.reduceLeDiff, Int.reduceLE, Int.reduceLT, Int.reduceToNat, Int.reduceEq]
  refine aIf_meet (fun fr σ' => ∃ (pv : Nat) (h : Int) (d2 : Array α), p ≤ pv ∧ pv < q ∧ PermIn p q d1 d2 ∧ σ' = σ.set b (.rows 1 (rw' en d2) false cap) ∧ fr 0 = slv b n cap ∧ fr 1 = int p ∧ fr 2 = int q ∧ fr 3 = int lim ∧ fr 4 = fnv g ∧ fr 10 = boo wb ∧ fr 11 = boo wp ∧ fr 12 = int (q - p : Nat) ∧ fr 13 = int pv ∧ fr 14 = int h) (fun g3 => ?_) (fun g3 => ?_) ?_
  · simp only [go_sem, f0, f1, f2, f4, reduceIte, Nat.reduceEqDiff, Nat.reduceAdd, Nat.reduceMul, Nat.reduceSub, Nat.reduceLT, Nat.reduceLeDiff, Int.reduceLE, Int.reduceLT, Int.reduceToNat, Int.reduceEq]
    refine (rev_at hl ho hce (σ := σ.set b (.rows 1 (rw' en d1) false cap)) (d := d1) set_same hz1 hsz (a := p) (e := q) hq (by omega)).mono ?_
    rintro _ σ1 rfl
    have hc1 : p ≤ c1 := hc0.1
    have hc2 : c1 < q := hc0.2
    have w3 : IntKind.i64.wrap (IntKind.i64.wrap ((q : Int) - 1) - IntKind.i64.wrap ((c1 : Int) - p)) = ((q - 1 - (c1 - p) : Nat) : Int) := by
      rw [wrap64 (x := (q : Int) - 1) (by omega), wrap64 (x := (c1 : Int) - p) (by omega), wrap64 (by omega)]; omega
    simp only [go_sem, f0, f1, f2, f3, f4, f10, f11, f12, w3, reduceIte, Nat.reduceEqDiff, Nat.reduceAdd, Nat.reduceMul, Nat.reduceSub, Nat.reduceLT, Nat.reduceLeDiff, Int.reduceLE, Int.reduceLT, Int.reduceToNat, Int.reduceEq]
    exact ⟨q - 1 - (c1 - p), 1, reverseRange d1 p q, by omega, by omega, reverseRange_holds d1 p q hpq (by omega), rfl, rfl, rfl⟩
  · simp only [go_sem, reduceIte, Nat.reduceEqDiff, Nat.reduceAdd, Nat.reduceMul, Nat.reduceSub, Nat.reduceLT, Nat.reduceLeDiff, Int.reduceLE, Int.reduceLT, Int.reduceToNat, Int.reduceEq]
    exact ⟨c1, hintN c2, d1, hc0.1, hc0.2, permIn_refl d1 p q, rfl, f0, f1, f2, f3, f4, f10, f11, f12, rfl, rfl⟩
  clear f0 f1 f2 f3 f4 f10 f11 f12 fr hc0
  rintro fr σ' ⟨pv, h, d2, hp1, hp2, hP2, rfl, f0, f1, f2, f3, f4, f10, f11, f12, f13, f14⟩
  have hz2 : d2.size = n := by rw [hP2.1]; exact hz1
  have hB3 : Below (ltc cf) p q d2 := hB1.perm (by omega) hP2
  apply meet_by (fun fr σ' => ∃ (d3 : Array α), PermIn p q d2 d3 ∧ σ' = σ.set b (.rows 1 (rw' en d3) false cap) ∧ fr 0 = slv b n cap ∧ fr 1 = int p ∧ fr 2 = int q ∧ fr 3 = int lim ∧ fr 4 = fnv g ∧ fr 10 = boo wb ∧ fr 11 = boo wp ∧ fr 12 = int (q - p : Nat) ∧ fr 13 = int pv)
  case h1 =>
    intro key
    cases wb
    · simp only [go_sem, f10, reduceIte, Nat.reduceEqDiff, Nat.reduceAdd, Nat.reduceMul, Nat.reduceSub, Nat.reduceLT, Nat.reduceLeDiff, Int.reduceLE, Int.reduceLT, Int.reduceToNat, Int.reduceEq]
      refine key _ _ ?_
      exact ⟨d2, permIn_refl d2 p q, rfl, f0, f1, f2, f3, f4, f10, f11, f12, f13⟩
    · cases wp
      · simp only [go_sem, f10, f11, reduceIte, Nat.reduceEqDiff, Nat.reduceAdd, Nat.reduceMul, Nat.reduceSub, Nat.reduceLT, Nat.reduceLeDiff, Int.reduceLE, Int.reduceLT, Int.reduceToNat, Int.reduceEq]
        refine key _ _ ?_
        exact ⟨d2, permIn_refl d2 p q, rfl, f0, f1, f2, f3, f4, f10, f11, f12, f13⟩
      · simp only [go_sem, f10, f11, f14, reduceIte, Nat.reduceEqDiff, Nat.reduceAdd, Nat.reduceMul, Nat.reduceSub, Nat.reduceLT, Nat.reduceLeDiff, Int.reduceLE, Int.reduceLT, Int.reduceToNat, Int.reduceEq]
        refine aIf_by (fun g4 => ?_) (fun g4 => ?_)
        · simp only [go_sem, f0, f1, f2, f4, reduceIte, Nat.reduceEqDiff, Nat.reduceAdd, Nat.reduceMul, Nat.reduceSub, Nat.reduceLT, Nat.reduceLeDiff, Int.reduceLE, Int.reduceLT, Int.reduceToNat, Int.reduceEq]
          refine (partial_at hl ho hce hC (σ := σ.set b (.rows 1 (rw' en d2) false cap)) (d := d2) set_same hn (sub_set hn hs) hz2 hsz (a := p) (e := q) hq (by omega)).mono ?_
          rintro _ _ ⟨rfl, rfl⟩
          have hpi := partialInsertionSort_holds (lt := ltc cf) hS d2 p q (by omega) (by omega) hB3
          simp only [go_sem, reduceIte, Nat.reduceEqDiff, Nat.reduceAdd, Nat.reduceMul, Nat.reduceSub, Nat.reduceLT, Nat.reduceLeDiff, Int.reduceLE, Int.reduceLT, Int.reduceToNat, Int.reduceEq]
          refine aIf_bool (fun g5 => ?_) (fun g5 => ?_)
          · simp only [go_sem, reduceIte, Nat.reduceEqDiff, Nat.reduceAdd, Nat.reduceMul, Nat.reduceSub, Nat.reduceLT, Nat.reduceLeDiff, Int.reduceLE, Int.reduceLT, Int.reduceToNat, Int.reduceEq]
            exact aRet_as (r := .tup []) rfl ⟨_, rfl, hF _ (permIn_trans _ _ _ p q (permIn_trans _ _ _ p q hP1 hP2) hpi.1) (hpi.2 g5)⟩
          · simp only [go_sem, reduceIte, Nat.reduceEqDiff, Nat.reduceAdd, Nat.reduceMul, Nat.reduceSub, Nat.reduceLT, Nat.reduceLeDiff, Int.reduceLE, Int.reduceLT, Int.reduceToNat, Int.reduceEq]
            refine key _ _ ?_
            exact ⟨_, hpi.1, rfl, f0, f1, f2, f3, f4, f10, f11, f12, f13⟩
        · simp only [go_sem, reduceIte, Nat.reduceEqDiff, Nat.reduceAdd, Nat.reduceMul, Nat.reduceSub, Nat.reduceLT, Nat.reduceLeDiff, Int.reduceLE, Int.reduceLT, Int.reduceToNat, Int.reduceEq]
          refine key _ _ ?_
          exact ⟨d2, permIn_refl d2 p q, rfl, f0, f1, f2, f3, f4, f10, f11, f12, f13⟩
  case h2 =>
    clear f0 f1 f2 f3 f4 f10 f11 f12 f13 f14 fr
    rintro fr σ' ⟨d3, hP3, rfl, f0, f1, f2, f3, f4, f10, f11, f12, f13⟩
    have hz3 : d3.size = n := by rw [hP3.1]; exact hz2
    have hB4 : Below (ltc cf) p q d3 := hB3.perm (by omega) hP3
    have hF3 : ∀ R, PermIn p q d3 R → SortedIn (ltc cf) p q R → PermIn a e d R ∧ SortedIn (ltc cf) a e R := fun R h1 h2 => hF R (permIn_trans _ _ _ p q (permIn_trans _ _ _ p q (permIn_trans _ _ _ p q hP1 hP2) hP3) h1) h2
    clear hF hP1 hP2 hP3 hB1 hB2 hB3 hz1 hz2 hdd d1 d2
    refine aDraw_plan [.rd 0 false, .rd 1 false, .rd 2 false, .rd 3 false, .rd 4 false, .rd 5 false, .rd 6 false, .rd 7 false, .rd 8 true, .rd 9 false, .rd 10 false, .rd 11 false, .rd 12 true, .ef 13 [], .rd 14 false, .rd 15 false, .rd 16 false] (by kernel_rfl) (by kernel_rfl) (by kernel_rfl) ?_
    by_cases g6 : (0 : Int) < p
    · have w5 : IntKind.i64.wrap ((p : Int) - 1) = ((p - 1 : Nat) : Int) := by rw [wrap64 (by omega)]; omega
      have q1 := rw_get (en := en) (d := d3) (j := p - 1) (by omega)
      have q2 := rw_get (en := en) (d := d3) (j := pv) (by omega)
      simp only [go_sem, f0, f1, f4, f13, decide_eq_true g6, w5, set_same, q1, q2, en_take hl, reduceIte, Nat.reduceEqDiff, Nat.reduceAdd, Nat.reduceMul, Nat.reduceSub, Nat.reduceLT, Nat.reduceLeDiff, Int.reduceLE, Int.reduceLT, Int.reduceToNat, Int.reduceEq]
      refine ⟨by omega, by omega, by omega, by omega, (hC _ (sub_set hn hs) _ _).mono ?_⟩
      rintro _ σ1 ⟨rfl, rfl⟩
      simp only [go_sem, reduceIte, Nat.reduceEqDiff, Nat.reduceAdd, Nat.reduceMul, Nat.reduceSub, Nat.reduceLT, Nat.reduceLeDiff, Int.reduceLE, Int.reduceLT, Int.reduceToNat, Int.reduceEq]
      refine aIf_by (fun g7 => ?_) (fun g7 => ?_)
      · simp only [go_sem, f0, f1, f2, f4, f13, reduceIte, Nat.reduceEqDiff, Nat.reduceAdd, Nat.reduceMul, Nat.reduceSub, Nat.reduceLT, Nat.reduceLeDiff, Int.reduceLE, Int.reduceLT, Int.reduceToNat, Int.reduceEq]
        refine (part_at hl ho hce hC (σ := σ.set b (.rows 1 (rw' en d3) false cap)) (d := d3) set_same hn (sub_set hn hs) hz3 hsz (a := p) (e := q) (pv := pv) hq (by omega) (by omega)).mono ?_
        rintro _ _ ⟨rfl, rfl⟩
        generalize hx : partition (ltc cf) d3 p q pv = x
        obtain ⟨mid, ap, d4⟩ := x
        obtain ⟨g7, g8, hs4, hBa, hBr, hleft, hright⟩ := round_part hS (partition_holds (ltc cf)) hp1 hp2 (by omega) hB4 hx
        have v1 : IntKind.i64.wrap ((mid : Int) - p) = ((mid - p : Nat) : Int) := by rw [wrap64 (by omega)]; omega
        have v2 : IntKind.i64.wrap ((q : Int) - mid) = ((q - mid : Nat) : Int) := by rw [wrap64 (by omega)]; omega
        have v3 : IntKind.i64.wrap (((q - p : Nat) : Int).tdiv 8) = (((q - p) / 8 : Nat) : Int) := by rw [Int.tdiv_eq_ediv_of_nonneg (by omega), wrap64 (by omega)]; omega
        simp only [go_sem, f1, f2, f12, v1, v2, v3, reduceIte, Nat.reduceEqDiff, Nat.reduceAdd, Nat.reduceMul, Nat.reduceSub, Nat.reduceLT, Nat.reduceLeDiff, Int.reduceLE, Int.reduceLT, Int.reduceToNat, Int.reduceEq]
        refine aIf_by (fun g9 => ?_) (fun g9 => ?_)
        · simp only [go_sem, f0, f1, f2, f3, f4, reduceIte, Nat.reduceEqDiff, Nat.reduceAdd, Nat.reduceMul, Nat.reduceSub, Nat.reduceLT, Nat.reduceLeDiff, Int.reduceLE, Int.reduceLT, Int.reduceToNat, Int.reduceEq]
          refine (ih (mid - p) (by omega) (σ := σ.set b (.rows 1 (rw' en d4) false cap)) (d := d4) (a := p) (e := mid) (limit := lim) (Nat.le_refl _) set_same (sub_set hn hs) (by omega) g7 (by omega) hlim2 hBa).mono ?_
          rintro _ _ ⟨d5, rfl, l1, l2⟩
          obtain ⟨hBL, hfin⟩ := hleft _ l1 l2
          simp only [go_sem, f0, f2, f3, f4, next64 (show mid < 9223372036854775807 by omega), reduceIte, Nat.reduceEqDiff, Nat.reduceAdd, Nat.reduceMul, Nat.reduceSub, Nat.reduceLT, Nat.reduceLeDiff, Int.reduceLE, Int.reduceLT, Int.reduceToNat, Int.reduceEq]
          exact ⟨q - (mid + 1), by omega, mid + 1, q, lim, decide ((((q - p) / 8 : Nat) : Int) ≤ ((mid - p : Nat) : Int)), ap, d5, rfl, by omega, by omega, by omega, hlim2, by rw [l1.1]; omega, hBL, fun R h1 h2 => (fun hh => hF3 R hh.1 hh.2) (hfin R h1 h2), rfl, rfl, rfl, rfl, rfl, rfl⟩
        · simp only [go_sem, f0, f1, f2, f3, f4, next64 (show mid < 9223372036854775807 by omega), reduceIte, Nat.reduceEqDiff, Nat.reduceAdd, Nat.reduceMul, Nat.reduceSub, Nat.reduceLT, Nat.reduceLeDiff, Int.reduceLE, Int.reduceLT, Int.reduceToNat, Int.reduceEq]
          refine (ih (q - (mid + 1)) (by omega) (σ := σ.set b (.rows 1 (rw' en d4) false cap)) (d := d4) (a := mid + 1) (e := q) (limit := lim) (Nat.le_refl _) set_same (sub_set hn hs) (by omega) (by omega) (by omega) hlim2 hBr).mono ?_
          rintro _ _ ⟨d5, rfl, l1, l2⟩
          obtain ⟨hBL, hfin⟩ := hright _ l1 l2
          simp only [go_sem, f0, f1, f3, f4, reduceIte, Nat.reduceEqDiff, Nat.reduceAdd, Nat.reduceMul, Nat.reduceSub, Nat.reduceLT, Nat.reduceLeDiff, Int.reduceLE, Int.reduceLT, Int.reduceToNat, Int.reduceEq]
          exact ⟨mid - p, by omega, p, mid, lim, decide ((((q - p) / 8 : Nat) : Int) ≤ ((q - mid : Nat) : Int)), ap, d5, rfl, by omega, by omega, by omega, hlim2, by rw [l1.1]; omega, hBL, fun R h1 h2 => (fun hh => hF3 R hh.1 hh.2) (hfin R h1 h2), rfl, rfl, rfl, rfl, rfl, rfl⟩
      · simp only [go_sem, f0, f1, f2, f4, f13, reduceIte, Nat.reduceEqDiff, Nat.reduceAdd, Nat.reduceMul, Nat.reduceSub, Nat.reduceLT, Nat.reduceLeDiff, Int.reduceLE, Int.reduceLT, Int.reduceToNat, Int.reduceEq]
        refine (parteq_at hl ho hce hC (σ := σ.set b (.rows 1 (rw' en d3) false cap)) (d := d3) set_same hn (sub_set hn hs) hz3 hsz (a := p) (e := q) (pv := pv) hq (by omega) (by omega)).mono ?_
        rintro _ _ ⟨rfl, rfl⟩
        generalize hx : partitionEqual (ltc cf) d3 p q pv = x
        obtain ⟨mid, d4⟩ := x
        obtain ⟨g8, g9, hs4, hBr, hfin⟩ := round_eq hS (partitionEqual_holds (ltc cf)) (by omega) hp1 hp2 (by omega) hB4 (by unfold ltc; exact decide_eq_false g7) hx
        simp only [go_sem, f0, f2, f3, f4, f10, f11, reduceIte, Nat.reduceEqDiff, Nat.reduceAdd, Nat.reduceMul, Nat.reduceSub, Nat.reduceLT, Nat.reduceLeDiff, Int.reduceLE, Int.reduceLT, Int.reduceToNat, Int.reduceEq]
        exact ⟨q - mid, by omega, mid, q, lim, wb, wp, d4, rfl, by omega, by omega, by omega, hlim2, by omega, hBr, fun R h1 h2 => (fun hh => hF3 R hh.1 hh.2) (hfin R h1 h2), rfl, rfl, rfl, rfl, rfl, rfl⟩
    · simp only [go_sem, f1, decide_eq_false g6, reduceIte, Nat.reduceEqDiff, Nat.reduceAdd, Nat.reduceMul, Nat.reduceSub, Nat.reduceLT, Nat.reduceLeDiff, Int.reduceLE, Int.reduceLT, Int.reduceToNat, Int.reduceEq]
      simp only [go_sem, f0, f1, f2, f4, f13, reduceIte, Nat.reduceEqDiff, Nat.reduceAdd, Nat.reduceMul, Nat.reduceSub, Nat.reduceLT, Nat.reduceLeDiff, Int.reduceLE, Int.reduceLT, Int.reduceToNat, Int.reduceEq]
      refine (part_at hl ho hce hC (σ := σ.set b (.rows 1 (rw' en d3) false cap)) (d := d3) set_same hn (sub_set hn hs) hz3 hsz (a := p) (e := q) (pv := pv) hq (by omega) (by omega)).mono ?_
      rintro _ _ ⟨rfl, rfl⟩
      generalize hx : partition (ltc cf) d3 p q pv = x
      obtain ⟨mid, ap, d4⟩ := x
      obtain ⟨g7, g8, hs4, hBa, hBr, hleft, hright⟩ := round_part hS (partition_holds (ltc cf)) hp1 hp2 (by omega) hB4 hx
      have v1 : IntKind.i64.wrap ((mid : Int) - p) = ((mid - p : Nat) : Int) := by rw [wrap64 (by omega)]; omega
      have v2 : IntKind.i64.wrap ((q : Int) - mid) = ((q - mid : Nat) : Int) := by rw [wrap64 (by omega)]; omega
      have v3 : IntKind.i64.wrap (((q - p : Nat) : Int).tdiv 8) = (((q - p) / 8 : Nat) : Int) := by rw [Int.tdiv_eq_ediv_of_nonneg (by omega), wrap64 (by omega)]; omega
      simp only [go_sem, f1, f2, f12, v1, v2, v3, reduceIte, Nat.reduceEqDiff, Nat.reduceAdd, Nat.reduceMul, Nat.reduceSub, Nat.reduceLT, Nat.reduceLeDiff, Int.reduceLE, Int.reduceLT, Int.reduceToNat, Int.reduceEq]
      refine aIf_by (fun g9 => ?_) (fun g9 => ?_)
      · simp only [go_sem, f0, f1, f2, f3, f4, reduceIte, Nat.reduceEqDiff, Nat.reduceAdd, Nat.reduceMul, Nat.reduceSub, Nat.reduceLT, Nat.reduceLeDiff, Int.reduceLE, Int.reduceLT, Int.reduceToNat, Int.reduceEq]
        refine (ih (mid - p) (by omega) (σ := σ.set b (.rows 1 (rw' en d4) false cap)) (d := d4) (a := p) (e := mid) (limit := lim) (Nat.le_refl _) set_same (sub_set hn hs) (by omega) g7 (by omega) hlim2 hBa).mono ?_
        rintro _ _ ⟨d5, rfl, l1, l2⟩
        obtain ⟨hBL, hfin⟩ := hleft _ l1 l2
        simp only [go_sem, f0, f2, f3, f4, next64 (show mid < 9223372036854775807 by omega), reduceIte, Nat.reduceEqDiff, Nat.reduceAdd, Nat.reduceMul, Nat.reduceSub, Nat.reduceLT, Nat.reduceLeDiff, Int.reduceLE, Int.reduceLT, Int.reduceToNat, Int.reduceEq]
        exact ⟨q - (mid + 1), by omega, mid + 1, q, lim, decide ((((q - p) / 8 : Nat) : Int) ≤ ((mid - p : Nat) : Int)), ap, d5, rfl, by omega, by omega, by omega, hlim2, by rw [l1.1]; omega, hBL, fun R h1 h2 => (fun hh => hF3 R hh.1 hh.2) (hfin R h1 h2), rfl, rfl, rfl, rfl, rfl, rfl⟩
      · simp only [go_sem, f0, f1, f2, f3, f4, next64 (show mid < 9223372036854775807 by omega), reduceIte, Nat.reduceEqDiff, Nat.reduceAdd, Nat.reduceMul, Nat.reduceSub, Nat.reduceLT, Nat.reduceLeDiff, Int.reduceLE, Int.reduceLT, Int.reduceToNat, Int.reduceEq]
        refine (ih (q - (mid + 1)) (by omega) (σ := σ.set b (.rows 1 (rw' en d4) false cap)) (d := d4) (a := mid + 1) (e := q) (limit := lim) (Nat.le_refl _) set_same (sub_set hn hs) (by omega) (by omega) (by omega) hlim2 hBr).mono ?_
        rintro _ _ ⟨d5, rfl, l1, l2⟩
        obtain ⟨hBL, hfin⟩ := hright _ l1 l2
        simp only [go_sem, f0, f1, f3, f4, reduceIte, Nat.reduceEqDiff, Nat.reduceAdd, Nat.reduceMul, Nat.reduceSub, Nat.reduceLT, Nat.reduceLeDiff, Int.reduceLE, Int.reduceLT, Int.reduceToNat, Int.reduceEq]
        exact ⟨mid - p, by omega, p, mid, lim, decide ((((q - p) / 8 : Nat) : Int) ≤ ((q - mid : Nat) : Int)), ap, d5, rfl, by omega, by omega, by omega, hlim2, by rw [l1.1]; omega, hBL, fun R h1 h2 => (fun hh => hF3 R hh.1 hh.2) (hfin R h1 h2), rfl, rfl, rfl, rfl, rfl, rfl⟩
/-- SortFunc: a permutation that rises. -/
theorem sort_at {σ : St} {d : Array α} (hb : σ b = some (.rows 1 (rw' en d) false cap)) (hs : ∀ x o, β x = some o → σ x = some o) (hd : d.size = n) : AT Try.prog 56 [slv b n cap, fnv g] σ fun _ σ' => ∃ d', σ' = σ.set b (.rows 1 (rw' en d') false cap) ∧ d'.toList.Perm d.toList ∧ SortedIn (ltc cf) 0 n d' := by
  refine AT.of_body Try.func56 rfl (by decide) (by kernel_rfl) (by kernel_rfl) (Nat.le_of_ble_eq_true rfl) ?_
  have w1 : IntKind.u64.wrap (n : Int) = (n : Int) := by rw [wrapu]; omega
  simp only [go_sem, w1, reduceIte, Nat.reduceEqDiff, Nat.reduceAdd, Nat.reduceMul, Nat.reduceSub, Nat.reduceLT, Nat.reduceLeDiff, Int.reduceLE, Int.reduceLT, Int.reduceToNat, Int.reduceEq]
  refine (len_at (x := n) (by omega)).mono ?_
  rintro _ σ1 ⟨rfl, rfl⟩
  have hbl := bl_le32 (z := n) (by omega)
  simp only [go_sem, reduceIte, Nat.reduceEqDiff, Nat.reduceAdd, Nat.reduceMul, Nat.reduceSub, Nat.reduceLT, Nat.reduceLeDiff, Int.reduceLE, Int.reduceLT, Int.reduceToNat, Int.reduceEq]
  refine (pdq_at hl ho hce hC hn hsz hS n (a := 0) (e := n) (limit := bitsLen n) (by omega) hb hs hd (by omega) (by omega) (by omega) (.inl rfl)).mono ?_
  rintro _ _ ⟨d', rfl, h1, h2⟩
  simp only [go_sem, reduceIte, Nat.reduceEqDiff, Nat.reduceAdd, Nat.reduceMul, Nat.reduceSub, Nat.reduceLT, Nat.reduceLeDiff, Int.reduceLE, Int.reduceLT, Int.reduceToNat, Int.reduceEq]
  refine aRet_as (r := .tup []) rfl ⟨d', rfl, ?_, h2⟩
  have h3 := h1.2.2
  rw [Array.extract_eq_self_of_le (by rw [h1.1]; omega), Array.extract_eq_self_of_le (by omega)] at h3
  exact h3
end
end Go.Proofs.Ythdfpankebjleaa.L
