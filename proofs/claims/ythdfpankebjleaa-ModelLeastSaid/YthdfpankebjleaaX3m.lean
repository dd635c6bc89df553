/-
  Contracts of the functions that the statement reaches, and the plain laws of what they reckon.
  Conditions: none.
-/
import Derived.Test.YthdfpankebjleaaV1
import Derived.Test.YthdfpankebjleaaV2
import Derived.Test.YthdfpankebjleaaV3
import Derived.Test.YthdfpankebjleaaX1m
import Derived.Test.YthdfpankebjleaaX2m
set_option linter.unusedVariables false
set_option linter.unusedSimpArgs false
set_option linter.unusedSectionVars false
set_option maxRecDepth 100000
/-
  A statement's arguments, as cases of the models' laws.
  Conditions: none.
-/
namespace Go.Proofs.Ythdfpankebjleaa
open Go Go.Av

theorem rls_of {n : Nat} : ∀ (es : List (List AV)), (∀ x ∈ es, Ty Try.prog (n + 7) 29 x) → ∃ l : List Rl, es = rlC l ∧ ∀ x ∈ l, x.Wf
  | [], _ => ⟨[], rfl, fun x hx => by cases hx⟩
  | x :: es, h => by
    obtain ⟨l, rfl, hl⟩ := rls_of es fun y hy => h y (by simp [hy])
    obtain ⟨t, rfl, ht⟩ := rl_of (h x (by simp))
    exact ⟨t :: l, rfl, fun y hy => by rcases List.mem_cons.1 hy with rfl | hy; exact ht; exact hl y hy⟩
theorem rll_of {n : Nat} {cs : List AV} (h : Ty Try.prog (n + 8) 31 cs) : ∃ l : List Rl, cs = [.sl 11 (rlC l)] ∧ l.length ≤ 140737488351232 ∧ ∀ x ∈ l, x.Wf := by
  obtain ⟨es, rfl, hl, he⟩ := ty_sl Try.underlying31 h
  obtain ⟨ts, rfl, hts⟩ := rls_of es he
  have e1 : Try.prog.cellsOf 29 = 11 := by kernel_rfl
  have e2 : 1 ≤ Try.prog.bytesOf 29 := Nat.le_of_ble_eq_true (by kernel_rfl)
  rw [e1]
  rw [rlC_len] at hl
  exact ⟨ts, rfl, Nat.le_trans (Nat.le_mul_of_pos_right _ e2) hl, hts⟩
theorem sts_of {n : Nat} : ∀ (es : List (List AV)), (∀ x ∈ es, Ty Try.prog (n + 1) 9 x) → ∃ l : List ByteArray, es = stC l
  | [], _ => ⟨[], rfl⟩
  | x :: es, h => by
    obtain ⟨l, rfl⟩ := sts_of es fun y hy => h y (by simp [hy])
    obtain ⟨t, rfl, _⟩ := ty_str Try.underlying9 (h x (by simp))
    exact ⟨t :: l, rfl⟩
theorem stl_of {n : Nat} {cs : List AV} (h : Ty Try.prog (n + 2) 56 cs) : ∃ l : List ByteArray, cs = [.sl 1 (stC l)] := by
  obtain ⟨es, rfl, _, he⟩ := ty_sl Try.underlying56 h
  obtain ⟨ts, rfl⟩ := sts_of es he
  have e1 : Try.prog.cellsOf 9 = 1 := by kernel_rfl
  rw [e1]
  exact ⟨ts, rfl⟩
theorem c4_of {n : Nat} {cs : List AV} (h : Ty Try.prog (n + 9) 58 cs) : ∃ (homes names : List ByteArray) (rs : List Rl) (l : List Fa), cs = c4C homes names rs l ∧ C4Wf rs l := by
  have hx := ty_st Try.underlying58 h
  obtain ⟨x1, y1, rfl, h1, x2, y2, rfl, h2, x3, y3, rfl, h3, x4, y4, rfl, h4, rfl⟩ := hx
  obtain ⟨homes, rfl⟩ := stl_of h1
  obtain ⟨names, rfl⟩ := stl_of h2
  obtain ⟨rs, rfl, h5, h6⟩ := rll_of h3
  obtain ⟨l, rfl, h7, h8⟩ := fal_of h4
  exact ⟨homes, names, rs, l, rfl, h5, h6, by omega, h8⟩
end Go.Proofs.Ythdfpankebjleaa
