/-
  The program logic, part 21: a place within an element of a slice that the walk owns.
  Conditions: none (a library of lemmas over any program).
-/
import Derived.Test.YthdfpankebjleaaAvView
set_option linter.unusedVariables false
set_option linter.unusedSimpArgs false
namespace Go.Av
open Go Go.RowKit

/-- The pointer points at cell g of an element of q cells, which are these. -/
def EAt (q : Nat) (σ : St) (p : AV) (cs : List AV) (g : Nat) : Prop :=
  p = .fp (cs.drop g) ∨ ∃ b j es frz cap, p = .rp b q j g ∧ σ b = some (.rows q es frz cap) ∧ j < es.length ∧ es.getD j [] = cs

section
variable {q : Nat} {σ σ' : St} {p lv : AV} {es : List (List AV)} {cs : List AV} {g : Nat} {K : AV → Prop}

theorem LAt.elem {ag : Bool} {sz eby : Nat} {zr ez : List Value} {byt : Bool} {ik : IntKind} {j : Int} (h : LAt q σ lv es) (h0 : 0 ≤ j) (h1 : j < es.length)
    (hk : ∀ p, EAt q σ p (es.getD j.toNat []) 0 → K p) : aIadr (some ⟨ag, sz, zr, .sl q eby ez byt⟩) σ lv (.v (.int ik j)) K := by
  rcases h with ⟨rfl, rfl⟩ | rfl | ⟨b, cap, rfl, hc, hb⟩
  · simp at h1; omega
  · exact ⟨rfl, h0, h1, hk _ (.inl (by simp))⟩
  · refine ⟨by simp, h0, h1, hk _ (.inr ⟨b, _, es, false, cap, rfl, hb, ?_, ?_⟩)⟩
    · simp only [Nat.zero_div, Nat.zero_add]; omega
    · simp only [Nat.zero_div, Nat.zero_add]
theorem EAt.fld {bb : Bool} {o s : Nat} (h : EAt q σ p cs g) (hs : 0 < s) (ho : g + o ≤ cs.length) (hk : ∀ p', EAt q σ p' cs (g + o) → K p') : aFad (some (o, s, bb)) p K := by
  simp only [aFad]
  rcases h with rfl | ⟨b, j, es, frz, cap, rfl, h1, h2, h3⟩
  · exact ⟨hs, by simp; omega, hk _ (.inl (by rw [List.drop_drop]))⟩
  · exact ⟨hs, hk _ (.inr ⟨b, j, es, frz, cap, rfl, h1, h2, h3⟩)⟩
theorem EAt.load {sz : Nat} {zr : List Value} {td : TD} (h : EAt q σ p cs g) (hq : g + sz ≤ q) (hl : q ≤ cs.length) (hk : K (.agg ((cs.drop g).take sz))) : aLoad (some ⟨true, sz, zr, td⟩) σ p K := by
  rcases h with rfl | ⟨b, j, es, frz, cap, rfl, h1, h2, rfl⟩
  · simp only [aLoad, if_true]
    exact ⟨by simp; omega, hk⟩
  · simp only [aLoad, h1, if_true]
    exact ⟨trivial, h2, hq, hk⟩
theorem EAt.load1 {sz : Nat} {zr : List Value} {td : TD} (h : EAt q σ p cs g) (hq : g < q) (hl : q ≤ cs.length) (hk : K (cs.getD g (.v undef))) : aLoad (some ⟨false, sz, zr, td⟩) σ p K := by
  rcases h with rfl | ⟨b, j, es, frz, cap, rfl, h1, h2, rfl⟩
  · simp only [aLoad, Bool.false_eq_true, if_false]
    refine ⟨by simp; omega, ?_⟩
    simpa [List.getD_eq_getElem?_getD] using hk
  · simp only [aLoad, h1, Bool.false_eq_true, if_false]
    exact ⟨trivial, h2, hq, hk⟩
theorem EAt.keep (h : EAt q σ p cs g) (hs : ∀ x o, σ x = some o → σ' x = some o) : EAt q σ' p cs g := by
  rcases h with rfl | ⟨b, j, es, frz, cap, rfl, h1, h2, h3⟩
  · exact .inl rfl
  · exact .inr ⟨b, j, es, frz, cap, rfl, hs _ _ h1, h2, h3⟩
theorem LAt.look (h : LAt q σ lv es) : vlook q σ lv = some es := by
  rcases h with ⟨rfl, rfl⟩ | rfl | ⟨b, cap, rfl, hc, hb⟩
  · rfl
  · simp [Go.Av.vlook]
  · simp only [Go.Av.vlook, hb]
    rw [if_pos ⟨trivial, Nat.le_refl _, hc⟩, List.take_of_length_le (Nat.le_refl _)]
/-- Its row is let go. -/
noncomputable def St.free (σ : St) (lv : AV) : St := fun y => open Classical in if Own lv y then none else σ y
theorem free_own {x : Nat} (h : Own lv x) : St.free σ lv x = none := by unfold St.free; rw [if_pos h]
theorem free_ne {x : Nat} (h : ¬ Own lv x) : St.free σ lv x = σ x := by unfold St.free; rw [if_neg h]
theorem sv_free : SV σ (St.free σ lv) := sv_of fun x o hx => .inl (by
  by_cases h : Own lv x
  · rw [free_own h] at hx; cases hx
  · rwa [free_ne h] at hx)
theorem LAt.vw_free (h : LAt q σ lv es) : VW σ (St.free σ lv) lv (.sl q es) := h.vw_same fun x hx => free_own hx
end
end Go.Av
