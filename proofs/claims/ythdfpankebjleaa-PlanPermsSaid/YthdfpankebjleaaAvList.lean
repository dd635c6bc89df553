/-
  The program logic, part 18: a slice that the walk owns (nil, full and frozen, or a tracked row), as the list of its elements.
  Conditions: none (a library of lemmas over any program).
-/
import Derived.Test.YthdfpankebjleaaAvMore
set_option linter.unusedVariables false
set_option linter.unusedSimpArgs false
namespace Go.Av
open Go Go.RowKit

/-- The value is a slice with these elements, q cells each; nobody else writes to them. -/
def LAt (q : Nat) (σ : St) (lv : AV) (es : List (List AV)) : Prop :=
  (lv = .v (.slice none 0 0) ∧ es = []) ∨ lv = .fsl q es ∨ ∃ b cap, lv = .v (.slice (some ⟨b, 0, none⟩) es.length cap) ∧ es.length ≤ cap ∧ σ b = some (.rows q es false cap)
/-- Its row is block x. -/
def Own (lv : AV) (x : Nat) : Prop := ∃ n c, lv = .v (.slice (some ⟨x, 0, none⟩) n c)

section
variable {q : Nat} {σ σ' : St} {lv : AV} {es ys : List (List AV)} {K : AV → Prop} {k : AV → St → Prop}

theorem LAt.none : LAt q σ (.v (.slice none 0 0)) [] := .inl ⟨rfl, rfl⟩
theorem LAt.full : LAt q σ (.fsl q es) es := .inr (.inl rfl)
theorem LAt.cells (h : LAt q σ lv es) : lv.cells = [lv] := by
  rcases h with ⟨rfl, _⟩ | rfl | ⟨b, cap, rfl, _⟩ <;> rfl
theorem LAt.one (h : LAt q σ lv es) : lv.one = true := by
  rcases h with ⟨rfl, _⟩ | rfl | ⟨b, cap, rfl, _⟩ <;> rfl
theorem LAt.own_rows (h : LAt q σ lv es) {x : Nat} (ho : Own lv x) : ∃ cap, σ x = some (.rows q es false cap) := by
  obtain ⟨n, c, ho⟩ := ho
  rcases h with ⟨rfl, _⟩ | rfl | ⟨b, cap, rfl, _, hb⟩
  · cases ho
  · cases ho
  · injection ho with ho
    injection ho with ho
    injection ho with ho
    injection ho with ho
    subst ho
    exact ⟨cap, hb⟩
theorem LAt.not_own (h : LAt q σ lv es) {x : Nat} {cs : List AV} (hx : σ x = some (.cells cs)) : ¬ Own lv x := fun ho => by
  obtain ⟨c, hc⟩ := h.own_rows ho
  rw [hx] at hc
  cases hc
/-- Where its row is as it was. -/
theorem LAt.keep (h : LAt q σ lv es) (hs : ∀ x o, σ x = some o → Own lv x → σ' x = some o) : LAt q σ' lv es := by
  rcases h with ⟨rfl, he⟩ | rfl | ⟨b, cap, rfl, hc, hb⟩
  · exact .inl ⟨rfl, he⟩
  · exact .inr (.inl rfl)
  · exact .inr (.inr ⟨b, cap, rfl, hc, hs b _ hb ⟨_, _, rfl⟩⟩)
theorem LAt.len {ag : Bool} {sz eby : Nat} {zr ez : List Value} {byt : Bool} (h : LAt q σ lv es) : aLen (some ⟨ag, sz, zr, .sl q eby ez byt⟩) lv K = K (.v (.int .i64 es.length)) := by
  rcases h with ⟨rfl, rfl⟩ | rfl | ⟨b, cap, rfl, _⟩ <;> rfl

/-- Its element's address; what is loaded from it. -/
theorem LAt.iadr {ag : Bool} {sz eby : Nat} {zr ez : List Value} {byt : Bool} {ik : IntKind} {j : Int} (h : LAt q σ lv es) (h0 : 0 ≤ j) (h1 : j < es.length)
    (hk : ∀ p, (∀ (zr' : List Value) (td : TD) (K' : AV → Prop), (q ≤ (es.getD j.toNat []).length ∧ K' (.agg ((es.getD j.toNat []).take q))) → aLoad (some ⟨true, q, zr', td⟩) σ p K') → K p) : aIadr (some ⟨ag, sz, zr, .sl q eby ez byt⟩) σ lv (.v (.int ik j)) K := by
  rcases h with ⟨rfl, rfl⟩ | rfl | ⟨b, cap, rfl, hc, hb⟩
  · simp at h1; omega
  · exact ⟨rfl, h0, h1, hk _ fun zr' td K' hK => by simpa [aLoad] using hK⟩
  · refine ⟨by simp, h0, h1, hk _ fun zr' td K' hK => ?_⟩
    simp only [aLoad, hb, Nat.zero_div, Nat.zero_add, List.drop_zero, if_true, true_and, Nat.le_refl]
    exact ⟨by omega, hK.2⟩

/-- A part of it, to be appended: up to h. -/
theorem LAt.upto {ag : Bool} {sz eby : Nat} {zr ez : List Value} {byt : Bool} {ik : IntKind} {j : Int} (h : LAt q σ lv es) (h0 : 0 ≤ j) (h1 : j ≤ es.length)
    (hk : ∀ x, (∀ σ' byt', LAt q σ' lv es → src q byt' σ' x = some (es.take j.toNat)) → K x) : aSli (some ⟨ag, sz, zr, .sl q eby ez byt⟩) σ lv .none (some (.v (.int ik j))) .none K := by
  rcases h with ⟨rfl, rfl⟩ | rfl | ⟨b, cap, rfl, hc, hb⟩
  · have hj : j = 0 := by simp at h1; omega
    subst hj
    exact .inr ⟨[], rfl, 0, 0, rfl, rfl, by omega, by omega, by simp, .inl ⟨rfl, hk _ fun σ' byt' _ => by simp [src]⟩⟩
  · exact .inr ⟨es, by simp [view], 0, j, rfl, rfl, by omega, h0, h1, .inl ⟨rfl, hk _ fun σ' byt' _ => by simp [src]⟩⟩
  · refine .inl ⟨b, 0, _, cap, rfl, 0, j, cap, rfl, rfl, .inl ⟨rfl, rfl⟩, by omega, h0, by omega, by omega, ?_⟩
    have e : offAt (cap : Int).toNat (0 : Int).toNat 0 q = 0 := by simp [offAt]
    rw [e]
    refine hk _ fun σ' byt' h' => ?_
    rcases h' with ⟨h', _⟩ | h' | ⟨b', cap', h', _, hb'⟩
    · cases h'
    · cases h'
    · injection h' with h'
      injection h' with h' _ _
      injection h' with h'
      injection h' with h'
      subst h'
      simp only [src, hb']
      rw [if_pos ⟨trivial, by simp, by simp; omega⟩]
      simp
/-- A part of it, to be appended: from l on. -/
theorem LAt.from {ag : Bool} {sz eby : Nat} {zr ez : List Value} {byt : Bool} {ik : IntKind} {j : Int} (h : LAt q σ lv es) (hq : 0 < q) (h0 : 0 ≤ j) (h1 : j ≤ es.length)
    (hk : ∀ x, (∀ σ' byt', LAt q σ' lv es → src q byt' σ' x = some (es.drop j.toNat)) → K x) : aSli (some ⟨ag, sz, zr, .sl q eby ez byt⟩) σ lv (some (.v (.int ik j))) .none .none K := by
  rcases h with ⟨rfl, rfl⟩ | rfl | ⟨b, cap, rfl, hc, hb⟩
  · have hj : j = 0 := by simp at h1; omega
    subst hj
    exact .inr ⟨[], rfl, 0, 0, rfl, rfl, by omega, by omega, by simp, .inl ⟨rfl, hk _ fun σ' byt' _ => by simp [src]⟩⟩
  · exact .inr ⟨es, by simp [view], j, es.length, rfl, rfl, h0, h1, by omega, .inl ⟨rfl, hk _ fun σ' byt' _ => by simp [src]⟩⟩
  · refine .inl ⟨b, 0, _, cap, rfl, j, es.length, cap, rfl, rfl, .inl ⟨rfl, rfl⟩, h0, h1, by omega, by omega, ?_⟩
    simp only [Int.toNat_natCast]
    refine hk _ fun σ' byt' h' => ?_
    rcases h' with ⟨h', _⟩ | h' | ⟨b', cap', h', _, hb'⟩
    · cases h'
    · cases h'
    · injection h' with h'
      injection h' with h' _ _
      injection h' with h'
      injection h' with h'
      subst h'
      simp only [src, hb']
      unfold offAt
      split
      · rename_i hm
        have : j.toNat = es.length := by omega
        rw [if_pos ⟨trivial, by simp, by simp⟩]
        simp [this]
      · rw [if_pos ⟨trivial, by simp, by simp [hq]; omega⟩]
        simp only [Nat.zero_add]
        rw [Nat.mul_div_cancel _ hq, List.take_of_length_le (by simp)]

/-- More behind it. -/
theorem LAt.app {eby : Nat} (h : LAt q σ lv es) (hb : (es.length + ys.length) * eby ≤ 140737488355328)
    (hk : ∀ lv' σ', LAt q σ' lv' (es ++ ys) → (∀ x o, σ x = some o → ¬ Own lv x → σ' x = some o ∧ ¬ Own lv' x) → k lv' σ') : aAppTo q eby ys σ lv k := by
  rcases h with ⟨rfl, rfl⟩ | rfl | ⟨b, cap, rfl, hc, hbr⟩
  · refine ⟨fun e => ?_, fun e => ⟨by simpa using hb, fun b cap hb0 hle => ?_⟩⟩
    · subst e
      exact hk _ _ (.inl ⟨rfl, rfl⟩) fun x o hx hn => ⟨hx, hn⟩
    · refine hk _ _ (.inr (.inr ⟨b, cap, by simp, by simpa using hle, by rw [set_same]; simp⟩)) fun x o hx hn => ?_
      have hne : x ≠ b := fun e => by subst e; rw [hb0] at hx; cases hx
      refine ⟨by rw [set_ne hne]; exact hx, fun ⟨n, c, ho⟩ => ?_⟩
      injection ho with ho
      injection ho with ho _ _
      injection ho with ho
      injection ho with ho
      exact hne ho.symm
  · refine ⟨rfl, fun e => ?_, fun e => ⟨hb, fun b cap hb0 hle => ?_⟩⟩
    · subst e
      rw [← List.append_nil es]
      exact hk _ _ (by rw [List.append_nil]; exact .inr (.inl rfl)) fun x o hx hn => ⟨hx, fun ⟨n, c, ho⟩ => by cases ho⟩
    · refine hk _ _ (.inr (.inr ⟨b, cap, by simp, by simpa using hle, by rw [set_same]⟩)) fun x o hx hn => ?_
      have hne : x ≠ b := fun e => by subst e; rw [hb0] at hx; cases hx
      refine ⟨by rw [set_ne hne]; exact hx, fun ⟨n, c, ho⟩ => ?_⟩
      injection ho with ho
      injection ho with ho _ _
      injection ho with ho
      injection ho with ho
      exact hne ho.symm
  · refine .inr (.inl ⟨rfl, ?_⟩)
    simp only [hbr]
    refine ⟨trivial, trivial, trivial, hb, fun b' cap' hb0 hle => ?_⟩
    refine hk _ _ (.inr (.inr ⟨b', cap', by simp, by simpa using hle, by rw [set_same]⟩)) fun x o hx hn => ?_
    have hnb : x ≠ b := fun e => by subst e; exact hn ⟨_, _, rfl⟩
    have hdel : (σ.del b) x = some o := by simp [St.del, hnb, hx]
    have hne : x ≠ b' := fun e => by subst e; rw [hb0] at hdel; cases hdel
    refine ⟨by rw [set_ne hne]; exact hdel, fun ⟨n, c, ho⟩ => ?_⟩
    injection ho with ho
    injection ho with ho _ _
    injection ho with ho
    injection ho with ho
    exact hne ho.symm
/-- Some more behind it: a row. -/
theorem LAt.app_row {eby : Nat} (h : LAt q σ lv es) (hy : ys ≠ []) (hb : (es.length + ys.length) * eby ≤ 140737488355328)
    (hk : ∀ b cap σ', es.length + ys.length ≤ cap → σ' b = some (.rows q (es ++ ys) false cap) → (∀ x o, σ x = some o → ¬ Own lv x → σ' x = some o ∧ x ≠ b) → k (.v (.slice (some ⟨b, 0, Option.none⟩) (es.length + ys.length) cap)) σ') : aAppTo q eby ys σ lv k := by
  rcases h with ⟨rfl, rfl⟩ | rfl | ⟨b, cap, rfl, hc, hbr⟩
  · refine ⟨fun e => absurd e hy, fun e => ⟨by simpa using hb, fun b cap hb0 hle => ?_⟩⟩
    have := hk b cap (σ.set b (.rows q ys false cap)) (by simpa using hle) (by rw [set_same]; simp) fun x o hx hn => ?_
    · simpa using this
    · have hne : x ≠ b := fun e => by subst e; rw [hb0] at hx; cases hx
      exact ⟨by rw [set_ne hne]; exact hx, hne⟩
  · refine ⟨rfl, fun e => absurd e hy, fun e => ⟨hb, fun b cap hb0 hle => ?_⟩⟩
    refine hk b cap _ hle set_same fun x o hx hn => ?_
    have hne : x ≠ b := fun e => by subst e; rw [hb0] at hx; cases hx
    exact ⟨by rw [set_ne hne]; exact hx, hne⟩
  · refine .inr (.inl ⟨rfl, ?_⟩)
    simp only [hbr]
    refine ⟨trivial, trivial, trivial, hb, fun b' cap' hb0 hle => ?_⟩
    refine hk b' cap' _ hle set_same fun x o hx hn => ?_
    have hnb : x ≠ b := fun e => by subst e; exact hn ⟨_, _, rfl⟩
    have hdel : (σ.del b) x = some o := by simp [St.del, hnb, hx]
    have hne : x ≠ b' := fun e => by subst e; rw [hb0] at hdel; cases hdel
    exact ⟨by rw [set_ne hne]; exact hdel, hne⟩
theorem aApp_by {ag : Bool} {sz eby : Nat} {zr ez : List Value} {byt : Bool} {s x : AV} (hs : src q byt σ x = some ys) (hq : 0 < q) (he : 0 < eby) (hz : ez.all Value.oneCell' = true) (h : aAppTo q eby ys σ s k) : aApp (some ⟨ag, sz, zr, .sl q eby ez byt⟩) σ s x k :=
  ⟨hq, he, hz, ys, hs, h⟩
/-- Parts of a slice that is seen as its elements. -/
theorem sli_full {ag : Bool} {sz eby : Nat} {zr ez : List Value} {byt : Bool} {ik ik' : IntKind} {j : Int} (hj : j = es.length) (hk : K (.fsl q es)) : aSli (some ⟨ag, sz, zr, .sl q eby ez byt⟩) σ (.sl q es) .none (some (.v (.int ik j))) (some (.v (.int ik' j))) K := by
  subst hj
  refine .inr ⟨es, by simp [view], 0, es.length, rfl, rfl, by omega, by omega, by omega, .inr ⟨by simp, by simp, rfl, by simpa using hk⟩⟩
theorem sli_upto {ag : Bool} {sz eby : Nat} {zr ez : List Value} {byt : Bool} {ik : IntKind} {j : Int} (h0 : 0 ≤ j) (h1 : j ≤ es.length) (hk : K (.sl q (es.take j.toNat))) : aSli (some ⟨ag, sz, zr, .sl q eby ez byt⟩) σ (.sl q es) .none (some (.v (.int ik j))) .none K :=
  .inr ⟨es, by simp [view], 0, j, rfl, rfl, by omega, h0, h1, .inl ⟨rfl, by simpa using hk⟩⟩
theorem sli_from {ag : Bool} {sz eby : Nat} {zr ez : List Value} {byt : Bool} {ik : IntKind} {j : Int} (h0 : 0 ≤ j) (h1 : j ≤ es.length) (hk : K (.sl q (es.drop j.toNat))) : aSli (some ⟨ag, sz, zr, .sl q eby ez byt⟩) σ (.sl q es) (some (.v (.int ik j))) .none .none K :=
  .inr ⟨es, by simp [view], j, es.length, rfl, rfl, h0, h1, by omega, .inl ⟨rfl, by simpa using hk⟩⟩
end
end Go.Av
