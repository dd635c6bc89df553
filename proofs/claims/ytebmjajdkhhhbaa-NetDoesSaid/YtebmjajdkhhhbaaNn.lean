/-
  NetDoes: the walk.
  Conditions: none.
-/
import Derived.Test.YtebmjajdkhhhbaaNm
set_option linter.unusedVariables false
set_option linter.unusedSimpArgs false
namespace Go.Proofs.Ytebmjajdkhhhbaa
open Go Go.Av

/-- Both nets. -/
structure Both (p q : Nat) (lv : AV) (s : Ns) (σ : St) : Prop where
  n : σ p = some s.O
  r : Rf q lv σ s
  ne : p ≠ q
  ok : s.Ok
theorem Both.nown {p q : Nat} {lv : AV} {s : Ns} {σ : St} (h : Both p q lv s σ) : ¬ Own lv p := h.r.l.not_own h.n
theorem Both.new {p q c : Nat} {lv : AV} {s : Ns} {σ : St} {o : AObj} (h : Both p q lv s σ) (hc : σ c = none) : Both p q lv s (σ.set c o) :=
  ⟨set_sub hc (fun _ _ h => h) _ _ h.n, ⟨set_sub hc (fun _ _ h => h) _ _ h.r.ob, h.r.l.new hc⟩, h.ne, h.ok⟩
/-- Both do the same. -/
theorem Both.step {p q : Nat} {lv lv' : AV} {s s' : Ns} {σ σ' : St} (h : Both p q lv s σ) (ho : s'.Ok) (hr : Rf q lv' σ' s') (hf : Fm q lv lv' (σ.set p s'.O) σ') : Both p q lv' s' σ' :=
  ⟨(hf _ _ set_same h.ne h.nown).1, hr, h.ne, ho⟩
theorem Both.rset {p q : Nat} {lv : AV} {s s' : Ns} {σ : St} (h : Both p q lv s σ) : Rf q lv (σ.set p s'.O) s :=
  ⟨by rw [set_ne h.ne.symm]; exact h.r.ob, h.r.l.keep fun y o hy hw => by rw [set_ne (by rintro rfl; exact h.nown hw)]; exact hy⟩

theorem Both.oth {p q x : Nat} {lv : AV} {s : Ns} {σ : St} {o : AObj} (h : Both p q lv s σ) (h1 : p ≠ x) (h2 : q ≠ x) (h3 : ¬ Own lv x) : Both p q lv s (σ.set x o) :=
  ⟨by rw [set_ne h1]; exact h.n, ⟨by rw [set_ne h2]; exact h.r.ob, h.r.l.keep fun y o hy hw => by rw [set_ne (by rintro rfl; exact h3 hw)]; exact hy⟩, h.ne, h.ok⟩

/-- Bytes, copied behind nothing. -/
theorem fresh_app {eby q : Nat} {ys : List (List AV)} {σ : St} {k : AV → St → Prop} (hb : ys.length * eby ≤ 140737488355328)
    (hk : ∀ lv' σ', LAt q σ' lv' ys → (∀ x o, σ x = some o → σ' x = some o ∧ ¬ Own lv' x) → (ys ≠ [] → ∃ b cap, lv' = .v (.slice (some ⟨b, 0, none⟩) ys.length cap)) → k lv' σ') : aAppTo q eby ys σ (.fsl q []) k := by
  have hno : ∀ x, ¬ Own (.fsl q []) x := fun x ⟨n, c, e⟩ => by cases e
  by_cases he : ys = []
  · subst he
    exact LAt.full.app (by simp) fun lv' σ' h1 h2 => hk lv' σ' (by simpa using h1) (fun x o hx => h2 x o hx (hno x)) fun h => absurd rfl h
  · refine LAt.full.app_row he (by simpa using hb) fun b cap σ' h1 h2 h3 => ?_
    have := hk (.v (.slice (some ⟨b, 0, none⟩) ys.length cap)) σ' (.inr (.inr ⟨b, cap, rfl, by simpa using h1, by simpa using h2⟩)) (fun x o hx => ⟨(h3 x o hx (hno x)).1, fun hw => (h3 x o hx (hno x)).2 (own_v hw)⟩) fun _ => ⟨b, cap, rfl⟩
    simp only [List.length_nil, Nat.zero_add]
    exact this

section
variable {σ σ' : St} {p q : Nat} {lv : AV} {s : Ns}
set_option maxRecDepth 100000
set_option maxHeartbeats 1000000

theorem does_at (l : List Ac) (hx : ∀ a ∈ l, a.Ok) : AT Try.prog 7 [.sl 4 (l.map Ac.cs)] (fun _ => none) fun r _ => r = boo true := by
  refine AT.of_body Try.func7 rfl (by decide) (by kernel_rfl) (by kernel_rfl) (Nat.le_of_ble_eq_true rfl) ?_
  simp only [go_sem, r_block, reduceIte, Nat.reduceEqDiff, Nat.reduceAdd, Nat.reduceMul, Nat.reduceSub, Nat.reduceLT, Nat.reduceLeDiff, Nat.le_refl, Nat.zero_le, Nat.zero_add, Nat.add_zero, Nat.mul_one, splice_zero, Int.toNat_natCast, Int.natCast_nonneg, Int.reduceLE, Int.reduceLT, Int.reduceToNat, Int.reduceEq, Int.cast_ofNat_Int, ne_eq, not_true_eq_false, not_false_eq_true, imp_self, implies_true, true_implies, false_implies, and_self, List.length_map, List.length_drop]
  refine (light_at l hx).mono ?_
  rintro _ _ ⟨⟨b, rfl, hb⟩, rfl⟩
  simp only [go_sem, r_block, reduceIte, Nat.reduceEqDiff, Nat.reduceAdd, Nat.reduceMul, Nat.reduceSub, Nat.reduceLT, Nat.reduceLeDiff, Nat.le_refl, Nat.zero_le, Nat.zero_add, Nat.add_zero, Nat.mul_one, splice_zero, Int.toNat_natCast, Int.natCast_nonneg, Int.reduceLE, Int.reduceLT, Int.reduceToNat, Int.reduceEq, Int.cast_ofNat_Int, ne_eq, not_true_eq_false, not_false_eq_true, imp_self, implies_true, true_implies, false_implies, and_self, List.length_map, List.length_drop]
  refine aIf_bool (fun h => ?_) (fun h => ?_)
  rotate_left
  · simp only [go_sem, r_block, reduceIte, Nat.reduceEqDiff, Nat.reduceAdd, Nat.reduceMul, Nat.reduceSub, Nat.reduceLT, Nat.reduceLeDiff, Nat.le_refl, Nat.zero_le, Nat.zero_add, Nat.add_zero, Nat.mul_one, splice_zero, Int.toNat_natCast, Int.natCast_nonneg, Int.reduceLE, Int.reduceLT, Int.reduceToNat, Int.reduceEq, Int.cast_ofNat_Int, ne_eq, not_true_eq_false, not_false_eq_true, imp_self, implies_true, true_implies, false_implies, and_self, List.length_map, List.length_drop]
    refine live_at.mono ?_
    rintro _ _ ⟨rfl, rfl⟩
    simp only [go_sem, r_block, reduceIte, Nat.reduceEqDiff, Nat.reduceAdd, Nat.reduceMul, Nat.reduceSub, Nat.reduceLT, Nat.reduceLeDiff, Nat.le_refl, Nat.zero_le, Nat.zero_add, Nat.add_zero, Nat.mul_one, splice_zero, Int.toNat_natCast, Int.natCast_nonneg, Int.reduceLE, Int.reduceLT, Int.reduceToNat, Int.reduceEq, Int.cast_ofNat_Int, ne_eq, not_true_eq_false, not_false_eq_true, imp_self, implies_true, true_implies, false_implies, and_self, List.length_map, List.length_drop]
    exact aRet_as (r := boo true) rfl rfl
  have hl := hb h
  simp only [go_sem, reduceIte, Nat.reduceEqDiff, Nat.reduceAdd, Nat.reduceMul, Nat.reduceSub, Nat.reduceLT, Nat.reduceLeDiff, Nat.le_refl, Nat.zero_le, Nat.zero_add, Nat.add_zero, Nat.mul_one, splice_zero, Int.toNat_natCast, Int.natCast_nonneg, Int.reduceLE, Int.reduceLT, Int.reduceToNat, Int.reduceEq, Int.cast_ofNat_Int, ne_eq, not_true_eq_false, not_false_eq_true, imp_self, implies_true, true_implies, false_implies, and_self, List.length_map, List.length_drop]
  refine new_at.mono ?_
  rintro _ _ ⟨p, hp, rfl, rfl⟩
  simp only [go_sem, reduceIte, Nat.reduceEqDiff, Nat.reduceAdd, Nat.reduceMul, Nat.reduceSub, Nat.reduceLT, Nat.reduceLeDiff, Nat.le_refl, Nat.zero_le, Nat.zero_add, Nat.add_zero, Nat.mul_one, splice_zero, Int.toNat_natCast, Int.natCast_nonneg, Int.reduceLE, Int.reduceLT, Int.reduceToNat, Int.reduceEq, Int.cast_ofNat_Int, ne_eq, not_true_eq_false, not_false_eq_true, imp_self, implies_true, true_implies, false_implies, and_self, List.length_map, List.length_drop]
  refine aNew_intro fun q hq hqm => ?_
  have hpq := hqm _ _ set_same
  have hB : Both p q nilS ⟨[], 0⟩ ((St.set (fun _ => none) p (nO [] 0)).set q (.cells [nilS, int 0])) :=
    ⟨by rw [set_ne hpq, set_same]; rfl, ⟨set_same, .none⟩, hpq, ok0⟩
  simp only [go_sem, reduceIte, Nat.reduceEqDiff, Nat.reduceAdd, Nat.reduceMul, Nat.reduceSub, Nat.reduceLT, Nat.reduceLeDiff, Nat.le_refl, Nat.zero_le, Nat.zero_add, Nat.add_zero, Nat.mul_one, splice_zero, Int.toNat_natCast, Int.natCast_nonneg, Int.reduceLE, Int.reduceLT, Int.reduceToNat, Int.reduceEq, Int.cast_ofNat_Int, ne_eq, not_true_eq_false, not_false_eq_true, imp_self, implies_true, true_implies, false_implies, and_self, List.length_map, List.length_drop]
  revert hB
  generalize (St.set (fun _ => none) p (nO [] 0)).set q (.cells [nilS, int 0]) = σ1
  intro hB
  clear hqm hpq hq hp
  refine aMeet (fun fr σ => True) ?_ ?_
  · simp only [go_sem, r_block, reduceIte, Nat.reduceEqDiff, Nat.reduceAdd, Nat.reduceMul, Nat.reduceSub, Nat.reduceLT, Nat.reduceLeDiff, Nat.le_refl, Nat.zero_le, Nat.zero_add, Nat.add_zero, Nat.mul_one, splice_zero, Int.toNat_natCast, Int.natCast_nonneg, Int.reduceLE, Int.reduceLT, Int.reduceToNat, Int.reduceEq, Int.cast_ofNat_Int, ne_eq, not_true_eq_false, not_false_eq_true, imp_self, implies_true, true_implies, false_implies, and_self, List.length_map, List.length_drop]
    refine ⟨fun m fr σ => ∃ (i p : Nat) (lv : AV) (s : Ns), m = l.length - i ∧ i ≤ l.length ∧ s.last ≤ i ∧ fr 0 = .sl 4 (l.map Ac.cs) ∧ fr 3 = ptr p ∧ fr 4 = ptr q ∧ fr 5 = int i ∧ Both p q lv s σ, ⟨_, 0, p, nilS, ⟨[], 0⟩, rfl, by omega, by exact Nat.le_refl 0, rfl, rfl, rfl, rfl, hB⟩, ?_⟩
    clear hB
    rintro m fr σ ⟨i, p, lv, s, rfl, h1, h2, f0, f3, f4, f5, hB⟩
    simp only [go_sem, f0, f3, f4, f5, reduceIte, Nat.reduceEqDiff, Nat.reduceAdd, Nat.reduceMul, Nat.reduceSub, Nat.reduceLT, Nat.reduceLeDiff, Nat.le_refl, Nat.zero_le, Nat.zero_add, Nat.add_zero, Nat.mul_one, splice_zero, Int.toNat_natCast, Int.natCast_nonneg, Int.reduceLE, Int.reduceLT, Int.reduceToNat, Int.reduceEq, Int.cast_ofNat_Int, ne_eq, not_true_eq_false, not_false_eq_true, imp_self, implies_true, true_implies, false_implies, and_self, List.length_map, List.length_drop]
    refine aIf_by (fun hlt => ?_) (fun hlt => ?_)
    · have hil : i < l.length := by omega
      have eg := acs_get hil
      have hla : s.last < 1000000000 := by omega
      generalize hga : l[i] = a at eg
      simp only [go_sem, f0, f3, f4, f5, reduceIte, Nat.reduceEqDiff, Nat.reduceAdd, Nat.reduceMul, Nat.reduceSub, Nat.reduceLT, Nat.reduceLeDiff, Nat.le_refl, Nat.zero_le, Nat.zero_add, Nat.add_zero, Nat.mul_one, splice_zero, Int.toNat_natCast, Int.natCast_nonneg, Int.reduceLE, Int.reduceLT, Int.reduceToNat, Int.reduceEq, Int.cast_ofNat_Int, ne_eq, not_true_eq_false, not_false_eq_true, imp_self, implies_true, true_implies, false_implies, and_self, List.length_map, List.length_drop]
      refine aMeet (fun fr σ => ∃ (p : Nat) (lv : AV) (s : Ns), s.last ≤ i + 1 ∧ fr 0 = .sl 4 (l.map Ac.cs) ∧ fr 3 = ptr p ∧ fr 4 = ptr q ∧ fr 5 = int i ∧ Both p q lv s σ) ?_ ?_
      · rw [r_block]
        simp only [go_sem, f0, f3, f4, f5, eg, Ac.len, Ac.take, reduceIte, Nat.reduceEqDiff, Nat.reduceAdd, Nat.reduceMul, Nat.reduceSub, Nat.reduceLT, Nat.reduceLeDiff, Nat.le_refl, Nat.zero_le, Nat.zero_add, Nat.add_zero, Nat.mul_one, splice_zero, Int.toNat_natCast, Int.natCast_nonneg, Int.reduceLE, Int.reduceLT, Int.reduceToNat, Int.reduceEq, Int.cast_ofNat_Int, ne_eq, not_true_eq_false, not_false_eq_true, imp_self, implies_true, true_implies, false_implies, and_self, List.length_map, List.length_drop]
        refine ⟨hlt, aNew_intro fun c hc hcm => ?_⟩
        simp only [go_sem, Ac.len, Ac.one, reduceIte, Nat.reduceEqDiff, Nat.reduceAdd, Nat.reduceMul, Nat.reduceSub, Nat.reduceLT, Nat.reduceLeDiff, Nat.le_refl, Nat.zero_le, Nat.zero_add, Nat.add_zero, Nat.mul_one, splice_zero, Int.toNat_natCast, Int.natCast_nonneg, Int.reduceLE, Int.reduceLT, Int.reduceToNat, Int.reduceEq, Int.cast_ofNat_Int, ne_eq, not_true_eq_false, not_false_eq_true, imp_self, implies_true, true_implies, false_implies, and_self, List.length_map, List.length_drop]
        have hB2 := hB.new (o := .cells a.cs) hc
        have c2 : (σ.set c (.cells a.cs)) c = some (.cells a.cs) := set_same
        have hcp := hcm _ _ hB.n
        have hcq := hcm _ _ hB.r.ob
        have hcw : ¬ Own lv c := hB2.r.l.not_own c2
        revert hB2 c2
        generalize σ.set c (.cells a.cs) = σ2
        intro hB2 c2
        clear hB hc hcm
        simp only [go_sem, c2, Ac.len, Ac.at0, reduceIte, Nat.reduceEqDiff, Nat.reduceAdd, Nat.reduceMul, Nat.reduceSub, Nat.reduceLT, Nat.reduceLeDiff, Nat.le_refl, Nat.zero_le, Nat.zero_add, Nat.add_zero, Nat.mul_one, splice_zero, Int.toNat_natCast, Int.natCast_nonneg, Int.reduceLE, Int.reduceLT, Int.reduceToNat, Int.reduceEq, Int.cast_ofNat_Int, ne_eq, not_true_eq_false, not_false_eq_true, imp_self, implies_true, true_implies, false_implies, and_self, List.length_map, List.length_drop]
        refine aMeet (fun fr σ => ∃ (p : Nat) (lv : AV) (s : Ns), s.last ≤ i + 1 ∧ fr 0 = .sl 4 (l.map Ac.cs) ∧ fr 3 = ptr p ∧ fr 4 = ptr q ∧ fr 5 = int i ∧ fr 7 = boo true ∧ Both p q lv s σ) ?_ ?_
        · simp only [go_sem, r_block, f0, f3, f4, f5, reduceIte, Nat.reduceEqDiff, Nat.reduceAdd, Nat.reduceMul, Nat.reduceSub, Nat.reduceLT, Nat.reduceLeDiff, Nat.le_refl, Nat.zero_le, Nat.zero_add, Nat.add_zero, Nat.mul_one, splice_zero, Int.toNat_natCast, Int.natCast_nonneg, Int.reduceLE, Int.reduceLT, Int.reduceToNat, Int.reduceEq, Int.cast_ofNat_Int, ne_eq, not_true_eq_false, not_false_eq_true, imp_self, implies_true, true_implies, false_implies, and_self, List.length_map, List.length_drop]
          refine aIf_by (fun k0 => ?_) (fun k0 => ?_)
          · simp only [go_sem, r_block, c2, f3, f4, Ac.len, Ac.at2, Ac.dr2, reduceIte, Nat.reduceEqDiff, Nat.reduceAdd, Nat.reduceMul, Nat.reduceSub, Nat.reduceLT, Nat.reduceLeDiff, Nat.le_refl, Nat.zero_le, Nat.zero_add, Nat.add_zero, Nat.mul_one, splice_zero, Int.toNat_natCast, Int.natCast_nonneg, Int.reduceLE, Int.reduceLT, Int.reduceToNat, Int.reduceEq, Int.cast_ofNat_Int, ne_eq, not_true_eq_false, not_false_eq_true, imp_self, implies_true, true_implies, false_implies, and_self, List.length_map, List.length_drop]
            refine aApp_by (src_sl (es := byC a.b)) (by decide) (by decide) (by decide) (fresh_app (by simp [byC_len]; have := (hx a (hga ▸ List.getElem_mem hil)).2; omega) fun bv σ3 hb3 hs3 hrow => ?_)
            have hB3 : Both p q lv s σ3 := ⟨(hs3 _ _ hB2.n).1, ⟨(hs3 _ _ hB2.r.ob).1, hB2.r.l.keep fun y o hy hw => (hs3 _ _ hy).1⟩, hB2.ne, hB2.ok⟩
            have c3 := (hs3 _ _ c2).1
            have bnp := (hs3 _ _ hB2.n).2
            have bnq := (hs3 _ _ hB2.r.ob).2
            have bnl : ∀ x, Own bv x → ¬ Own lv x := fun x h1 h2 => by
              obtain ⟨cap, hc⟩ := hB2.r.l.own_rows h2
              exact (hs3 _ _ hc).2 h1
            simp only [go_sem, r_block, f0, f3, f4, f5, c3, Ac.len, Ac.at1, Ac.dr1, reduceIte, Nat.reduceEqDiff, Nat.reduceAdd, Nat.reduceMul, Nat.reduceSub, Nat.reduceLT, Nat.reduceLeDiff, Nat.le_refl, Nat.zero_le, Nat.zero_add, Nat.add_zero, Nat.mul_one, splice_zero, Int.toNat_natCast, Int.natCast_nonneg, Int.reduceLE, Int.reduceLT, Int.reduceToNat, Int.reduceEq, Int.cast_ofNat_Int, ne_eq, not_true_eq_false, not_false_eq_true, imp_self, implies_true, true_implies, false_implies, and_self, List.length_map, List.length_drop]
            refine (send_at hB3.n hB3.ok a.to (.inr hb3)).mono ?_
            rintro _ _ ⟨rfl, rfl⟩
            have c4 : (σ3.set p (s.send a.to a.b).2.O) c = some (.cells a.cs) := by rw [set_ne hcp.symm]; exact c3
            have hb4 : LAt 1 (σ3.set p (s.send a.to a.b).2.O) bv (byC a.b) := hb3.keep fun y o hy hw => by rw [set_ne (by rintro rfl; exact bnp hw)]; exact hy
            simp only [go_sem, r_block, f0, f3, f4, f5, c4, Ac.len, Ac.at1, Ac.dr1, Ac.at2, Ac.dr2, reduceIte, Nat.reduceEqDiff, Nat.reduceAdd, Nat.reduceMul, Nat.reduceSub, Nat.reduceLT, Nat.reduceLeDiff, Nat.le_refl, Nat.zero_le, Nat.zero_add, Nat.add_zero, Nat.mul_one, splice_zero, Int.toNat_natCast, Int.natCast_nonneg, Int.reduceLE, Int.reduceLT, Int.reduceToNat, Int.reduceEq, Int.cast_ofNat_Int, ne_eq, not_true_eq_false, not_false_eq_true, imp_self, implies_true, true_implies, false_implies, and_self, List.length_map, List.length_drop]
            refine (rsend_at hB3.rset hB3.ok a.to a.b).mono ?_
            rintro _ σ4 ⟨rfl, lv4, hr4, hf4⟩
            have hB5 : Both p q lv4 (s.send a.to a.b).2 σ4 := hB3.step (hB3.ok.send _ _ hla) hr4 hf4
            have hb5 : LAt 1 σ4 bv (byC a.b) := hb4.keep fun y o hy hw => (hf4 y o hy (by rintro rfl; exact bnq hw) (bnl y hw)).1
            have bn5 : ∀ x, Own bv x → ¬ Own lv4 x := fun x h1 => by
              obtain ⟨cap, hc⟩ := hb4.own_rows h1
              exact (hf4 x _ hc (by rintro rfl; exact bnq h1) (bnl x h1)).2
            have hl5 := send_last s a.to a.b
            have hok5 := hB5.ok
            generalize hs5 : (s.send a.to a.b).2 = s5 at hB5 hl5
            generalize (s.send a.to a.b).1.1 = v1
            generalize (s.send a.to a.b).1.2 = v2
            clear hb4 c4 hf4 hr4 hB3 c3 hb3 hs3 bnl
            simp only [go_sem, reduceIte, Nat.reduceEqDiff, Nat.reduceAdd, Nat.reduceMul, Nat.reduceSub, Nat.reduceLT, Nat.reduceLeDiff, Nat.le_refl, Nat.zero_le, Nat.zero_add, Nat.add_zero, Nat.mul_one, splice_zero, Int.toNat_natCast, Int.natCast_nonneg, Int.reduceLE, Int.reduceLT, Int.reduceToNat, Int.reduceEq, Int.cast_ofNat_Int, ne_eq, not_true_eq_false, not_false_eq_true, imp_self, implies_true, true_implies, false_implies, and_self, List.length_map, List.length_drop]
            refine aMeet (fun fr σ => fr 0 = .sl 4 (l.map Ac.cs) ∧ fr 3 = ptr p ∧ fr 4 = ptr q ∧ fr 5 = int i ∧ fr 9 = int v1 ∧ fr 10 = int v2 ∧ fr 11 = int v1 ∧ fr 12 = int v2 ∧ Both p q lv4 s5 σ) ?_ ?_
            · simp only [go_sem, r_block, reduceIte, Nat.reduceEqDiff, Nat.reduceAdd, Nat.reduceMul, Nat.reduceSub, Nat.reduceLT, Nat.reduceLeDiff, Nat.le_refl, Nat.zero_le, Nat.zero_add, Nat.add_zero, Nat.mul_one, splice_zero, Int.toNat_natCast, Int.natCast_nonneg, Int.reduceLE, Int.reduceLT, Int.reduceToNat, Int.reduceEq, Int.cast_ofNat_Int, ne_eq, not_true_eq_false, not_false_eq_true, imp_self, implies_true, true_implies, false_implies, and_self, List.length_map, List.length_drop]
              have hrow2 : a.b ≠ [] → ∃ bb cap, bv = .v (.slice (some ⟨bb, 0, none⟩) a.b.length cap) ∧ a.b.length ≤ cap ∧ σ4 bb = some (.rows 1 (byC a.b) false cap) := fun hne => by
                obtain ⟨bb, cap, e⟩ := hrow (by intro e; exact hne (by simpa [byC] using e))
                rw [byC_len] at e
                rcases hb5 with ⟨h, _⟩ | h | ⟨b2, cap2, h, h4, h5⟩
                · rw [e] at h; cases h
                · rw [e] at h; cases h
                · rw [e] at h
                  injection h with h
                  injection h with h e1 e2
                  injection h with h
                  injection h with h
                  subst h; subst e2
                  exact ⟨bb, cap, e, by rw [byC_len] at h4; exact h4, h5⟩
              have hlb := fun {ag sz eby zr ez byt} K => hb5.len (ag := ag) (sz := sz) (eby := eby) (zr := zr) (ez := ez) (byt := byt) (K := K)
              have hbl := (hx a (hga ▸ List.getElem_mem hil)).2
              refine ⟨fun m fr σ => ∃ k : Nat, m = a.b.length - k ∧ k ≤ a.b.length ∧ fr 0 = .sl 4 (l.map Ac.cs) ∧ fr 3 = ptr p ∧ fr 4 = ptr q ∧ fr 5 = int i ∧ fr 8 = bv ∧ fr 9 = int v1 ∧ fr 10 = int v2 ∧ fr 11 = int v1 ∧ fr 12 = int v2 ∧ fr 13 = int k ∧ Both p q lv4 s5 σ ∧
                (a.b ≠ [] → ∃ bb cap es, bv = .v (.slice (some ⟨bb, 0, none⟩) a.b.length cap) ∧ a.b.length ≤ cap ∧ σ bb = some (.rows 1 es false cap) ∧ es.length = a.b.length ∧ es.all isByte = true), ⟨_, 0, rfl, by omega, f0, f3, f4, f5, rfl, rfl, rfl, rfl, rfl, rfl, hB5, fun hne => ?_⟩, ?_⟩
              · obtain ⟨bb, cap, h1, h2, h3⟩ := hrow2 hne
                exact ⟨bb, cap, byC a.b, h1, h2, h3, byC_len _, isB _⟩
              clear hrow2 hb5 hB5
              rintro m fr σ5 ⟨k, rfl, hk, f0, f3, f4, f5, f8, f9, f10, f11, f12, f13, hB5, hrow3⟩
              simp only [go_sem, f0, f3, f4, f5, f8, f13, hlb, byC_len, reduceIte, Nat.reduceEqDiff, Nat.reduceAdd, Nat.reduceMul, Nat.reduceSub, Nat.reduceLT, Nat.reduceLeDiff, Nat.le_refl, Nat.zero_le, Nat.zero_add, Nat.add_zero, Nat.mul_one, splice_zero, Int.toNat_natCast, Int.natCast_nonneg, Int.reduceLE, Int.reduceLT, Int.reduceToNat, Int.reduceEq, Int.cast_ofNat_Int, ne_eq, not_true_eq_false, not_false_eq_true, imp_self, implies_true, true_implies, false_implies, and_self, List.length_map, List.length_drop]
              refine aIf_by (fun hkl => ?_) (fun hkl => ?_)
              · obtain ⟨bb, cap, es, hbv, hcap, hrw, hes, hby⟩ := hrow3 (by intro e; rw [e] at hkl; simp at hkl; omega)
                have hob : Own bv bb := ⟨_, _, hbv⟩
                have hbp : bb ≠ p := by rintro rfl; exact bnp hob
                have hbq : bb ≠ q := by rintro rfl; exact bnq hob
                have hblv := bn5 bb hob
                have hke : k < es.length := by omega
                obtain ⟨x, hx1⟩ : ∃ x, es.getD k [] = [.v (.int .u8 x)] := by
                  have h1 := List.all_eq_true.1 hby es[k] (List.getElem_mem _)
                  have h2 : es.getD k [] = es[k] := by simp [List.getD_eq_getElem?_getD, hke]
                  rw [h2]
                  unfold isByte at h1
                  split at h1
                  · exact ⟨_, by assumption⟩
                  · cases h1
                simp only [go_sem, r_block, f0, f3, f4, f5, f8, f13, hbv, hrw, hx1, reduceIte, Nat.reduceEqDiff, Nat.reduceAdd, Nat.reduceMul, Nat.reduceSub, Nat.reduceLT, Nat.reduceLeDiff, Nat.le_refl, Nat.zero_le, Nat.zero_add, Nat.add_zero, Nat.mul_one, splice_zero, Int.toNat_natCast, Int.natCast_nonneg, Int.reduceLE, Int.reduceLT, Int.reduceToNat, Int.reduceEq, Int.cast_ofNat_Int, ne_eq, not_true_eq_false, not_false_eq_true, imp_self, implies_true, true_implies, false_implies, and_self, List.length_map, List.length_drop]
                rw [next64 (by omega)]
                refine ⟨hkl, hke, hkl, hke, a.b.length - (k + 1), by omega, k + 1, rfl, by omega, f9, f10, f11, f12, rfl, hB5.oth hbp.symm hbq.symm hblv, fun _ => ⟨bb, cap, es.set k [.v (.int .u8 (IntKind.u8.wrap (x + 1)))], rfl, hcap, set_same, by rw [List.length_set]; exact hes, List.all_eq_true.2 fun y hy => ?_⟩⟩
                rcases List.mem_or_eq_of_mem_set hy with hy | rfl
                · exact List.all_eq_true.1 hby y hy
                · rfl
              · simp only [go_sem, r_block, reduceIte, Nat.reduceEqDiff, Nat.reduceAdd, Nat.reduceMul, Nat.reduceSub, Nat.reduceLT, Nat.reduceLeDiff, Nat.le_refl, Nat.zero_le, Nat.zero_add, Nat.add_zero, Nat.mul_one, splice_zero, Int.toNat_natCast, Int.natCast_nonneg, Int.reduceLE, Int.reduceLT, Int.reduceToNat, Int.reduceEq, Int.cast_ofNat_Int, ne_eq, not_true_eq_false, not_false_eq_true, imp_self, implies_true, true_implies, false_implies, and_self, List.length_map, List.length_drop]
                exact ⟨f0, f3, f4, f5, f9, f10, f11, f12, hB5⟩
            · rintro fr σ5 ⟨f0, f3, f4, f5, f9, f10, f11, f12, hB⟩
              simp only [go_sem, r_block, f0, f3, f4, f5, f9, f10, f11, f12, decide_true, reduceIte, Nat.reduceEqDiff, Nat.reduceAdd, Nat.reduceMul, Nat.reduceSub, Nat.reduceLT, Nat.reduceLeDiff, Nat.le_refl, Nat.zero_le, Nat.zero_add, Nat.add_zero, Nat.mul_one, splice_zero, Int.toNat_natCast, Int.natCast_nonneg, Int.reduceLE, Int.reduceLT, Int.reduceToNat, Int.reduceEq, Int.cast_ofNat_Int, ne_eq, not_true_eq_false, not_false_eq_true, imp_self, implies_true, true_implies, false_implies, and_self, List.length_map, List.length_drop]
              exact ⟨p, lv4, s5, by omega, rfl, hB⟩
          · simp only [go_sem, r_block, f0, f3, f4, f5, reduceIte, Nat.reduceEqDiff, Nat.reduceAdd, Nat.reduceMul, Nat.reduceSub, Nat.reduceLT, Nat.reduceLeDiff, Nat.le_refl, Nat.zero_le, Nat.zero_add, Nat.add_zero, Nat.mul_one, splice_zero, Int.toNat_natCast, Int.natCast_nonneg, Int.reduceLE, Int.reduceLT, Int.reduceToNat, Int.reduceEq, Int.cast_ofNat_Int, ne_eq, not_true_eq_false, not_false_eq_true, imp_self, implies_true, true_implies, false_implies, and_self, List.length_map, List.length_drop]
            refine aIf_by (fun k1 => ?_) (fun k1 => ?_)
            · simp only [go_sem, r_block, c2, f3, f4, Ac.len, Ac.at3, Ac.dr3, reduceIte, Nat.reduceEqDiff, Nat.reduceAdd, Nat.reduceMul, Nat.reduceSub, Nat.reduceLT, Nat.reduceLeDiff, Nat.le_refl, Nat.zero_le, Nat.zero_add, Nat.add_zero, Nat.mul_one, splice_zero, Int.toNat_natCast, Int.natCast_nonneg, Int.reduceLE, Int.reduceLT, Int.reduceToNat, Int.reduceEq, Int.cast_ofNat_Int, ne_eq, not_true_eq_false, not_false_eq_true, imp_self, implies_true, true_implies, false_implies, and_self, List.length_map, List.length_drop]
              refine (take_at hB2.n hB2.ok _).mono ?_
              rintro _ _ ⟨rfl, rfl⟩
              simp only [go_sem, Msg.one, Msg.len, reduceIte, Nat.reduceEqDiff, Nat.reduceAdd, Nat.reduceMul, Nat.reduceSub, Nat.reduceLT, Nat.reduceLeDiff, Nat.le_refl, Nat.zero_le, Nat.zero_add, Nat.add_zero, Nat.mul_one, splice_zero, Int.toNat_natCast, Int.natCast_nonneg, Int.reduceLE, Int.reduceLT, Int.reduceToNat, Int.reduceEq, Int.cast_ofNat_Int, ne_eq, not_true_eq_false, not_false_eq_true, imp_self, implies_true, true_implies, false_implies, and_self, List.length_map, List.length_drop]
              refine aNew_intro fun d hd hdm => ?_
              have hB3 : Rf q lv ((σ2.set p (s.take a.n).2.O).set d (.cells (s.take a.n).1.1.cs)) s := ⟨set_sub hd (fun _ _ h => h) _ _ hB2.rset.ob, hB2.rset.l.new hd⟩
              have c3 : (σ2.set p (s.take a.n).2.O) c = some (.cells a.cs) := by rw [set_ne hcp.symm]; exact c2
              have c4 : ((σ2.set p (s.take a.n).2.O).set d (.cells (s.take a.n).1.1.cs)) c = some (.cells a.cs) := set_sub hd (fun _ _ h => h) _ _ c3
              have d4 : ((σ2.set p (s.take a.n).2.O).set d (.cells (s.take a.n).1.1.cs)) d = some (.cells (s.take a.n).1.1.cs) := set_same
              have p4 : ((σ2.set p (s.take a.n).2.O).set d (.cells (s.take a.n).1.1.cs)) p = some (s.take a.n).2.O := set_sub hd (fun _ _ h => h) _ _ set_same
              have ndq : d ≠ q := (hdm _ _ hB2.rset.ob).symm
              have ndw : ¬ Own lv d := hB3.l.not_own d4
              simp only [go_sem, Msg.one, Msg.len, reduceIte, Nat.reduceEqDiff, Nat.reduceAdd, Nat.reduceMul, Nat.reduceSub, Nat.reduceLT, Nat.reduceLeDiff, Nat.le_refl, Nat.zero_le, Nat.zero_add, Nat.add_zero, Nat.mul_one, splice_zero, Int.toNat_natCast, Int.natCast_nonneg, Int.reduceLE, Int.reduceLT, Int.reduceToNat, Int.reduceEq, Int.cast_ofNat_Int, ne_eq, not_true_eq_false, not_false_eq_true, imp_self, implies_true, true_implies, false_implies, and_self, List.length_map, List.length_drop]
              revert hB3 c4 d4 p4
              generalize (σ2.set p (s.take a.n).2.O).set d (.cells (s.take a.n).1.1.cs) = σ3
              intro hB3 c4 d4 p4
              simp only [go_sem, c4, f4, Ac.len, Ac.at3, Ac.dr3, reduceIte, Nat.reduceEqDiff, Nat.reduceAdd, Nat.reduceMul, Nat.reduceSub, Nat.reduceLT, Nat.reduceLeDiff, Nat.le_refl, Nat.zero_le, Nat.zero_add, Nat.add_zero, Nat.mul_one, splice_zero, Int.toNat_natCast, Int.natCast_nonneg, Int.reduceLE, Int.reduceLT, Int.reduceToNat, Int.reduceEq, Int.cast_ofNat_Int, ne_eq, not_true_eq_false, not_false_eq_true, imp_self, implies_true, true_implies, false_implies, and_self, List.length_map, List.length_drop]
              refine (rtake_at hB3 hB2.ok _).mono ?_
              rintro _ σ4 ⟨rfl, lv4, hr4, hf4⟩
              have d5 := hf4 _ _ d4 ndq ndw
              have p5 := hf4 _ _ p4 hB2.ne hB2.nown
              simp only [go_sem, Msg.one, Msg.len, reduceIte, Nat.reduceEqDiff, Nat.reduceAdd, Nat.reduceMul, Nat.reduceSub, Nat.reduceLT, Nat.reduceLeDiff, Nat.le_refl, Nat.zero_le, Nat.zero_add, Nat.add_zero, Nat.mul_one, splice_zero, Int.toNat_natCast, Int.natCast_nonneg, Int.reduceLE, Int.reduceLT, Int.reduceToNat, Int.reduceEq, Int.cast_ofNat_Int, ne_eq, not_true_eq_false, not_false_eq_true, imp_self, implies_true, true_implies, false_implies, and_self, List.length_map, List.length_drop]
              refine aNew_intro fun e he hem => ?_
              have hde := hem _ _ d5.1
              have hB5 : Both p q lv4 (s.take a.n).2 (σ4.set e (.cells (s.take a.n).1.1.cs)) := ⟨set_sub he (fun _ _ h => h) _ _ p5.1, ⟨set_sub he (fun _ _ h => h) _ _ hr4.ob, hr4.l.new he⟩, hB2.ne, hB2.ok.take _⟩
              have d6 : (σ4.set e (.cells (s.take a.n).1.1.cs)) d = some (.cells (s.take a.n).1.1.cs) := set_sub he (fun _ _ h => h) _ _ d5.1
              have e6 : (σ4.set e (.cells (s.take a.n).1.1.cs)) e = some (.cells (s.take a.n).1.1.cs) := set_same
              simp only [go_sem, Msg.one, Msg.len, reduceIte, Nat.reduceEqDiff, Nat.reduceAdd, Nat.reduceMul, Nat.reduceSub, Nat.reduceLT, Nat.reduceLeDiff, Nat.le_refl, Nat.zero_le, Nat.zero_add, Nat.add_zero, Nat.mul_one, splice_zero, Int.toNat_natCast, Int.natCast_nonneg, Int.reduceLE, Int.reduceLT, Int.reduceToNat, Int.reduceEq, Int.cast_ofNat_Int, ne_eq, not_true_eq_false, not_false_eq_true, imp_self, implies_true, true_implies, false_implies, and_self, List.length_map, List.length_drop]
              revert hB5 d6 e6
              generalize σ4.set e (.cells (s.take a.n).1.1.cs) = σ5
              intro hB5 d6 e6
              simp only [go_sem, d6, e6, Msg.len, Msg.take, reduceIte, Nat.reduceEqDiff, Nat.reduceAdd, Nat.reduceMul, Nat.reduceSub, Nat.reduceLT, Nat.reduceLeDiff, Nat.le_refl, Nat.zero_le, Nat.zero_add, Nat.add_zero, Nat.mul_one, splice_zero, Int.toNat_natCast, Int.natCast_nonneg, Int.reduceLE, Int.reduceLT, Int.reduceToNat, Int.reduceEq, Int.cast_ofNat_Int, ne_eq, not_true_eq_false, not_false_eq_true, imp_self, implies_true, true_implies, false_implies, and_self, List.length_map, List.length_drop]
              refine (eqm_at _).mono ?_
              rintro _ _ ⟨rfl, rfl⟩
              simp only [go_sem, r_block, f0, f3, f4, f5, decide_true, reduceIte, Nat.reduceEqDiff, Nat.reduceAdd, Nat.reduceMul, Nat.reduceSub, Nat.reduceLT, Nat.reduceLeDiff, Nat.le_refl, Nat.zero_le, Nat.zero_add, Nat.add_zero, Nat.mul_one, splice_zero, Int.toNat_natCast, Int.natCast_nonneg, Int.reduceLE, Int.reduceLT, Int.reduceToNat, Int.reduceEq, Int.cast_ofNat_Int, ne_eq, not_true_eq_false, not_false_eq_true, imp_self, implies_true, true_implies, false_implies, and_self, List.length_map, List.length_drop]
              exact ⟨p, lv4, _, by rw [take_last]; omega, rfl, hB5⟩
            · simp only [go_sem, r_block, f0, f3, f4, f5, reduceIte, Nat.reduceEqDiff, Nat.reduceAdd, Nat.reduceMul, Nat.reduceSub, Nat.reduceLT, Nat.reduceLeDiff, Nat.le_refl, Nat.zero_le, Nat.zero_add, Nat.add_zero, Nat.mul_one, splice_zero, Int.toNat_natCast, Int.natCast_nonneg, Int.reduceLE, Int.reduceLT, Int.reduceToNat, Int.reduceEq, Int.cast_ofNat_Int, ne_eq, not_true_eq_false, not_false_eq_true, imp_self, implies_true, true_implies, false_implies, and_self, List.length_map, List.length_drop]
              refine aIf_by (fun k2 => ?_) (fun k2 => ?_)
              · simp only [go_sem, r_block, c2, f3, f4, Ac.len, Ac.at3, Ac.dr3, reduceIte, Nat.reduceEqDiff, Nat.reduceAdd, Nat.reduceMul, Nat.reduceSub, Nat.reduceLT, Nat.reduceLeDiff, Nat.le_refl, Nat.zero_le, Nat.zero_add, Nat.add_zero, Nat.mul_one, splice_zero, Int.toNat_natCast, Int.natCast_nonneg, Int.reduceLE, Int.reduceLT, Int.reduceToNat, Int.reduceEq, Int.cast_ofNat_Int, ne_eq, not_true_eq_false, not_false_eq_true, imp_self, implies_true, true_implies, false_implies, and_self, List.length_map, List.length_drop]
                refine (rtake_at hB2.r hB2.ok _).mono ?_
                rintro _ σ3 ⟨rfl, lv3, hr3, hf3⟩
                have p3 := hf3 _ _ hB2.n hB2.ne hB2.nown
                have c3 := hf3 _ _ c2 hcq.symm hcw
                simp only [go_sem, Msg.one, Msg.len, reduceIte, Nat.reduceEqDiff, Nat.reduceAdd, Nat.reduceMul, Nat.reduceSub, Nat.reduceLT, Nat.reduceLeDiff, Nat.le_refl, Nat.zero_le, Nat.zero_add, Nat.add_zero, Nat.mul_one, splice_zero, Int.toNat_natCast, Int.natCast_nonneg, Int.reduceLE, Int.reduceLT, Int.reduceToNat, Int.reduceEq, Int.cast_ofNat_Int, ne_eq, not_true_eq_false, not_false_eq_true, imp_self, implies_true, true_implies, false_implies, and_self, List.length_map, List.length_drop]
                refine aNew_intro fun d hd hdm => ?_
                have p4 : (σ3.set d (.cells (s.take a.n).1.1.cs)) p = some s.O := set_sub hd (fun _ _ h => h) _ _ p3.1
                have c4 : (σ3.set d (.cells (s.take a.n).1.1.cs)) c = some (.cells a.cs) := set_sub hd (fun _ _ h => h) _ _ c3.1
                have hr4 : Rf q lv3 (σ3.set d (.cells (s.take a.n).1.1.cs)) (s.take a.n).2 := ⟨set_sub hd (fun _ _ h => h) _ _ hr3.ob, hr3.l.new hd⟩
                simp only [go_sem, Msg.one, Msg.len, reduceIte, Nat.reduceEqDiff, Nat.reduceAdd, Nat.reduceMul, Nat.reduceSub, Nat.reduceLT, Nat.reduceLeDiff, Nat.le_refl, Nat.zero_le, Nat.zero_add, Nat.add_zero, Nat.mul_one, splice_zero, Int.toNat_natCast, Int.natCast_nonneg, Int.reduceLE, Int.reduceLT, Int.reduceToNat, Int.reduceEq, Int.cast_ofNat_Int, ne_eq, not_true_eq_false, not_false_eq_true, imp_self, implies_true, true_implies, false_implies, and_self, List.length_map, List.length_drop]
                revert p4 c4 hr4
                generalize σ3.set d (.cells (s.take a.n).1.1.cs) = σ4
                intro p4 c4 hr4
                simp only [go_sem, c4, f3, Ac.len, Ac.at3, Ac.dr3, reduceIte, Nat.reduceEqDiff, Nat.reduceAdd, Nat.reduceMul, Nat.reduceSub, Nat.reduceLT, Nat.reduceLeDiff, Nat.le_refl, Nat.zero_le, Nat.zero_add, Nat.add_zero, Nat.mul_one, splice_zero, Int.toNat_natCast, Int.natCast_nonneg, Int.reduceLE, Int.reduceLT, Int.reduceToNat, Int.reduceEq, Int.cast_ofNat_Int, ne_eq, not_true_eq_false, not_false_eq_true, imp_self, implies_true, true_implies, false_implies, and_self, List.length_map, List.length_drop]
                refine (drop_at p4 hB2.ok _).mono ?_
                rintro _ _ ⟨rfl, rfl⟩
                simp only [go_sem, r_block, f0, f3, f4, f5, decide_true, reduceIte, Nat.reduceEqDiff, Nat.reduceAdd, Nat.reduceMul, Nat.reduceSub, Nat.reduceLT, Nat.reduceLeDiff, Nat.le_refl, Nat.zero_le, Nat.zero_add, Nat.add_zero, Nat.mul_one, splice_zero, Int.toNat_natCast, Int.natCast_nonneg, Int.reduceLE, Int.reduceLT, Int.reduceToNat, Int.reduceEq, Int.cast_ofNat_Int, ne_eq, not_true_eq_false, not_false_eq_true, imp_self, implies_true, true_implies, false_implies, and_self, List.length_map, List.length_drop]
                exact ⟨p, lv3, _, by rw [take_last]; omega, rfl, set_same, ⟨by rw [set_ne hB2.ne.symm]; exact hr4.ob, hr4.l.keep fun y o hy hw => by rw [set_ne (by rintro rfl; exact p3.2 hw)]; exact hy⟩, hB2.ne, hB2.ok.take _⟩
              · simp only [go_sem, r_block, f0, f3, f4, f5, reduceIte, Nat.reduceEqDiff, Nat.reduceAdd, Nat.reduceMul, Nat.reduceSub, Nat.reduceLT, Nat.reduceLeDiff, Nat.le_refl, Nat.zero_le, Nat.zero_add, Nat.add_zero, Nat.mul_one, splice_zero, Int.toNat_natCast, Int.natCast_nonneg, Int.reduceLE, Int.reduceLT, Int.reduceToNat, Int.reduceEq, Int.cast_ofNat_Int, ne_eq, not_true_eq_false, not_false_eq_true, imp_self, implies_true, true_implies, false_implies, and_self, List.length_map, List.length_drop]
                refine aIf_by (fun k3 => ?_) (fun k3 => ?_)
                · simp only [go_sem, r_block, c2, f3, f4, Ac.len, Ac.at3, Ac.dr3, reduceIte, Nat.reduceEqDiff, Nat.reduceAdd, Nat.reduceMul, Nat.reduceSub, Nat.reduceLT, Nat.reduceLeDiff, Nat.le_refl, Nat.zero_le, Nat.zero_add, Nat.add_zero, Nat.mul_one, splice_zero, Int.toNat_natCast, Int.natCast_nonneg, Int.reduceLE, Int.reduceLT, Int.reduceToNat, Int.reduceEq, Int.cast_ofNat_Int, ne_eq, not_true_eq_false, not_false_eq_true, imp_self, implies_true, true_implies, false_implies, and_self, List.length_map, List.length_drop]
                  refine (double_at hB2.n hB2.ok _).mono ?_
                  rintro _ _ ⟨rfl, rfl⟩
                  have c3 : (σ2.set p (s.double a.n).2.O) c = some (.cells a.cs) := by rw [set_ne hcp.symm]; exact c2
                  simp only [go_sem, r_block, c3, f3, f4, Ac.len, Ac.at3, Ac.dr3, reduceIte, Nat.reduceEqDiff, Nat.reduceAdd, Nat.reduceMul, Nat.reduceSub, Nat.reduceLT, Nat.reduceLeDiff, Nat.le_refl, Nat.zero_le, Nat.zero_add, Nat.add_zero, Nat.mul_one, splice_zero, Int.toNat_natCast, Int.natCast_nonneg, Int.reduceLE, Int.reduceLT, Int.reduceToNat, Int.reduceEq, Int.cast_ofNat_Int, ne_eq, not_true_eq_false, not_false_eq_true, imp_self, implies_true, true_implies, false_implies, and_self, List.length_map, List.length_drop]
                  refine (rdouble_at hB2.rset hB2.ok _).mono ?_
                  rintro _ σ3 ⟨rfl, lv3, hr3, hf3⟩
                  simp only [go_sem, r_block, f0, f3, f4, f5, decide_true, reduceIte, Nat.reduceEqDiff, Nat.reduceAdd, Nat.reduceMul, Nat.reduceSub, Nat.reduceLT, Nat.reduceLeDiff, Nat.le_refl, Nat.zero_le, Nat.zero_add, Nat.add_zero, Nat.mul_one, splice_zero, Int.toNat_natCast, Int.natCast_nonneg, Int.reduceLE, Int.reduceLT, Int.reduceToNat, Int.reduceEq, Int.cast_ofNat_Int, ne_eq, not_true_eq_false, not_false_eq_true, imp_self, implies_true, true_implies, false_implies, and_self, List.length_map, List.length_drop]
                  exact ⟨p, lv3, _, by have := double_last s a.n; omega, rfl, hB2.step (hB2.ok.double _ hla) hr3 hf3⟩
                · simp only [go_sem, r_block, f0, f3, f4, f5, reduceIte, Nat.reduceEqDiff, Nat.reduceAdd, Nat.reduceMul, Nat.reduceSub, Nat.reduceLT, Nat.reduceLeDiff, Nat.le_refl, Nat.zero_le, Nat.zero_add, Nat.add_zero, Nat.mul_one, splice_zero, Int.toNat_natCast, Int.natCast_nonneg, Int.reduceLE, Int.reduceLT, Int.reduceToNat, Int.reduceEq, Int.cast_ofNat_Int, ne_eq, not_true_eq_false, not_false_eq_true, imp_self, implies_true, true_implies, false_implies, and_self, List.length_map, List.length_drop]
                  refine aIf_by (fun k4 => ?_) (fun k4 => ?_)
                  · simp only [go_sem, r_block, c2, f3, f4, reduceIte, Nat.reduceEqDiff, Nat.reduceAdd, Nat.reduceMul, Nat.reduceSub, Nat.reduceLT, Nat.reduceLeDiff, Nat.le_refl, Nat.zero_le, Nat.zero_add, Nat.add_zero, Nat.mul_one, splice_zero, Int.toNat_natCast, Int.natCast_nonneg, Int.reduceLE, Int.reduceLT, Int.reduceToNat, Int.reduceEq, Int.cast_ofNat_Int, ne_eq, not_true_eq_false, not_false_eq_true, imp_self, implies_true, true_implies, false_implies, and_self, List.length_map, List.length_drop]
                    refine (clone_at hB2.n hB2.ok).mono ?_
                    rintro _ _ ⟨q2, hq2, rfl, rfl⟩
                    have hB3 : Both q2 q lv s (σ2.set q2 s.O) := ⟨set_same, (hB2.new hq2).r, (by rintro rfl; rw [hB2.r.ob] at hq2; cases hq2), hB2.ok⟩
                    have p3 : (σ2.set q2 s.O) p = some s.O := set_sub hq2 (fun _ _ h => h) _ _ hB2.n
                    have c3 : (σ2.set q2 s.O) c = some (.cells a.cs) := set_sub hq2 (fun _ _ h => h) _ _ c2
                    have n2 : q2 ≠ p := by rintro rfl; rw [hB2.n] at hq2; cases hq2
                    revert hB3 p3 c3
                    generalize σ2.set q2 s.O = σ3
                    intro hB3 p3 c3
                    simp only [go_sem, r_block, c3, f3, f4, Ac.len, Ac.at3, Ac.dr3, reduceIte, Nat.reduceEqDiff, Nat.reduceAdd, Nat.reduceMul, Nat.reduceSub, Nat.reduceLT, Nat.reduceLeDiff, Nat.le_refl, Nat.zero_le, Nat.zero_add, Nat.add_zero, Nat.mul_one, splice_zero, Int.toNat_natCast, Int.natCast_nonneg, Int.reduceLE, Int.reduceLT, Int.reduceToNat, Int.reduceEq, Int.cast_ofNat_Int, ne_eq, not_true_eq_false, not_false_eq_true, imp_self, implies_true, true_implies, false_implies, and_self, List.length_map, List.length_drop]
                    refine (drop_at p3 hB2.ok _).mono ?_
                    rintro _ _ ⟨rfl, rfl⟩
                    have hB4 : Both q2 q lv s (σ3.set p (s.take a.n).2.O) := hB3.oth n2 hB2.ne.symm hB2.nown
                    have c4 : (σ3.set p (s.take a.n).2.O) c = some (.cells a.cs) := by rw [set_ne hcp.symm]; exact c3
                    simp only [go_sem, r_block, c4, f3, f4, Ac.len, Ac.at1, Ac.at2, Ac.dr1, Ac.dr2, reduceIte, Nat.reduceEqDiff, Nat.reduceAdd, Nat.reduceMul, Nat.reduceSub, Nat.reduceLT, Nat.reduceLeDiff, Nat.le_refl, Nat.zero_le, Nat.zero_add, Nat.add_zero, Nat.mul_one, splice_zero, Int.toNat_natCast, Int.natCast_nonneg, Int.reduceLE, Int.reduceLT, Int.reduceToNat, Int.reduceEq, Int.cast_ofNat_Int, ne_eq, not_true_eq_false, not_false_eq_true, imp_self, implies_true, true_implies, false_implies, and_self, List.length_map, List.length_drop]
                    refine (send_at set_same (hB2.ok.take _) a.to .sl).mono ?_
                    rintro _ _ ⟨rfl, rfl⟩
                    simp only [go_sem, r_block, f0, f3, f4, f5, reduceIte, Nat.reduceEqDiff, Nat.reduceAdd, Nat.reduceMul, Nat.reduceSub, Nat.reduceLT, Nat.reduceLeDiff, Nat.le_refl, Nat.zero_le, Nat.zero_add, Nat.add_zero, Nat.mul_one, splice_zero, Int.toNat_natCast, Int.natCast_nonneg, Int.reduceLE, Int.reduceLT, Int.reduceToNat, Int.reduceEq, Int.cast_ofNat_Int, ne_eq, not_true_eq_false, not_false_eq_true, imp_self, implies_true, true_implies, false_implies, and_self, List.length_map, List.length_drop]
                    exact ⟨q2, lv, s, by omega, rfl, hB3.oth n2 hB2.ne.symm hB2.nown⟩
                  · simp only [go_sem, r_block, f0, f3, f4, f5, reduceIte, Nat.reduceEqDiff, Nat.reduceAdd, Nat.reduceMul, Nat.reduceSub, Nat.reduceLT, Nat.reduceLeDiff, Nat.le_refl, Nat.zero_le, Nat.zero_add, Nat.add_zero, Nat.mul_one, splice_zero, Int.toNat_natCast, Int.natCast_nonneg, Int.reduceLE, Int.reduceLT, Int.reduceToNat, Int.reduceEq, Int.cast_ofNat_Int, ne_eq, not_true_eq_false, not_false_eq_true, imp_self, implies_true, true_implies, false_implies, and_self, List.length_map, List.length_drop]
                    exact ⟨p, lv, s, by omega, rfl, hB2⟩
        · rintro fr σ3 ⟨p, lv, s, hl3, f0, f3, f4, f5, f7, hB⟩
          simp only [go_sem, r_block, f0, f3, f4, f5, f7, reduceIte, Nat.reduceEqDiff, Nat.reduceAdd, Nat.reduceMul, Nat.reduceSub, Nat.reduceLT, Nat.reduceLeDiff, Nat.le_refl, Nat.zero_le, Nat.zero_add, Nat.add_zero, Nat.mul_one, splice_zero, Int.toNat_natCast, Int.natCast_nonneg, Int.reduceLE, Int.reduceLT, Int.reduceToNat, Int.reduceEq, Int.cast_ofNat_Int, ne_eq, not_true_eq_false, not_false_eq_true, imp_self, implies_true, true_implies, false_implies, and_self, List.length_map, List.length_drop]
          refine (alike_at hB.n hB.r hB.ok).mono ?_
          rintro _ _ ⟨rfl, rfl⟩
          simp only [go_sem, r_block, f0, f3, f4, f5, f7, reduceIte, Nat.reduceEqDiff, Nat.reduceAdd, Nat.reduceMul, Nat.reduceSub, Nat.reduceLT, Nat.reduceLeDiff, Nat.le_refl, Nat.zero_le, Nat.zero_add, Nat.add_zero, Nat.mul_one, splice_zero, Int.toNat_natCast, Int.natCast_nonneg, Int.reduceLE, Int.reduceLT, Int.reduceToNat, Int.reduceEq, Int.cast_ofNat_Int, ne_eq, not_true_eq_false, not_false_eq_true, imp_self, implies_true, true_implies, false_implies, and_self, List.length_map, List.length_drop]
          exact ⟨p, lv, s, hl3, rfl, hB⟩
      · rintro fr σ ⟨p, lv, s, hl2, f0, f3, f4, f5, hB⟩
        simp only [go_sem, r_block, f0, f3, f4, f5, reduceIte, Nat.reduceEqDiff, Nat.reduceAdd, Nat.reduceMul, Nat.reduceSub, Nat.reduceLT, Nat.reduceLeDiff, Nat.le_refl, Nat.zero_le, Nat.zero_add, Nat.add_zero, Nat.mul_one, splice_zero, Int.toNat_natCast, Int.natCast_nonneg, Int.reduceLE, Int.reduceLT, Int.reduceToNat, Int.reduceEq, Int.cast_ofNat_Int, ne_eq, not_true_eq_false, not_false_eq_true, imp_self, implies_true, true_implies, false_implies, and_self, List.length_map, List.length_drop]
        rw [next64 (by omega)]
        exact ⟨l.length - (i + 1), by omega, i + 1, p, lv, s, rfl, by omega, hl2, rfl, rfl, hB⟩
    · simp only [go_sem, r_block, f0, f3, f4, f5, reduceIte, Nat.reduceEqDiff, Nat.reduceAdd, Nat.reduceMul, Nat.reduceSub, Nat.reduceLT, Nat.reduceLeDiff, Nat.le_refl, Nat.zero_le, Nat.zero_add, Nat.add_zero, Nat.mul_one, splice_zero, Int.toNat_natCast, Int.natCast_nonneg, Int.reduceLE, Int.reduceLT, Int.reduceToNat, Int.reduceEq, Int.cast_ofNat_Int, ne_eq, not_true_eq_false, not_false_eq_true, imp_self, implies_true, true_implies, false_implies, and_self, List.length_map, List.length_drop]
  rintro fr σ -
  simp only [go_sem, reduceIte, Nat.reduceEqDiff, Nat.reduceAdd, Nat.reduceMul, Nat.reduceSub, Nat.reduceLT, Nat.reduceLeDiff, Nat.le_refl, Nat.zero_le, Nat.zero_add, Nat.add_zero, Nat.mul_one, splice_zero, Int.toNat_natCast, Int.natCast_nonneg, Int.reduceLE, Int.reduceLT, Int.reduceToNat, Int.reduceEq, Int.cast_ofNat_Int, ne_eq, not_true_eq_false, not_false_eq_true, imp_self, implies_true, true_implies, false_implies, and_self, List.length_map, List.length_drop]
  refine live_at.mono ?_
  rintro _ _ ⟨rfl, rfl⟩
  simp only [go_sem, reduceIte, Nat.reduceEqDiff, Nat.reduceAdd, Nat.reduceMul, Nat.reduceSub, Nat.reduceLT, Nat.reduceLeDiff, Nat.le_refl, Nat.zero_le, Nat.zero_add, Nat.add_zero, Nat.mul_one, splice_zero, Int.toNat_natCast, Int.natCast_nonneg, Int.reduceLE, Int.reduceLT, Int.reduceToNat, Int.reduceEq, Int.cast_ofNat_Int, ne_eq, not_true_eq_false, not_false_eq_true, imp_self, implies_true, true_implies, false_implies, and_self, List.length_map, List.length_drop]
  exact aRet_as (r := boo true) rfl rfl
end
end Go.Proofs.Ytebmjajdkhhhbaa
