/-
  The law LinkAll: when all frames of each tick arrive, all is told.
  Conditions: none.
-/
import Derived.Test.YtpdbmnogfanpmaaLj
set_option linter.unusedVariables false
set_option linter.unusedSimpArgs false
namespace Go.Proofs.Ytpdbmnogfanpmaa
open Go Go.Av

/-- Side s has ticked, and all of it has arrived. -/
structure Half (s : Nat) (D : Nat → Sd) (g c : Nat → Nat) (u : Nat → Nat) (D' : Nat → Sd) (g' c' : Nat → Nat) : Prop where
  gs : g' s = g s
  cs : c' s = c s
  os : (D' s).s.owes = false
  go : g' (1 - s) = if g s < u s ∨ (D s).s.owes = true then max (g (1 - s)) (c s) else g (1 - s)
  co : c (1 - s) ≤ c' (1 - s)
  cn : g s < u s → min (u s) (g s + 8) ≤ c' (1 - s)
  oo : (D' (1 - s)).s.owes = ((D (1 - s)).s.owes || decide (g s < u s))

/-- What holds behind r rounds. -/
structure Rnd (R r : Nat) (D : Nat → Sd) (g u c : Nat → Nat) : Prop where
  a : min (u 0) (8 * r) ≤ g 0
  b : min (u 1) (8 * r) ≤ c 0
  o : 1 ≤ r → g 1 < u 1 → (D 0).s.owes = true
  e : R + 1 ≤ r → g 1 = u 1
  f : R + 2 ≤ r → (D 0).s.owes = false ∧ (D 1).s.owes = false

set_option maxHeartbeats 2000000 in
theorem Rnd.step {R r : Nat} {D D1 D2 : Nat → Sd} {g u c g1 c1 g2 c2 : Nat → Nat} {M0 M1 M2 : Nat} (h : Rnd R r D g u c) (hI : PI D g u c M0) (hI1 : PI D1 g1 u c1 M1) (hI2 : PI D2 g2 u c2 M2) (h0 : Half 0 D g c u D1 g1 c1) (h1 : Half 1 D1 g1 c1 u D2 g2 c2) (hR : max (u 0) (u 1) ≤ 8 * R) : Rnd R (r + 1) D2 g2 u c2 := by
  have i1 := hI.gu 0 (by omega)
  have i2 := hI.gu 1 (by omega)
  have i3 := hI.cu 0 (by omega)
  have i4 := hI.cu 1 (by omega)
  have i5 := hI.gc 0 (by omega)
  have i6 := hI.gc 1 (by omega)
  have j1 := hI1.gu 0 (by omega)
  have j2 := hI1.gu 1 (by omega)
  have j3 := hI1.cu 0 (by omega)
  have j4 := hI1.cu 1 (by omega)
  have j5 := hI1.gc 0 (by omega)
  have j6 := hI1.gc 1 (by omega)
  have k1 := hI2.gu 0 (by omega)
  have k2 := hI2.gu 1 (by omega)
  have k3 := hI2.cu 0 (by omega)
  have k4 := hI2.cu 1 (by omega)
  have k5 := hI2.gc 0 (by omega)
  have k6 := hI2.gc 1 (by omega)
  obtain ⟨a1, a2, a3, a4, a5, a6, a7⟩ := h0
  obtain ⟨b1, b2, b3, b4, b5, b6, b7⟩ := h1
  obtain ⟨ha, hb, ho, he, hf⟩ := h
  simp only [Nat.sub_zero, Nat.sub_self] at *
  have x1 : (D1 1).s.owes = true → g2 0 = max (g1 0) (c1 1) := fun hh => by rw [b4, if_pos (.inr hh)]
  have x2 : g 0 < u 0 → (D1 1).s.owes = true := fun hh => by rw [a7]; simp [hh]
  have y1 : (D 0).s.owes = true → g1 1 = max (g 1) (c 0) := fun hh => by rw [a4, if_pos (.inr hh)]
  have y2 : g1 1 < u 1 → (D2 0).s.owes = true := fun hh => by rw [b7]; simp [hh]
  have y3 : g 1 ≤ g1 1 := by rw [a4]; split <;> omega
  have x3 : g1 0 ≤ g2 0 := by rw [b4]; split <;> omega
  have z1 : min (u 1) (8 * r) ≤ g1 1 := by
    by_cases hr : 1 ≤ r
    · by_cases hg : g 1 < u 1
      · have := y1 (ho hr hg); omega
      · omega
    · omega
  refine ⟨?_, ?_, fun _ hg => y2 (by omega), fun hr => ?_, fun hr => ?_⟩
  · by_cases hg : g 0 < u 0
    · have := x1 (x2 hg); have := a6 hg; omega
    · omega
  · by_cases hg : g1 1 < u 1
    · have := b6 hg; omega
    · omega
  · by_cases hg : g 1 < u 1
    · have := y1 (ho (by omega) hg)
      omega
    · omega
  · have e1 := he (by omega)
    have e2 : g 0 = u 0 := by omega
    constructor
    · rw [b7, a3]
      have : ¬ g1 1 < u 1 := by omega
      simp [this]
    · exact b3

section
variable {σ : St} {p : Nat} {D : Nat → Sd} {g u c : Nat → Nat} {M : Nat}
set_option maxRecDepth 100000

/-- Halves one behind the other. -/
def Hs (u : Nat → Nat) (D : Nat → Sd) (g c : Nat → Nat) (M : Nat) : Nat → (Nat → Sd) → (Nat → Nat) → (Nat → Nat) → Prop
  | 0, D', g', c' => D' = D ∧ g' = g ∧ c' = c
  | i + 1, D', g', c' => ∃ D1 g1 c1, Hs u D g c M i D1 g1 c1 ∧ PI D1 g1 u c1 (M + 8 * i) ∧ Half i D1 g1 c1 u D' g' c'

theorem frame_get {i j : Nat} (hI : PI D g u c M) (hi : i < 2) (hw : g i < u i) (hj : j < (D i).s.tick.1.length) : ∃ f, (D i).s.tick.1[j] = f ∧ f.seq = ((g i + j + 1 : Nat) : Int) := by
  have h1 := hI.gone i hi
  have h3 := hI.wait i hi
  refine ⟨_, rfl, ?_⟩
  have hne : (D i).s.wait ≠ [] := fun e => by
    have := many_len (g i) (u i - g i)
    rw [← h3, e] at this
    simp at this
    omega
  have e : (D i).s.tick.1 = (D i).s.frames 8 := by unfold Ls.tick; rw [if_neg hne]
  have : (D i).s.tick.1[j] = ((D i).s.frames 8)[j]'(by rw [← e]; exact hj) := by congr 1
  rw [this]
  simp only [Ls.frames, List.getElem_mapIdx]
  omega
theorem tick_len {i : Nat} (hI : PI D g u c M) (hi : i < 2) : (D i).s.tick.1.length = if g i < u i then min 8 (u i - g i) else if (D i).s.owes then 1 else 0 := by
  have h3 := hI.wait i hi
  have h5 := hI.gu i hi
  unfold Ls.tick
  by_cases hw : g i < u i
  · have hne : (D i).s.wait ≠ [] := fun e => by
      have := many_len (g i) (u i - g i)
      rw [← h3, e] at this
      simp at this
      omega
    rw [if_neg hne, if_pos hw]
    simp only [frames_len, h3, many_len]
  · have he : (D i).s.wait = [] := by rw [h3, show u i - g i = 0 by omega]; rfl
    rw [if_pos he, if_neg hw]
    simp only
    split <;> simp
theorem tick_seq0 {i j : Nat} (hI : PI D g u c M) (hi : i < 2) (hw : ¬ g i < u i) (hj : j < (D i).s.tick.1.length) : ((D i).s.tick.1[j]).seq = 0 := by
  have h3 := hI.wait i hi
  have h5 := hI.gu i hi
  have he : (D i).s.wait = [] := by rw [h3, show u i - g i = 0 by omega]; rfl
  have hm := List.getElem_mem hj
  generalize (D i).s.tick.1[j] = f at hm
  unfold Ls.tick at hm
  rw [if_pos he] at hm
  simp only at hm
  split at hm
  · rw [List.mem_singleton.1 hm]
  · cases hm

theorem round_at (h : PairAt σ p D) (hI : PI D g u c M) (hM : M + 16 < 1000000) : AT Try.prog 19 [ptr p] σ fun r σ' => r = boo true ∧ ∃ D' g' c', PairAt σ' p D' ∧ PI D' g' u c' (M + 16) ∧ Hs u D g c M 2 D' g' c' := by
  refine AT.of_body Try.func19 rfl (by decide) (by kernel_rfl) (by kernel_rfl) (Nat.le_of_ble_eq_true rfl) ?_
  simp only [go_sem, reduceIte, Nat.reduceEqDiff, Nat.reduceAdd, Nat.reduceMul, Nat.reduceSub, Nat.reduceLT, Nat.reduceLeDiff, Nat.le_refl, Nat.zero_le, Nat.zero_add, Nat.add_zero, Nat.mul_one, splice_zero, Int.toNat_natCast, Int.natCast_nonneg, Int.reduceLE, Int.reduceLT, Int.reduceToNat, Int.reduceEq, Int.cast_ofNat_Int, ne_eq, not_true_eq_false, not_false_eq_true, imp_self, implies_true, true_implies, false_implies, and_self, List.length_map, List.length_drop]
  rw [r_block]
  simp only [go_sem, reduceIte, Nat.reduceEqDiff, Nat.reduceAdd, Nat.reduceMul, Nat.reduceSub, Nat.reduceLT, Nat.reduceLeDiff, Nat.le_refl, Nat.zero_le, Nat.zero_add, Nat.add_zero, Nat.mul_one, splice_zero, Int.toNat_natCast, Int.natCast_nonneg, Int.reduceLE, Int.reduceLT, Int.reduceToNat, Int.reduceEq, Int.cast_ofNat_Int, ne_eq, not_true_eq_false, not_false_eq_true, imp_self, implies_true, true_implies, false_implies, and_self, List.length_map, List.length_drop]
  refine ⟨fun k fr σ' => ∃ (s : Nat) (D' : Nat → Sd) (g' c' : Nat → Nat), k = 2 - s ∧ s ≤ 2 ∧ fr 0 = ptr p ∧ fr 3 = int s ∧ PairAt σ' p D' ∧ PI D' g' u c' (M + 8 * s) ∧ Hs u D g c M s D' g' c', ⟨2, 0, D, g, c, rfl, by omega, rfl, rfl, h, hI, rfl, rfl, rfl⟩, ?_⟩
  clear h hI
  rintro k fr σ ⟨s, D', g', c', rfl, hs, f0, f3, h, hI, hH⟩
  simp only [go_sem, f0, f3, reduceIte, Nat.reduceEqDiff, Nat.reduceAdd, Nat.reduceMul, Nat.reduceSub, Nat.reduceLT, Nat.reduceLeDiff, Nat.le_refl, Nat.zero_le, Nat.zero_add, Nat.add_zero, Nat.mul_one, splice_zero, Int.toNat_natCast, Int.natCast_nonneg, Int.reduceLE, Int.reduceLT, Int.reduceToNat, Int.reduceEq, Int.cast_ofNat_Int, ne_eq, not_true_eq_false, not_false_eq_true, imp_self, implies_true, true_implies, false_implies, and_self, List.length_map, List.length_drop]
  refine aIf_by (fun hlt => ?_) (fun hlt => ?_)
  · have hs2 : s < 2 := by omega
    have ho2 : 1 - s < 2 := by omega
    have b0 : (s : Int) < 2 := hlt
    have b1 : s < 8 := by omega
    have ew : IntKind.i64.wrap (1 - (s : Int)) = ((1 - s : Nat) : Int) := by rw [wrap64 (by omega)]; omega
    have fit := hI.fit hs2
    simp only [go_sem, r_block, f0, f3, h.ob, pc_len, pc0 hs2, b0, b1, reduceIte, Nat.reduceEqDiff, Nat.reduceAdd, Nat.reduceMul, Nat.reduceSub, Nat.reduceLT, Nat.reduceLeDiff, Nat.le_refl, Nat.zero_le, Nat.zero_add, Nat.add_zero, Nat.mul_one, splice_zero, Int.toNat_natCast, Int.natCast_nonneg, Int.reduceLE, Int.reduceLT, Int.reduceToNat, Int.reduceEq, Int.cast_ofNat_Int, ne_eq, not_true_eq_false, not_false_eq_true, imp_self, implies_true, true_implies, false_implies, and_self, List.length_map, List.length_drop]
    refine (tick_at (h.sd s hs2).lk.ob fit.ar ⟨fit.g0, fit.g1⟩ fit.wt).mono ?_
    rintro _ σ1 ⟨rfl, hs1⟩
    have h1 := h.link1 hs2 (s' := (D' s).s.tick.2) rfl
    rw [← hs1] at h1
    have hI1 := hI.ticked hs2
    rw [updn_self, updn_self, updn_self] at hI1
    obtain ⟨t1, t2⟩ := hI.frames hs2
    have tlen := tick_len hI hs2
    have tsq := fun j => frame_get (j := j) hI hs2
    have ts0 := fun j => tick_seq0 (j := j) hI hs2
    clear hs1 h
    simp only [go_sem, reduceIte, Nat.reduceEqDiff, Nat.reduceAdd, Nat.reduceMul, Nat.reduceSub, Nat.reduceLT, Nat.reduceLeDiff, Nat.le_refl, Nat.zero_le, Nat.zero_add, Nat.add_zero, Nat.mul_one, splice_zero, Int.toNat_natCast, Int.natCast_nonneg, Int.reduceLE, Int.reduceLT, Int.reduceToNat, Int.reduceEq, Int.cast_ofNat_Int, ne_eq, not_true_eq_false, not_false_eq_true, imp_self, implies_true, true_implies, false_implies, and_self, List.length_map, List.length_drop]
    rw [r_block]
    simp only [go_sem, reduceIte, Nat.reduceEqDiff, Nat.reduceAdd, Nat.reduceMul, Nat.reduceSub, Nat.reduceLT, Nat.reduceLeDiff, Nat.le_refl, Nat.zero_le, Nat.zero_add, Nat.add_zero, Nat.mul_one, splice_zero, Int.toNat_natCast, Int.natCast_nonneg, Int.reduceLE, Int.reduceLT, Int.reduceToNat, Int.reduceEq, Int.cast_ofNat_Int, ne_eq, not_true_eq_false, not_false_eq_true, imp_self, implies_true, true_implies, false_implies, and_self, List.length_map, List.length_drop]
    generalize (D' s).s.tick.1 = fs at t1 t2 tlen tsq ts0 ⊢
    refine ⟨fun k fr σ' => ∃ (j : Nat) (E : Nat → Sd) (g1 c1 : Nat → Nat), k = fs.length - j ∧ j ≤ fs.length ∧ fr 0 = ptr p ∧ fr 3 = int s ∧ fr 4 = .sl 40 (fs.map Frm.cs) ∧ fr 5 = int j ∧ PairAt σ' p E ∧ PI E g1 u c1 (M + 8 * s + j) ∧
      g1 s = g' s ∧ c1 s = c' s ∧ (E s).s.owes = false ∧ g1 (1 - s) = (if 0 < j then max (g' (1 - s)) (c' s) else g' (1 - s)) ∧ c' (1 - s) ≤ c1 (1 - s) ∧ (g' s < u s → g' s + j ≤ c1 (1 - s)) ∧ (E (1 - s)).s.owes = ((D' (1 - s)).s.owes || decide (g' s < u s ∧ 0 < j)),
      ⟨fs.length, 0, _, g', c', rfl, by omega, f0, f3, rfl, rfl, h1, hI1, rfl, rfl, by rw [upd_same]; rfl, by simp, Nat.le_refl _, fun _ => by have := hI.gc s hs2; omega, by rw [upd_ne (by omega)]; simp⟩, ?_⟩
    clear h1 hI1 f0 f3
    rintro k fr σ2 ⟨j, E, g1, c1, rfl, hj, f0, f3, f4, f5, h2, hI2, q1, q2, q3, q4, q5, q6, q7⟩
    simp only [go_sem, f0, f3, f4, f5, reduceIte, Nat.reduceEqDiff, Nat.reduceAdd, Nat.reduceMul, Nat.reduceSub, Nat.reduceLT, Nat.reduceLeDiff, Nat.le_refl, Nat.zero_le, Nat.zero_add, Nat.add_zero, Nat.mul_one, splice_zero, Int.toNat_natCast, Int.natCast_nonneg, Int.reduceLE, Int.reduceLT, Int.reduceToNat, Int.reduceEq, Int.cast_ofNat_Int, ne_eq, not_true_eq_false, not_false_eq_true, imp_self, implies_true, true_implies, false_implies, and_self, List.length_map, List.length_drop]
    refine aIf_by (fun hjl => ?_) (fun hjl => ?_)
    · have hjl' : j < fs.length := by omega
      obtain ⟨f, hf⟩ : ∃ f, f = fs[j] := ⟨_, rfl⟩
      have hel : (fs.map Frm.cs).getD j [] = f.cs := by
        rw [hf, List.getD_eq_getElem?_getD, List.getElem?_map, List.getElem?_eq_getElem hjl']
        rfl
      have hfm : f ∈ fs := by rw [hf]; exact List.getElem_mem _
      obtain ⟨hok, hack⟩ := t1 f hfm
      have hok1 : Fok (u (1 - (1 - s))) (c1 (1 - (1 - s))) f := by rw [show 1 - (1 - s) = s by omega, q2]; exact hok
      simp only [go_sem, r_block, f0, f3, f4, f5, hel, hjl, f.len, f.take, ew, reduceIte, Nat.reduceEqDiff, Nat.reduceAdd, Nat.reduceMul, Nat.reduceSub, Nat.reduceLT, Nat.reduceLeDiff, Nat.le_refl, Nat.zero_le, Nat.zero_add, Nat.add_zero, Nat.mul_one, splice_zero, Int.toNat_natCast, Int.natCast_nonneg, Int.reduceLE, Int.reduceLT, Int.reduceToNat, Int.reduceEq, Int.cast_ofNat_Int, ne_eq, not_true_eq_false, not_false_eq_true, imp_self, implies_true, true_implies, false_implies, and_self, List.length_map, List.length_drop]
      have hargs : f.it.args.length ≤ 4398046510976 := by
        obtain ⟨⟨_, hq⟩ | ⟨_, _, hq, _⟩, _⟩ := hok <;> rw [hq] <;> exact Nat.zero_le _
      have hseq : f.seq ≤ 9223372036854775807 := by
        have := hI.ul s hs2
        obtain ⟨⟨hq, _⟩ | ⟨_, hq, _, _⟩, _⟩ := hok <;> omega
      have hjM : M + 8 * s + j < 1000000 := by omega
      obtain ⟨g3, c3, items, s3, r1, r2, r3, r4, r5, r6⟩ := hI2.hear hjM ho2 hok1 (.v (.slice none 0 0))
      have hto : (E (1 - s)).told.length + items.length = c3 := by
        have := r2.told (1 - s) ho2
        rw [upd_same, updn_same] at this
        have := congrArg List.length this
        rw [many_len] at this
        simpa using this
      have hcb := r2.cu (1 - s) ho2
      rw [updn_same, updn_ne (by omega), show 1 - (1 - s) = s by omega] at hcb
      have hub := hI.ul s hs2
      refine (phear_at h2 ho2 (hI2.fit ho2) f hseq hargs (by rw [r1]; simp only; omega)).mono ?_
      rintro _ σ3 ⟨rfl, tl, h3⟩
      rw [r1] at h3 ⊢
      obtain ⟨g4, c4, items', s4, w1, w2, w3, w4, w5, w6⟩ := hI2.hear hjM ho2 hok1 tl
      rw [r1] at w1
      injection w1 with w1 w1'
      injection w1 with w1 _
      subst w1 w1'
      rw [updn_self] at w2
      simp only [go_sem, r_block, f0, f3, f4, f5, reduceIte, Nat.reduceEqDiff, Nat.reduceAdd, Nat.reduceMul, Nat.reduceSub, Nat.reduceLT, Nat.reduceLeDiff, Nat.le_refl, Nat.zero_le, Nat.zero_add, Nat.add_zero, Nat.mul_one, splice_zero, Int.toNat_natCast, Int.natCast_nonneg, Int.reduceLE, Int.reduceLT, Int.reduceToNat, Int.reduceEq, Int.cast_ofNat_Int, ne_eq, not_true_eq_false, not_false_eq_true, imp_self, implies_true, true_implies, false_implies, and_self, List.length_map, List.length_drop]
      rw [next64 (by omega)]
      have esn : s ≠ 1 - s := by omega
      refine ⟨fs.length - (j + 1), by omega, j + 1, _, _, _, rfl, by omega, rfl, h3, w2, by rw [updn_ne esn]; exact q1, by rw [updn_ne esn]; exact q2, by rw [upd_ne esn]; exact q3, ?_, ?_, ?_, ?_⟩
      · rw [updn_same, if_pos (by omega)]
        rw [hack] at w3
        rw [q4] at w3
        split at w3 <;> omega
      · rw [updn_same]; omega
      · intro hw
        rw [updn_same]
        obtain ⟨f', hf', hsq⟩ := tsq j hw hjl'
        have := w5 (g' s + j) (by rw [hf, ← hsq, ← hf']) (q6 hw)
        omega
      · rw [upd_same]
        simp only
        rw [w6, q7]
        by_cases hw : g' s < u s
        · obtain ⟨f', hf', hsq⟩ := tsq j hw hjl'
          have hne : f.seq ≠ 0 := by rw [hf, hf', hsq]; omega
          simp [hw, hne]
        · have hz : f.seq = 0 := by rw [hf]; exact ts0 j hw hjl'
          simp [hw, hz]
    · have hjf : j = fs.length := by omega
      simp only [go_sem, f0, f3, reduceIte, Nat.reduceEqDiff, Nat.reduceAdd, Nat.reduceMul, Nat.reduceSub, Nat.reduceLT, Nat.reduceLeDiff, Nat.le_refl, Nat.zero_le, Nat.zero_add, Nat.add_zero, Nat.mul_one, splice_zero, Int.toNat_natCast, Int.natCast_nonneg, Int.reduceLE, Int.reduceLT, Int.reduceToNat, Int.reduceEq, Int.cast_ofNat_Int, ne_eq, not_true_eq_false, not_false_eq_true, imp_self, implies_true, true_implies, false_implies, and_self, List.length_map, List.length_drop]
      rw [next64 (by omega)]
      have hlen8 : fs.length ≤ 8 := t2
      refine ⟨2 - (s + 1), by omega, s + 1, E, g1, c1, rfl, by omega, rfl, h2, hI2.more (by omega) (by omega), D', g', c', hH, hI, q1, q2, q3, ?_, q5, fun hw => ?_, ?_⟩
      · rw [q4, hjf]
        by_cases hp : 0 < fs.length
        · rw [if_pos hp, if_pos]
          rw [tlen] at hp
          by_cases hw : g' s < u s
          · exact .inl hw
          · rw [if_neg hw] at hp
            right
            cases ho : (D' s).s.owes with
            | true => rfl
            | false => rw [ho] at hp; simp at hp
        · rw [if_neg hp, if_neg]
          rw [tlen] at hp
          rintro (hw | hw)
          · rw [if_pos hw] at hp; omega
          · by_cases hw2 : g' s < u s
            · rw [if_pos hw2] at hp; omega
            · rw [if_neg hw2, hw] at hp; simp at hp
      · have := q6 hw
        rw [hjf, tlen, if_pos hw] at this
        omega
      · rw [q7, hjf]
        congr 1
        by_cases hw : g' s < u s
        · have : 0 < fs.length := by rw [tlen, if_pos hw]; omega
          simp [hw, this]
        · simp [hw]
  · simp only [go_sem, f0, f3, reduceIte, Nat.reduceEqDiff, Nat.reduceAdd, Nat.reduceMul, Nat.reduceSub, Nat.reduceLT, Nat.reduceLeDiff, Nat.le_refl, Nat.zero_le, Nat.zero_add, Nat.add_zero, Nat.mul_one, splice_zero, Int.toNat_natCast, Int.natCast_nonneg, Int.reduceLE, Int.reduceLT, Int.reduceToNat, Int.reduceEq, Int.cast_ofNat_Int, ne_eq, not_true_eq_false, not_false_eq_true, imp_self, implies_true, true_implies, false_implies, and_self, List.length_map, List.length_drop]
    obtain rfl : s = 2 := by omega
    exact aRet_as (r := boo true) rfl ⟨rfl, D', g', c', h, hI, hH⟩

theorem tdiv8 (a : Nat) : ((a : Int)).tdiv 8 = ((a / 8 : Nat) : Int) := by
  rw [Int.tdiv_eq_ediv_of_nonneg (by omega)]
  omega

theorem all_at (l : List (Int × Int × Int)) : AT Try.prog 6 [.sl 3 (l.map mvC)] (fun _ => none) fun r _ => r = boo true := by
  refine AT.of_body Try.func6 rfl (by decide) (by kernel_rfl) (by kernel_rfl) (Nat.le_of_ble_eq_true rfl) ?_
  simp only [go_sem, reduceIte, Nat.reduceEqDiff, Nat.reduceAdd, Nat.reduceMul, Nat.reduceSub, Nat.reduceLT, Nat.reduceLeDiff, Nat.le_refl, Nat.zero_le, Nat.zero_add, Nat.add_zero, Nat.mul_one, splice_zero, Int.toNat_natCast, Int.natCast_nonneg, Int.reduceLE, Int.reduceLT, Int.reduceToNat, Int.reduceEq, Int.cast_ofNat_Int, ne_eq, not_true_eq_false, not_false_eq_true, imp_self, implies_true, true_implies, false_implies, and_self, List.length_map, List.length_drop]
  refine begin_at.mono ?_
  rintro _ σ ⟨p, e0, m0, e1, m1, rfl, h0⟩
  have hG : Good σ p 0 0 := ⟨_, _, _, _, h0, good_begin, fun i _ => Nat.le_refl _⟩
  clear h0
  simp only [go_sem, reduceIte, Nat.reduceEqDiff, Nat.reduceAdd, Nat.reduceMul, Nat.reduceSub, Nat.reduceLT, Nat.reduceLeDiff, Nat.le_refl, Nat.zero_le, Nat.zero_add, Nat.add_zero, Nat.mul_one, splice_zero, Int.toNat_natCast, Int.natCast_nonneg, Int.reduceLE, Int.reduceLT, Int.reduceToNat, Int.reduceEq, Int.cast_ofNat_Int, ne_eq, not_true_eq_false, not_false_eq_true, imp_self, implies_true, true_implies, false_implies, and_self, List.length_map, List.length_drop]
  refine aMeet (fun fr σ' => fr 3 = ptr p ∧ Good σ' p 400 200) ?_ ?_
  · rw [r_block]
    simp only [go_sem, reduceIte, Nat.reduceEqDiff, Nat.reduceAdd, Nat.reduceMul, Nat.reduceSub, Nat.reduceLT, Nat.reduceLeDiff, Nat.le_refl, Nat.zero_le, Nat.zero_add, Nat.add_zero, Nat.mul_one, splice_zero, Int.toNat_natCast, Int.natCast_nonneg, Int.reduceLE, Int.reduceLT, Int.reduceToNat, Int.reduceEq, Int.cast_ofNat_Int, ne_eq, not_true_eq_false, not_false_eq_true, imp_self, implies_true, true_implies, false_implies, and_self, List.length_map, List.length_drop]
    refine ⟨fun k fr σ' => ∃ i : Nat, k = 200 - i ∧ i ≤ 200 ∧ fr 0 = .sl 3 (l.map mvC) ∧ fr 3 = ptr p ∧ fr 4 = int i ∧ Good σ' p (2 * i) i, ⟨200, 0, rfl, by omega, rfl, rfl, rfl, hG⟩, ?_⟩
    clear hG
    rintro k fr σ ⟨i, rfl, hi, f0, f3, f4, hG⟩
    have hG' : Good σ p 400 200 := by
      obtain ⟨D, g, u, c, h1, h2, h3⟩ := hG
      exact ⟨D, g, u, c, h1, h2.more (by omega) (by omega), fun j hj => by have := h3 j hj; omega⟩
    simp only [go_sem, f0, f3, f4, reduceIte, Nat.reduceEqDiff, Nat.reduceAdd, Nat.reduceMul, Nat.reduceSub, Nat.reduceLT, Nat.reduceLeDiff, Nat.le_refl, Nat.zero_le, Nat.zero_add, Nat.add_zero, Nat.mul_one, splice_zero, Int.toNat_natCast, Int.natCast_nonneg, Int.reduceLE, Int.reduceLT, Int.reduceToNat, Int.reduceEq, Int.cast_ofNat_Int, ne_eq, not_true_eq_false, not_false_eq_true, imp_self, implies_true, true_implies, false_implies, and_self, List.length_map, List.length_drop]
    refine aIf_by (fun hlt => ?_) (fun hlt => ?_)
    · simp only [go_sem, r_block, f0, f3, f4, decide_eq_true hlt, reduceIte, Nat.reduceEqDiff, Nat.reduceAdd, Nat.reduceMul, Nat.reduceSub, Nat.reduceLT, Nat.reduceLeDiff, Nat.le_refl, Nat.zero_le, Nat.zero_add, Nat.add_zero, Nat.mul_one, splice_zero, Int.toNat_natCast, Int.natCast_nonneg, Int.reduceLE, Int.reduceLT, Int.reduceToNat, Int.reduceEq, Int.cast_ofNat_Int, ne_eq, not_true_eq_false, not_false_eq_true, imp_self, implies_true, true_implies, false_implies, and_self, List.length_map, List.length_drop]
      refine aIf_by (fun hlt2 => ?_) (fun hlt2 => ?_)
      · obtain ⟨⟨a, b, c⟩, hm⟩ : ∃ m, m = l[i]'(by omega) := ⟨_, rfl⟩
        have hel : (l.map mvC).getD i [] = [int a, int b, int c] := by
          rw [List.getD_eq_getElem?_getD, List.getElem?_map, List.getElem?_eq_getElem (by omega), ← hm]
          rfl
        simp only [go_sem, r_block, f0, f3, f4, hel, hlt, reduceIte, Nat.reduceEqDiff, Nat.reduceAdd, Nat.reduceMul, Nat.reduceSub, Nat.reduceLT, Nat.reduceLeDiff, Nat.le_refl, Nat.zero_le, Nat.zero_add, Nat.add_zero, Nat.mul_one, splice_zero, Int.toNat_natCast, Int.natCast_nonneg, Int.reduceLE, Int.reduceLT, Int.reduceToNat, Int.reduceEq, Int.cast_ofNat_Int, ne_eq, not_true_eq_false, not_false_eq_true, imp_self, implies_true, true_implies, false_implies, and_self, List.length_map, List.length_drop]
        refine (move_at hG (by omega) (by omega) a b c).mono ?_
        rintro _ σ1 ⟨rfl, hG1⟩
        simp only [go_sem, r_block, f0, f3, f4, reduceIte, Nat.reduceEqDiff, Nat.reduceAdd, Nat.reduceMul, Nat.reduceSub, Nat.reduceLT, Nat.reduceLeDiff, Nat.le_refl, Nat.zero_le, Nat.zero_add, Nat.add_zero, Nat.mul_one, splice_zero, Int.toNat_natCast, Int.natCast_nonneg, Int.reduceLE, Int.reduceLT, Int.reduceToNat, Int.reduceEq, Int.cast_ofNat_Int, ne_eq, not_true_eq_false, not_false_eq_true, imp_self, implies_true, true_implies, false_implies, and_self, List.length_map, List.length_drop]
        rw [next64 (by omega)]
        exact ⟨200 - (i + 1), by omega, i + 1, rfl, by omega, rfl, hG1⟩
      · simp only [go_sem, f3, reduceIte, Nat.reduceEqDiff, Nat.reduceAdd, Nat.reduceMul, Nat.reduceSub, Nat.reduceLT, Nat.reduceLeDiff, Nat.le_refl, Nat.zero_le, Nat.zero_add, Nat.add_zero, Nat.mul_one, splice_zero, Int.toNat_natCast, Int.natCast_nonneg, Int.reduceLE, Int.reduceLT, Int.reduceToNat, Int.reduceEq, Int.cast_ofNat_Int, ne_eq, not_true_eq_false, not_false_eq_true, imp_self, implies_true, true_implies, false_implies, and_self, List.length_map, List.length_drop]
        exact hG'
    · simp only [go_sem, decide_eq_false hlt, f3, reduceIte, Nat.reduceEqDiff, Nat.reduceAdd, Nat.reduceMul, Nat.reduceSub, Nat.reduceLT, Nat.reduceLeDiff, Nat.le_refl, Nat.zero_le, Nat.zero_add, Nat.add_zero, Nat.mul_one, splice_zero, Int.toNat_natCast, Int.natCast_nonneg, Int.reduceLE, Int.reduceLT, Int.reduceToNat, Int.reduceEq, Int.cast_ofNat_Int, ne_eq, not_true_eq_false, not_false_eq_true, imp_self, implies_true, true_implies, false_implies, and_self, List.length_map, List.length_drop]
      exact hG'
  rintro fr σ1 ⟨f3, D, g, u, c, h, hI, hu⟩
  clear hG
  have hu0 := hu 0 (by omega)
  have hu1 := hu 1 (by omega)
  have e0' : (D 0).pu = u 0 := hI.pu 0 (by omega)
  have e1' : (D 1).pu = u 1 := hI.pu 1 (by omega)
  have b0 : (0 : Int) < 2 := by decide
  have p40 : (pairC D).getD 4 (.v undef) = int (u 0) := by rw [← e0']; rfl
  have p41 : (pairC D).getD 5 (.v undef) = int (u 1) := by rw [← e1']; rfl
  simp only [go_sem, f3, reduceIte, Nat.reduceEqDiff, Nat.reduceAdd, Nat.reduceMul, Nat.reduceSub, Nat.reduceLT, Nat.reduceLeDiff, Nat.le_refl, Nat.zero_le, Nat.zero_add, Nat.add_zero, Nat.mul_one, splice_zero, Int.toNat_natCast, Int.natCast_nonneg, Int.reduceLE, Int.reduceLT, Int.reduceToNat, Int.reduceEq, Int.cast_ofNat_Int, ne_eq, not_true_eq_false, not_false_eq_true, imp_self, implies_true, true_implies, false_implies, and_self, List.length_map, List.length_drop]
  refine aDraw_plan [.rd 0 false, .rd 1 false, .rd 2 false, .rd 3 false, .rd 4 true, .rd 5 false, .rd 6 false, .rd 7 false, .rd 8 false, .rd 9 true, .rd 10 false, .rd 11 false, .rd 12 false, .rd 13 false, .rd 14 false, .rd 15 false] (by kernel_rfl) (by kernel_rfl) (by kernel_rfl) ?_
  obtain ⟨R, hR⟩ : ∃ R, R = max (u 0) (u 1) / 8 + 1 := ⟨_, rfl⟩
  have hR8 : max (u 0) (u 1) ≤ 8 * R := by omega
  have hR200 : R ≤ 26 := by omega
  have emax : max (u 0 : Int) (u 1 : Int) = ((max (u 0) (u 1) : Nat) : Int) := by omega
  simp only [go_sem, f3, h.ob, pc_len, p40, p41, emax, tdiv8, reduceIte, Nat.reduceEqDiff, Nat.reduceAdd, Nat.reduceMul, Nat.reduceSub, Nat.reduceLT, Nat.reduceLeDiff, Nat.le_refl, Nat.zero_le, Nat.zero_add, Nat.add_zero, Nat.mul_one, splice_zero, Int.toNat_natCast, Int.natCast_nonneg, Int.reduceLE, Int.reduceLT, Int.reduceToNat, Int.reduceEq, Int.cast_ofNat_Int, ne_eq, not_true_eq_false, not_false_eq_true, imp_self, implies_true, true_implies, false_implies, and_self, List.length_map, List.length_drop]
  rw [wrap64 (x := ((max (u 0) (u 1) / 8 : Nat) : Int)) (by omega), wrap64 (x := ((max (u 0) (u 1) / 8 : Nat) : Int) + 1) (by omega), wrap64 (x := 2 * _) (by omega), wrap64 (by omega)]
  rw [show (4 : Int) + 2 * (((max (u 0) (u 1) / 8 : Nat) : Int) + 1) = ((4 + 2 * R : Nat) : Int) by omega]
  rw [r_block]
  simp only [go_sem, reduceIte, Nat.reduceEqDiff, Nat.reduceAdd, Nat.reduceMul, Nat.reduceSub, Nat.reduceLT, Nat.reduceLeDiff, Nat.le_refl, Nat.zero_le, Nat.zero_add, Nat.add_zero, Nat.mul_one, splice_zero, Int.toNat_natCast, Int.natCast_nonneg, Int.reduceLE, Int.reduceLT, Int.reduceToNat, Int.reduceEq, Int.cast_ofNat_Int, ne_eq, not_true_eq_false, not_false_eq_true, imp_self, implies_true, true_implies, false_implies, and_self, List.length_map, List.length_drop]
  refine ⟨fun k fr σ' => ∃ (r : Nat) (D' : Nat → Sd) (g' c' : Nat → Nat), k = 4 + 2 * R - r ∧ r ≤ 4 + 2 * R ∧ fr 3 = ptr p ∧ fr 5 = int (4 + 2 * R : Nat) ∧ fr 6 = int r ∧ PairAt σ' p D' ∧ PI D' g' u c' (400 + 16 * r) ∧ Rnd R r D' g' u c',
    ⟨4 + 2 * R, 0, D, g, c, rfl, by omega, f3, rfl, rfl, h, hI, by omega, by omega, fun hh => by omega, fun hh => by omega, fun hh => by omega⟩, ?_⟩
  clear h hI f3 p40 p41 e0' e1'
  rintro k fr σ2 ⟨r, D', g', c', rfl, hr, f3, f5, f6, h, hI, hRnd⟩
  simp only [go_sem, f3, f5, f6, reduceIte, Nat.reduceEqDiff, Nat.reduceAdd, Nat.reduceMul, Nat.reduceSub, Nat.reduceLT, Nat.reduceLeDiff, Nat.le_refl, Nat.zero_le, Nat.zero_add, Nat.add_zero, Nat.mul_one, splice_zero, Int.toNat_natCast, Int.natCast_nonneg, Int.reduceLE, Int.reduceLT, Int.reduceToNat, Int.reduceEq, Int.cast_ofNat_Int, ne_eq, not_true_eq_false, not_false_eq_true, imp_self, implies_true, true_implies, false_implies, and_self, List.length_map, List.length_drop]
  refine aIf_by (fun hlt => ?_) (fun hlt => ?_)
  · simp only [go_sem, r_block, f3, f5, f6, reduceIte, Nat.reduceEqDiff, Nat.reduceAdd, Nat.reduceMul, Nat.reduceSub, Nat.reduceLT, Nat.reduceLeDiff, Nat.le_refl, Nat.zero_le, Nat.zero_add, Nat.add_zero, Nat.mul_one, splice_zero, Int.toNat_natCast, Int.natCast_nonneg, Int.reduceLE, Int.reduceLT, Int.reduceToNat, Int.reduceEq, Int.cast_ofNat_Int, ne_eq, not_true_eq_false, not_false_eq_true, imp_self, implies_true, true_implies, false_implies, and_self, List.length_map, List.length_drop]
    refine (round_at h hI (by omega)).mono ?_
    rintro _ σ3 ⟨rfl, D2, g2, c2, h2, hI2, D1, g1, c1, ⟨Da, ga, ca, ⟨rfl, rfl, rfl⟩, hIa, hHa⟩, hIb, hHb⟩
    have hRnd2 := hRnd.step hI hIb hI2 hHa hHb hR8
    simp only [go_sem, r_block, f3, f5, f6, reduceIte, Nat.reduceEqDiff, Nat.reduceAdd, Nat.reduceMul, Nat.reduceSub, Nat.reduceLT, Nat.reduceLeDiff, Nat.le_refl, Nat.zero_le, Nat.zero_add, Nat.add_zero, Nat.mul_one, splice_zero, Int.toNat_natCast, Int.natCast_nonneg, Int.reduceLE, Int.reduceLT, Int.reduceToNat, Int.reduceEq, Int.cast_ofNat_Int, ne_eq, not_true_eq_false, not_false_eq_true, imp_self, implies_true, true_implies, false_implies, and_self, List.length_map, List.length_drop]
    refine (right_at h2 hI2).mono ?_
    rintro _ σ4 ⟨rfl, rfl⟩
    simp only [go_sem, r_block, f3, f5, f6, reduceIte, Nat.reduceEqDiff, Nat.reduceAdd, Nat.reduceMul, Nat.reduceSub, Nat.reduceLT, Nat.reduceLeDiff, Nat.le_refl, Nat.zero_le, Nat.zero_add, Nat.add_zero, Nat.mul_one, splice_zero, Int.toNat_natCast, Int.natCast_nonneg, Int.reduceLE, Int.reduceLT, Int.reduceToNat, Int.reduceEq, Int.cast_ofNat_Int, ne_eq, not_true_eq_false, not_false_eq_true, imp_self, implies_true, true_implies, false_implies, and_self, List.length_map, List.length_drop]
    rw [next64 (by omega)]
    exact ⟨4 + 2 * R - (r + 1), by omega, r + 1, D2, g2, c2, rfl, by omega, rfl, h2, hI2.more (by omega) (by omega), hRnd2⟩
  · obtain rfl : r = 4 + 2 * R := by omega
    have q1 := hRnd.a
    have q2 := hRnd.b
    have q3 := hRnd.e (by omega)
    obtain ⟨q4, q5⟩ := hRnd.f (by omega)
    have i1 := hI.gu 0 (by omega)
    have i3 := hI.cu 0 (by omega)
    have i4 := hI.cu 1 (by omega)
    have i5 := hI.gc 0 (by omega)
    simp only [Nat.sub_zero, Nat.sub_self] at i3 i4 i5
    have z1 : ∀ i, i < 2 → g' i = u i ∧ c' i = u (1 - i) ∧ (D' i).s.owes = false := fun i hi => by
      rcases two hi with rfl | rfl
      · exact ⟨by omega, by simp only [Nat.sub_zero]; omega, q4⟩
      · exact ⟨q3, by simp only [Nat.sub_self]; omega, q5⟩
    clear hRnd q1 q2 q3 q4 q5 i1 i3 i4 i5 hlt hr
    simp only [go_sem, f3, reduceIte, Nat.reduceEqDiff, Nat.reduceAdd, Nat.reduceMul, Nat.reduceSub, Nat.reduceLT, Nat.reduceLeDiff, Nat.le_refl, Nat.zero_le, Nat.zero_add, Nat.add_zero, Nat.mul_one, splice_zero, Int.toNat_natCast, Int.natCast_nonneg, Int.reduceLE, Int.reduceLT, Int.reduceToNat, Int.reduceEq, Int.cast_ofNat_Int, ne_eq, not_true_eq_false, not_false_eq_true, imp_self, implies_true, true_implies, false_implies, and_self, List.length_map, List.length_drop]
    rw [r_block]
    simp only [go_sem, reduceIte, Nat.reduceEqDiff, Nat.reduceAdd, Nat.reduceMul, Nat.reduceSub, Nat.reduceLT, Nat.reduceLeDiff, Nat.le_refl, Nat.zero_le, Nat.zero_add, Nat.add_zero, Nat.mul_one, splice_zero, Int.toNat_natCast, Int.natCast_nonneg, Int.reduceLE, Int.reduceLT, Int.reduceToNat, Int.reduceEq, Int.cast_ofNat_Int, ne_eq, not_true_eq_false, not_false_eq_true, imp_self, implies_true, true_implies, false_implies, and_self, List.length_map, List.length_drop]
    refine ⟨fun k fr σ' => ∃ i : Nat, k = 2 - i ∧ i ≤ 2 ∧ fr 3 = ptr p ∧ fr 7 = int i ∧ σ' = σ2, ⟨2, 0, rfl, by omega, f3, rfl, rfl⟩, ?_⟩
    clear f3 f5 f6
    rintro k fr σ2 ⟨i, rfl, hi, f3, f7, rfl⟩
    simp only [go_sem, f3, f7, reduceIte, Nat.reduceEqDiff, Nat.reduceAdd, Nat.reduceMul, Nat.reduceSub, Nat.reduceLT, Nat.reduceLeDiff, Nat.le_refl, Nat.zero_le, Nat.zero_add, Nat.add_zero, Nat.mul_one, splice_zero, Int.toNat_natCast, Int.natCast_nonneg, Int.reduceLE, Int.reduceLT, Int.reduceToNat, Int.reduceEq, Int.cast_ofNat_Int, ne_eq, not_true_eq_false, not_false_eq_true, imp_self, implies_true, true_implies, false_implies, and_self, List.length_map, List.length_drop]
    refine aIf_by (fun hlt => ?_) (fun hlt => ?_)
    · have hi2 : i < 2 := by omega
      obtain ⟨y1, y2, y3⟩ := z1 i hi2
      have b0 : (i : Int) < 2 := hlt
      have b1 : i < 8 := by omega
      have b7 : 6 + i < 8 := by omega
      have ew : IntKind.i64.wrap (1 - (i : Int)) = ((1 - i : Nat) : Int) := by rw [wrap64 (by omega)]; omega
      have b2 : ((1 - i : Nat) : Int) < 2 := by omega
      have b3 : 4 + (1 - i) < 8 := by omega
      have hto : (D' i).told.length = c' i := by rw [hI.told i hi2, many_len]
      have hpu : (D' (1 - i)).pu = u (1 - i) := hI.pu (1 - i) (by omega)
      have hwt : (D' i).s.wait.length = 0 := by rw [hI.wait i hi2, many_len]; omega
      have k1 : decide (((D' i).told.length : Int) = (D' (1 - i)).pu) = true := by simp only [decide_eq_true_eq]; omega
      simp only [go_sem, r_block, f3, f7, reduceIte, Nat.reduceEqDiff, Nat.reduceAdd, Nat.reduceMul, Nat.reduceSub, Nat.reduceLT, Nat.reduceLeDiff, Nat.le_refl, Nat.zero_le, Nat.zero_add, Nat.add_zero, Nat.mul_one, splice_zero, Int.toNat_natCast, Int.natCast_nonneg, Int.reduceLE, Int.reduceLT, Int.reduceToNat, Int.reduceEq, Int.cast_ofNat_Int, ne_eq, not_true_eq_false, not_false_eq_true, imp_self, implies_true, true_implies, false_implies, and_self, List.length_map, List.length_drop]
      refine aDraw_plan [.rd 0 false, .rd 1 false, .rd 2 false, .rd 3 false, .rd 4 false, .rd 5 true, .rd 6 false, .rd 7 false, .rd 8 false, .rd 9 false, .rd 10 false, .rd 11 false, .rd 12 false, .rd 13 true, .rd 14 false, .rd 15 false, .rd 16 false, .rd 17 false, .rd 18 false, .rd 19 false, .rd 20 false, .rd 21 true, .ef 22 [], .rd 23 false, .rd 24 false, .rd 25 false, .rd 26 false, .rd 27 false, .rd 28 false, .rd 29 false, .rd 30 false, .rd 31 true, .ef 32 [], .rd 33 false, .rd 34 false, .rd 35 false, .rd 36 false, .rd 37 false, .rd 38 false, .rd 39 false, .rd 40 true, .ef 41 [], .rd 42 false, .rd 43 false, .rd 44 false] (by kernel_rfl) (by kernel_rfl) (by kernel_rfl) ?_
      simp only [go_sem, r_block, f3, f7, h.ob, pc_len, pc6 hi2, pc0 hi2, pc4 (show 1 - i < 2 by omega), b0, b1, b2, b3, b7, ew, (h.sd i hi2).tl.len, k1, reduceIte, Nat.reduceEqDiff, Nat.reduceAdd, Nat.reduceMul, Nat.reduceSub, Nat.reduceLT, Nat.reduceLeDiff, Nat.le_refl, Nat.zero_le, Nat.zero_add, Nat.add_zero, Nat.mul_one, splice_zero, Int.toNat_natCast, Int.natCast_nonneg, Int.reduceLE, Int.reduceLT, Int.reduceToNat, Int.reduceEq, Int.cast_ofNat_Int, ne_eq, not_true_eq_false, not_false_eq_true, imp_self, implies_true, true_implies, false_implies, and_self, List.length_map, List.length_drop]
      refine (waiting_at (h.sd i hi2).lk.ob).mono ?_
      rintro _ σ3 ⟨rfl, rfl⟩
      simp only [go_sem, r_block, f3, f7, h.ob, pc_len, pc0 hi2, b0, b1, hwt, reduceIte, Nat.reduceEqDiff, Nat.reduceAdd, Nat.reduceMul, Nat.reduceSub, Nat.reduceLT, Nat.reduceLeDiff, Nat.le_refl, Nat.zero_le, Nat.zero_add, Nat.add_zero, Nat.mul_one, splice_zero, Int.toNat_natCast, Int.natCast_nonneg, Int.reduceLE, Int.reduceLT, Int.reduceToNat, Int.reduceEq, Int.cast_ofNat_Int, ne_eq, not_true_eq_false, not_false_eq_true, imp_self, implies_true, true_implies, false_implies, and_self, List.length_map, List.length_drop]
      refine (owes_at (h.sd i hi2).lk.ob).mono ?_
      rintro _ σ3 ⟨rfl, rfl⟩
      simp only [go_sem, r_block, f3, f7, h.ob, pc_len, pc0 hi2, b0, b1, y3, reduceIte, Nat.reduceEqDiff, Nat.reduceAdd, Nat.reduceMul, Nat.reduceSub, Nat.reduceLT, Nat.reduceLeDiff, Nat.le_refl, Nat.zero_le, Nat.zero_add, Nat.add_zero, Nat.mul_one, splice_zero, Int.toNat_natCast, Int.natCast_nonneg, Int.reduceLE, Int.reduceLT, Int.reduceToNat, Int.reduceEq, Int.cast_ofNat_Int, ne_eq, not_true_eq_false, not_false_eq_true, imp_self, implies_true, true_implies, false_implies, and_self, List.length_map, List.length_drop]
      have fit := hI.fit hi2
      refine (tick_at (h.sd i hi2).lk.ob fit.ar ⟨fit.g0, fit.g1⟩ fit.wt).mono ?_
      rintro _ σ4 ⟨rfl, hs⟩
      have ht : (D' i).s.tick = ([], (D' i).s) := by
        have hw : (D' i).s.wait = [] := List.eq_nil_of_length_eq_zero hwt
        unfold Ls.tick
        rw [if_pos hw, y3]
        congr 1
        generalize (D' i).s = s at y3
        cases s
        simp only at y3
        rw [y3]
      rw [ht] at hs ⊢
      have hs' : σ4 = σ3 := by rw [hs]; exact set_id (h.sd i hi2).lk.ob
      subst hs'
      simp only [go_sem, r_block, f3, f7, reduceIte, Nat.reduceEqDiff, Nat.reduceAdd, Nat.reduceMul, Nat.reduceSub, Nat.reduceLT, Nat.reduceLeDiff, Nat.le_refl, Nat.zero_le, Nat.zero_add, Nat.add_zero, Nat.mul_one, splice_zero, Int.toNat_natCast, Int.natCast_nonneg, Int.reduceLE, Int.reduceLT, Int.reduceToNat, Int.reduceEq, Int.cast_ofNat_Int, ne_eq, not_true_eq_false, not_false_eq_true, imp_self, implies_true, true_implies, false_implies, and_self, List.length_map, List.length_drop]
      rw [next64 (by omega)]
      exact ⟨2 - (i + 1), by omega, i + 1, rfl, by omega, rfl⟩
    · simp only [go_sem, f3, reduceIte, Nat.reduceEqDiff, Nat.reduceAdd, Nat.reduceMul, Nat.reduceSub, Nat.reduceLT, Nat.reduceLeDiff, Nat.le_refl, Nat.zero_le, Nat.zero_add, Nat.add_zero, Nat.mul_one, splice_zero, Int.toNat_natCast, Int.natCast_nonneg, Int.reduceLE, Int.reduceLT, Int.reduceToNat, Int.reduceEq, Int.cast_ofNat_Int, ne_eq, not_true_eq_false, not_false_eq_true, imp_self, implies_true, true_implies, false_implies, and_self, List.length_map, List.length_drop]
      refine live_at.mono ?_
      rintro _ σ3 ⟨rfl, rfl⟩
      simp only [go_sem, f3, reduceIte, Nat.reduceEqDiff, Nat.reduceAdd, Nat.reduceMul, Nat.reduceSub, Nat.reduceLT, Nat.reduceLeDiff, Nat.le_refl, Nat.zero_le, Nat.zero_add, Nat.add_zero, Nat.mul_one, splice_zero, Int.toNat_natCast, Int.natCast_nonneg, Int.reduceLE, Int.reduceLT, Int.reduceToNat, Int.reduceEq, Int.cast_ofNat_Int, ne_eq, not_true_eq_false, not_false_eq_true, imp_self, implies_true, true_implies, false_implies, and_self, List.length_map, List.length_drop]
      exact aRet_as (r := boo true) rfl rfl
end
end Go.Proofs.Ytpdbmnogfanpmaa
