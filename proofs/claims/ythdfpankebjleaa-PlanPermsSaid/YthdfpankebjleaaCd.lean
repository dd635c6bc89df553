/-
  Two slices in variables that a closure writes; the closure of the plan's order.
  Conditions: none.
-/
import Derived.Test.YthdfpankebjleaaCc
set_option linter.unusedVariables false
set_option linter.unusedSimpArgs false
set_option maxRecDepth 100000
namespace Go.Proofs.Ythdfpankebjleaa
open Go Go.Av

/-- A variable in memory that holds a slice. -/
structure CV (q : Nat) (σ : St) (p : Nat) (lv : AV) (es : List (List AV)) : Prop where
  cell : σ p = some (.cells [lv])
  lat : LAt q σ lv es
/-- A block that is none of the variable's. -/
def Off (p : Nat) (lv : AV) (x : Nat) : Prop := x ≠ p ∧ ¬ Own lv x
section
variable {q : Nat} {σ σ' σ1 : St} {p : Nat} {lv lw : AV} {es es' : List (List AV)}
theorem CV.keep (h : CV q σ p lv es) (hs : ∀ x o, σ x = some o → ¬ Off p lv x → σ' x = some o) : CV q σ' p lv es :=
  ⟨hs _ _ h.cell fun e => e.1 rfl, h.lat.keep fun x o hx ho => hs x o hx fun e => e.2 ho⟩
theorem CV.some (h : CV q σ p lv es) {x : Nat} (hx : ¬ Off p lv x) : ∃ o, σ x = Option.some o := by
  by_cases e : x = p
  · exact ⟨_, e ▸ h.cell⟩
  · by_cases e2 : Own lv x
    · obtain ⟨c, hc⟩ := h.lat.own_rows e2
      exact ⟨_, hc⟩
    · exact absurd ⟨e, e2⟩ hx
theorem CV.off (h : CV q σ p lv es) {x : Nat} {ob : AObj} (hx : σ x = Option.some ob) (n1 : ∀ a, ob ≠ .cells [a]) (n2 : ∀ es f c, ob ≠ .rows q es f c) : Off p lv x :=
  ⟨fun e => by subst e; exact n1 _ (Option.some.inj (hx.symm.trans h.cell)), fun e => by obtain ⟨c, hc⟩ := h.lat.own_rows e; exact n2 _ _ _ (Option.some.inj (hx.symm.trans hc))⟩
theorem CV.step (h : CV q σ p lv es) (hw : LAt q σ1 lw es') (hs : ∀ x o, σ x = Option.some o → ¬ Own lv x → σ1 x = Option.some o ∧ ¬ Own lw x) :
    CV q (σ1.set p (.cells [lw])) p lw es' ∧ ∀ x o, σ x = Option.some o → Off p lv x → (σ1.set p (.cells [lw])) x = Option.some o ∧ Off p lw x := by
  have h1 := hs p _ h.cell (h.lat.not_own h.cell)
  refine ⟨⟨set_same, lat_set hw h1.1 h1.2⟩, fun x o hx ho => ?_⟩
  have h2 := hs x o hx ho.2
  exact ⟨by rw [set_ne ho.1]; exact h2.1, ho.1, h2.2⟩
end

/-- The numbers that are out, and the variables that are known; nothing of β is touched. -/
def PO (β σ : St) (o v : Nat) (out : List Int) (vs : List ByteArray) : Prop :=
  ∃ lo lw, CV 1 σ o lo (inC out) ∧ CV 1 σ v lw (stC vs) ∧ (∀ x, Off o lo x ∨ Off v lw x) ∧ ∀ x p, β x = some p → σ x = some p ∧ Off o lo x ∧ Off v lw x
section
variable {β σ : St} {o v : Nat} {ou : List Int} {vs : List ByteArray}
theorem PO.sub (h : PO β σ o v ou vs) : ∀ x p, β x = some p → σ x = some p := by
  obtain ⟨lo, lw, h1, h2, h3, h4⟩ := h
  exact fun x p hx => (h4 x p hx).1
theorem PO.keep (h : PO β σ o v ou vs) {σ' : St} (hs : ∀ x p, σ x = some p → σ' x = some p) : PO β σ' o v ou vs := by
  obtain ⟨lo, lw, h1, h2, h3, h4⟩ := h
  exact ⟨lo, lw, h1.keep fun x p hx _ => hs x p hx, h2.keep fun x p hx _ => hs x p hx, h3, fun x p hx => ⟨hs x p (h4 x p hx).1, (h4 x p hx).2⟩⟩
theorem PO.weak (h : PO β σ o v ou vs) {γ : St} (hs : ∀ x p, γ x = some p → β x = some p) : PO γ σ o v ou vs := by
  obtain ⟨lo, lw, h1, h2, h3, h4⟩ := h
  exact ⟨lo, lw, h1, h2, h3, fun x p hx => h4 x p (hs x p hx)⟩
theorem PO.new (h : PO β σ o v ou vs) {c : Nat} {ob : AObj} (hc : σ c = none) : PO β (σ.set c ob) o v ou vs := by
  obtain ⟨lo, lw, h1, h2, h3, h4⟩ := h
  have hs : ∀ x p, σ x = some p → (σ.set c ob) x = some p := set_sub hc fun _ _ h => h
  exact ⟨lo, lw, h1.keep fun x p hx _ => hs x p hx, h2.keep fun x p hx _ => hs x p hx, h3, fun x p hx => ⟨hs x p (h4 x p hx).1, (h4 x p hx).2⟩⟩
/-- All that is not the variables' stays too. -/
theorem PO.base (h : PO β σ o v ou vs) : ∃ γ, PO γ σ o v ou vs ∧ (∀ x p, β x = some p → γ x = some p) ∧ ∀ x p, σ x = some p → (∀ a, p ≠ .cells [a]) → (∀ es f c, p ≠ .rows 1 es f c) → γ x = some p := by
  obtain ⟨lo, lw, h1, h2, h3, h4⟩ := h
  refine ⟨fun x => open Classical in if Off o lo x ∧ Off v lw x then σ x else none, ⟨lo, lw, h1, h2, h3, fun x p hx => ?_⟩, fun x p hx => ?_, fun x p hx n1 n2 => ?_⟩
  · by_cases e : Off o lo x ∧ Off v lw x
    · simp only [e, and_self, if_true] at hx; exact ⟨hx, e⟩
    · simp only [e, if_false] at hx; cases hx
  · have := h4 x p hx
    simp only [this.2, and_self, if_true]; exact this.1
  · have := And.intro (h1.off hx n1 n2) (h2.off hx n1 n2)
    simp only [this, and_self, if_true]; exact hx
/-- The walk's steps: what the first variable holds, one more behind it. -/
theorem PO.num (h : PO β σ o v ou vs) : ∃ lo, σ o = some (.cells [lo]) ∧ LAt 1 σ lo (inC ou) ∧ ∀ σ1 lo' ou', LAt 1 σ1 lo' (inC ou') → (∀ x p, σ x = some p → ¬ Own lo x → σ1 x = some p ∧ ¬ Own lo' x) → σ1 o = some (.cells [lo]) ∧ PO β (σ1.set o (.cells [lo'])) o v ou' vs := by
  obtain ⟨lo, lw, h1, h2, h3, h4⟩ := h
  refine ⟨lo, h1.cell, h1.lat, fun σ1 lo' ou' hl hs => ?_⟩
  obtain ⟨g1, g2⟩ := h1.step hl hs
  have k2 : CV 1 (σ1.set o (.cells [lo'])) v lw (stC vs) := h2.keep fun x p hx hn => (g2 x p hx ((h3 x).resolve_right hn)).1
  refine ⟨(hs o _ h1.cell (h1.lat.not_own h1.cell)).1, lo', lw, g1, k2, fun x => ?_, fun x p hx => ?_⟩
  · by_cases e : Off v lw x
    · exact .inr e
    · obtain ⟨p, hp⟩ := h2.some e
      exact .inl (g2 x p hp ((h3 x).resolve_right e)).2
  · have := h4 x p hx
    have k := g2 x p this.1 this.2.1
    exact ⟨k.1, k.2, this.2.2⟩
theorem PO.var (h : PO β σ o v ou vs) : ∃ lw, σ v = some (.cells [lw]) ∧ LAt 1 σ lw (stC vs) ∧ ∀ σ1 lw' vs', LAt 1 σ1 lw' (stC vs') → (∀ x p, σ x = some p → ¬ Own lw x → σ1 x = some p ∧ ¬ Own lw' x) → σ1 v = some (.cells [lw]) ∧ PO β (σ1.set v (.cells [lw'])) o v ou vs' := by
  obtain ⟨lo, lw, h1, h2, h3, h4⟩ := h
  refine ⟨lw, h2.cell, h2.lat, fun σ1 lw' vs' hl hs => ?_⟩
  obtain ⟨g1, g2⟩ := h2.step hl hs
  have k2 : CV 1 (σ1.set v (.cells [lw'])) o lo (inC ou) := h1.keep fun x p hx hn => (g2 x p hx ((h3 x).resolve_left hn)).1
  refine ⟨(hs v _ h2.cell (h2.lat.not_own h2.cell)).1, lo, lw', k2, g1, fun x => ?_, fun x p hx => ?_⟩
  · by_cases e : Off o lo x
    · exact .inl e
    · obtain ⟨p, hp⟩ := h1.some e
      exact .inr (g2 x p hp ((h3 x).resolve_left e)).2
  · have := h4 x p hx
    have k := g2 x p this.1 this.2.2
    exact ⟨k.1, this.2.1, k.2⟩
end

section
variable {β σ : St} {o v b : Nat} {out : List Nat} {vs : List ByteArray}
def nats (l : List Nat) : List Int := l.map Int.ofNat
@[go_sem] theorem nats_len (l : List Nat) : (nats l).length = l.length := by simp [nats]
theorem nats_mem {l : List Nat} {n : Nat} : (n : Int) ∈ nats l ↔ n ∈ l := by
  unfold nats
  rw [List.mem_map]
  exact ⟨fun ⟨a, h, e⟩ => by have e : a = n := Int.ofNat.inj e; rw [← e]; exact h, fun h => ⟨n, h, rfl⟩⟩
theorem nats_snoc {l : List Nat} {n : Nat} : inC (nats l) ++ [[int n]] = inC (nats (l ++ [n])) := by simp [inC, nats]

/-- A literal is taken. -/
theorem take_at (r : Rl) {k : Nat} (hk : k < r.bo.length) (hb : β b = some (.cells r.cs)) (h : PO β σ o v (nats out) vs) (h1 : out.length ≤ 1000000) (h2 : vs.length ≤ 1000000) (h3 : r.bo[k].ar.length ≤ 1000000) :
    AT Try.prog 28 [int k, ptr o, ptr b, ptr v] σ fun _ σ' => PO β σ' o v (nats (out ++ [k])) (ofLi r.bo[k] vs) := by
  refine AT.of_body Try.func28 rfl (by decide) (by kernel_rfl) (by kernel_rfl) (Nat.le_of_ble_eq_true rfl) ?_
  obtain ⟨lo, c1, c2, c3⟩ := h.num
  simp only [go_sem, r_block, c1, c2.one, c2.cells, reduceIte, Nat.reduceEqDiff, Nat.reduceAdd, Nat.reduceMul, Nat.reduceSub, Nat.reduceLT, Nat.reduceLeDiff, Nat.le_refl, Nat.zero_le, Nat.zero_add, Nat.add_zero, Nat.mul_one, splice_zero, Int.toNat_natCast, Int.natCast_nonneg, Int.reduceLE, Int.reduceLT, Int.reduceToNat, Int.reduceEq, Int.cast_ofNat_Int, ne_eq, not_true_eq_false, not_false_eq_true, imp_self, implies_true, true_implies, false_implies, and_self, List.length_map, List.length_drop]
  refine aApp_by (ys := [[int k]]) (by simp [src]) (by decide) (by decide) (by decide) (c2.app (by rw [inC_len, nats_len]; simp; omega) fun lo' σ1 hl hs => ?_)
  rw [nats_snoc] at hl
  obtain ⟨d1, d2⟩ := c3 σ1 lo' _ hl hs
  simp only [go_sem, d1, hl.one, hl.cells, reduceIte, Nat.reduceEqDiff, Nat.reduceAdd, Nat.reduceMul, Nat.reduceSub, Nat.reduceLT, Nat.reduceLeDiff, Nat.le_refl, Nat.zero_le, Nat.zero_add, Nat.add_zero, Nat.mul_one, splice_zero, Int.toNat_natCast, Int.natCast_nonneg, Int.reduceLE, Int.reduceLT, Int.reduceToNat, Int.reduceEq, Int.cast_ofNat_Int, ne_eq, not_true_eq_false, not_false_eq_true, imp_self, implies_true, true_implies, false_implies, and_self, List.length_map, List.length_drop]
  clear c1 c2 c3 hs h hl d1
  revert d2
  generalize σ1.set o (.cells [lo']) = σ2
  intro h
  have hb2 := h.sub _ _ hb
  simp only [go_sem, r_block, hb2, liC_get hk, reduceIte, Nat.reduceEqDiff, Nat.reduceAdd, Nat.reduceMul, Nat.reduceSub, Nat.reduceLT, Nat.reduceLeDiff, Nat.le_refl, Nat.zero_le, Nat.zero_add, Nat.add_zero, Nat.mul_one, splice_zero, Int.toNat_natCast, Int.natCast_nonneg, Int.reduceLE, Int.reduceLT, Int.reduceToNat, Int.reduceEq, Int.cast_ofNat_Int, ne_eq, not_true_eq_false, not_false_eq_true, imp_self, implies_true, true_implies, false_implies, and_self, List.length_map, List.length_drop]
  refine ⟨by omega, aNew_intro fun c hc hcn => ?_⟩
  have h' := h.new (ob := .cells r.bo[k].cs) hc
  obtain ⟨γ, g1, g2, g3⟩ := h'.base
  have hcc : γ c = some (.cells r.bo[k].cs) := g3 c _ set_same (fun a e => by injection e with e; exact absurd (congrArg List.length e) (by rw [Li.len]; simp)) (fun _ _ _ e => by cases e)
  simp only [go_sem, r_block, set_same, reduceIte, Nat.reduceEqDiff, Nat.reduceAdd, Nat.reduceMul, Nat.reduceSub, Nat.reduceLT, Nat.reduceLeDiff, Nat.le_refl, Nat.zero_le, Nat.zero_add, Nat.add_zero, Nat.mul_one, splice_zero, Int.toNat_natCast, Int.natCast_nonneg, Int.reduceLE, Int.reduceLT, Int.reduceToNat, Int.reduceEq, Int.cast_ofNat_Int, ne_eq, not_true_eq_false, not_false_eq_true, imp_self, implies_true, true_implies, false_implies, and_self, List.length_map, List.length_drop]
  clear hcn h hb2 hc
  revert h' g1 g2 g3 hcc
  intro h' g1 g2 g3 hcc
  refine aApp_by (ys := tmC r.bo[k].ar) (by simp [src]) (by decide) (by decide) (by decide) (LAt.full.app (by rw [tmC_len]; simp; omega) fun lt σ3 hw hs => ?_)
  have hno : ∀ x, ¬ Own (.fsl 4 [r.bo[k].by'.cs, r.bo[k].at'.cs]) x := fun x ⟨n, c, e⟩ => by cases e
  have g4 := g1.keep fun x o hx => (hs x o hx (hno x)).1
  clear h' g3 hs hno hcc
  have hw : LAt 4 σ3 lt (tmC (r.bo[k].by' :: r.bo[k].at' :: r.bo[k].ar)) := hw
  obtain ⟨ts, hts⟩ : ∃ ts, ts = r.bo[k].by' :: r.bo[k].at' :: r.bo[k].ar := ⟨_, rfl⟩
  have htl : ts.length ≤ 1000002 := by subst hts; simp; omega
  rw [← hts] at hw
  obtain ⟨δ, d1, d2, d3⟩ := g4.base
  have hw0 : LAt 4 δ lt (tmC ts) := hw.keep fun x o hx ho => d3 x o hx (fun a e => by subst e; exact hw.not_own hx ho) (fun es f c e => by
    obtain ⟨c', hc'⟩ := hw.own_rows ho
    rw [hx] at hc'
    rw [e] at hc'
    cases hc')
  simp only [go_sem, r_block, hw.len, reduceIte, Nat.reduceEqDiff, Nat.reduceAdd, Nat.reduceMul, Nat.reduceSub, Nat.reduceLT, Nat.reduceLeDiff, Nat.le_refl, Nat.zero_le, Nat.zero_add, Nat.add_zero, Nat.mul_one, splice_zero, Int.toNat_natCast, Int.natCast_nonneg, Int.reduceLE, Int.reduceLT, Int.reduceToNat, Int.reduceEq, Int.cast_ofNat_Int, ne_eq, not_true_eq_false, not_false_eq_true, imp_self, implies_true, true_implies, false_implies, and_self, List.length_map, List.length_drop]
  refine ⟨fun m fr σ' => ∃ i : Nat, m = ts.length - i ∧ i ≤ ts.length ∧ PO δ σ' o v (nats (out ++ [k])) (vs ++ (ts.take i).map Tm.v) ∧ fr 3 = ptr v ∧ fr 24 = lt ∧ fr 25 = int ts.length ∧ fr 26 = int i, ⟨_, 0, rfl, by omega, by simpa using d1, rfl, rfl, rfl, rfl⟩, ?_⟩
  rintro m fr σ4 ⟨i, rfl, h1, h, f3, f24, f25, f26⟩
  simp only [go_sem, f24, f25, f26, reduceIte, Nat.reduceEqDiff, Nat.reduceAdd, Nat.reduceMul, Nat.reduceSub, Nat.reduceLT, Nat.reduceLeDiff, Nat.le_refl, Nat.zero_le, Nat.zero_add, Nat.add_zero, Nat.mul_one, splice_zero, Int.toNat_natCast, Int.natCast_nonneg, Int.reduceLE, Int.reduceLT, Int.reduceToNat, Int.reduceEq, Int.cast_ofNat_Int, ne_eq, not_true_eq_false, not_false_eq_true, imp_self, implies_true, true_implies, false_implies, and_self, List.length_map, List.length_drop]
  refine aIf_by (fun hlt => ?_) (fun hlt => ?_)
  · have hi : i < ts.length := by omega
    have hw2 : LAt 4 σ4 lt (tmC ts) := hw0.keep fun x o hx _ => h.sub x o hx
    simp only [go_sem, r_block, f24, f26, reduceIte, Nat.reduceEqDiff, Nat.reduceAdd, Nat.reduceMul, Nat.reduceSub, Nat.reduceLT, Nat.reduceLeDiff, Nat.le_refl, Nat.zero_le, Nat.zero_add, Nat.add_zero, Nat.mul_one, splice_zero, Int.toNat_natCast, Int.natCast_nonneg, Int.reduceLE, Int.reduceLT, Int.reduceToNat, Int.reduceEq, Int.cast_ofNat_Int, ne_eq, not_true_eq_false, not_false_eq_true, imp_self, implies_true, true_implies, false_implies, and_self, List.length_map, List.length_drop]
    refine hw2.elem (by omega) (by rw [tmC_len]; omega) fun p hp => ?_
    simp only [go_sem, r_block, reduceIte, Nat.reduceEqDiff, Nat.reduceAdd, Nat.reduceMul, Nat.reduceSub, Nat.reduceLT, Nat.reduceLeDiff, Nat.le_refl, Nat.zero_le, Nat.zero_add, Nat.add_zero, Nat.mul_one, splice_zero, Int.toNat_natCast, Int.natCast_nonneg, Int.reduceLE, Int.reduceLT, Int.reduceToNat, Int.reduceEq, Int.cast_ofNat_Int, ne_eq, not_true_eq_false, not_false_eq_true, imp_self, implies_true, true_implies, false_implies, and_self, List.length_map, List.length_drop]
    refine hp.load (by omega) (by rw [Int.toNat_natCast, tmC_get hi]; exact Nat.le_refl 4) ?_
    simp only [go_sem, tmC_get hi, reduceIte, Nat.reduceEqDiff, Nat.reduceAdd, Nat.reduceMul, Nat.reduceSub, Nat.reduceLT, Nat.reduceLeDiff, Nat.le_refl, Nat.zero_le, Nat.zero_add, Nat.add_zero, Nat.mul_one, splice_zero, Int.toNat_natCast, Int.natCast_nonneg, Int.reduceLE, Int.reduceLT, Int.reduceToNat, Int.reduceEq, Int.cast_ofNat_Int, ne_eq, not_true_eq_false, not_false_eq_true, imp_self, implies_true, true_implies, false_implies, and_self, List.length_map, List.length_drop]
    refine aNew_intro fun d hd hdn => ?_
    have h := h.new (ob := .cells ts[i].cs) hd
    obtain ⟨lw, c1, c2, c3⟩ := h.var
    simp only [go_sem, r_block, set_same, f3, c1, c2.one, c2.cells, reduceIte, Nat.reduceEqDiff, Nat.reduceAdd, Nat.reduceMul, Nat.reduceSub, Nat.reduceLT, Nat.reduceLeDiff, Nat.le_refl, Nat.zero_le, Nat.zero_add, Nat.add_zero, Nat.mul_one, splice_zero, Int.toNat_natCast, Int.natCast_nonneg, Int.reduceLE, Int.reduceLT, Int.reduceToNat, Int.reduceEq, Int.cast_ofNat_Int, ne_eq, not_true_eq_false, not_false_eq_true, imp_self, implies_true, true_implies, false_implies, and_self, List.length_map, List.length_drop]
    have hvl : ((vs ++ (ts.take i).map Tm.v).length : Nat) ≤ 2000002 := by simp; omega
    refine aApp_by (ys := [[str ts[i].v]]) (by simp [src]) (by decide) (by decide) (by decide) (c2.app (by rw [stC_len]; simp only [List.length_cons, List.length_nil]; omega) fun lw' σ5 hl hs => ?_)
    have e : vs ++ (ts.take (i + 1)).map Tm.v = (vs ++ (ts.take i).map Tm.v) ++ [ts[i].v] := by
      rw [List.take_add_one, List.getElem?_eq_getElem hi, List.map_append, ← List.append_assoc]
      rfl
    have e2 : stC (vs ++ (ts.take i).map Tm.v) ++ [[str ts[i].v]] = stC (vs ++ (ts.take (i + 1)).map Tm.v) := by rw [e]; simp [stC]
    rw [e2] at hl
    obtain ⟨q1, q2⟩ := c3 σ5 lw' _ hl hs
    simp only [go_sem, r_block, f3, q1, hl.one, hl.cells, f26, f25, f24, next64 (show i < 9223372036854775807 by omega), reduceIte, Nat.reduceEqDiff, Nat.reduceAdd, Nat.reduceMul, Nat.reduceSub, Nat.reduceLT, Nat.reduceLeDiff, Nat.le_refl, Nat.zero_le, Nat.zero_add, Nat.add_zero, Nat.mul_one, splice_zero, Int.toNat_natCast, Int.natCast_nonneg, Int.reduceLE, Int.reduceLT, Int.reduceToNat, Int.reduceEq, Int.cast_ofNat_Int, ne_eq, not_true_eq_false, not_false_eq_true, imp_self, implies_true, true_implies, false_implies, and_self, List.length_map, List.length_drop]
    exact ⟨ts.length - (i + 1), by omega, i + 1, rfl, by omega, q2, rfl⟩
  · simp only [go_sem, r_block, reduceIte, Nat.reduceEqDiff, Nat.reduceAdd, Nat.reduceMul, Nat.reduceSub, Nat.reduceLT, Nat.reduceLeDiff, Nat.le_refl, Nat.zero_le, Nat.zero_add, Nat.add_zero, Nat.mul_one, splice_zero, Int.toNat_natCast, Int.natCast_nonneg, Int.reduceLE, Int.reduceLT, Int.reduceToNat, Int.reduceEq, Int.cast_ofNat_Int, ne_eq, not_true_eq_false, not_false_eq_true, imp_self, implies_true, true_implies, false_implies, and_self, List.length_map, List.length_drop]
    rw [List.take_of_length_le (by omega)] at h
    refine aRet_as (r := .tup []) rfl ?_
    have e : vs ++ ts.map Tm.v = ofLi r.bo[k] vs := by rw [hts]; rfl
    rw [← e]
    exact h.weak fun x p hx => d2 x p (g2 x p hx)
end
end Go.Proofs.Ythdfpankebjleaa
