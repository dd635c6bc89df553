/-
  The document's own end (avowalref23.Link): Hear.
  Conditions: none.
-/
import Derived.Test.YtpdbmnogfanpmaaLn
import Derived.Test.YtpdbmnogfanpmaaAvElem
set_option linter.unusedVariables false
set_option linter.unusedSimpArgs false
namespace Go.Proofs.Ytpdbmnogfanpmaa
open Go Go.Av

theorem pos_of {k : Int} : ∀ {l : List (Int × Itm)} {i : Nat} (h : i < l.length), (∀ j (hj : j < i), (l[j]'(by omega)).1 ≠ k) → l[i].1 = k → eFind k l = some l[i].2 ∧ eDel k l = l.take i ++ l.drop (i + 1)
  | (j, x) :: l, 0, h, hn, he => by
    simp at he
    subst he
    simp [eFind, eDel]
  | (j, x) :: l, i + 1, h, hn, he => by
    have h0 := hn 0 (by omega)
    simp at h0
    obtain ⟨h1, h2⟩ := pos_of (l := l) (i := i) (by simpa using h) (fun j hj => hn (j + 1) (by omega)) (by simpa using he)
    simp only [eFind, eDel, if_neg (Ne.symm h0), h1, h2]
    simp
theorem pos_none {k : Int} : ∀ {l : List (Int × Itm)}, (∀ j (hj : j < l.length), l[j].1 ≠ k) → eFind k l = none
  | [], _ => rfl
  | (j, x) :: l, hn => by
    have h0 := hn 0 (by simp)
    simp at h0
    simp only [eFind, if_neg (Ne.symm h0)]
    exact pos_none fun j hj => hn (j + 1) (by simpa using hj)

def Rs.keep (R : Rs) (f : Frm) : List (Int × Itm) := if R.came < f.seq ∧ f.seq - R.came ≤ 8 ∧ eFind f.seq R.kept = none then R.kept ++ [(f.seq, f.it)] else R.kept
def Rs.ackd (R : Rs) (a : Int) : Rs := if (R.gone : Int) < a then { R with gone := a.toNat } else R

theorem zl4_drop : ((zl4.map AV.v).drop 1).drop 38 = [] := rfl
section
variable {σ σ' : St} {r : Nat} {R R' R'' : Rs}
set_option maxRecDepth 100000
set_option maxHeartbeats 1000000

theorem kept_at (h : RAt σ r R) (k : Int) (hl : R.kept.length ≤ 3000000) : AT Try.prog 37 [ptr r, int k] σ fun v σ' => σ' = σ ∧ ((∃ (i : Nat) (hi : i < R.kept.length), v = int i ∧ eFind k R.kept = some R.kept[i].2 ∧ eDel k R.kept = R.kept.take i ++ R.kept.drop (i + 1)) ∨ (v = int (-1) ∧ eFind k R.kept = none)) := by
  refine AT.of_body Try.func37 rfl (by decide) (by kernel_rfl) (by kernel_rfl) (Nat.le_of_ble_eq_true rfl) ?_
  have h' := h.ob
  unfold rC at h'
  simp only [go_sem, h', reduceIte, Nat.reduceEqDiff, Nat.reduceAdd, Nat.reduceMul, Nat.reduceSub, Nat.reduceLT, Nat.reduceLeDiff, Nat.le_refl, Nat.zero_le, Nat.zero_add, Nat.add_zero, Nat.mul_one, splice_zero, Int.toNat_natCast, Int.natCast_nonneg, Int.reduceLE, Int.reduceLT, Int.reduceToNat, Int.reduceEq, Int.cast_ofNat_Int, ne_eq, not_true_eq_false, not_false_eq_true, imp_self, implies_true, true_implies, false_implies, and_self, List.length_map, List.length_drop]
  refine ⟨fun m fr σ' => ∃ j : Nat, m = R.kept.length - j ∧ j ≤ R.kept.length ∧ σ' = σ ∧ fr 0 = ptr r ∧ fr 1 = int k ∧ fr 5 = int j ∧ ∀ i (hi : i < j) (hl : i < R.kept.length), R.kept[i].1 ≠ k, ⟨_, 0, rfl, by omega, rfl, rfl, rfl, rfl, fun i hi => by omega⟩, ?_⟩
  rintro m fr _ ⟨j, rfl, hj, rfl, f0, f1, f5, hn⟩
  simp only [go_sem, f0, f1, f5, h', h.k.len, reduceIte, Nat.reduceEqDiff, Nat.reduceAdd, Nat.reduceMul, Nat.reduceSub, Nat.reduceLT, Nat.reduceLeDiff, Nat.le_refl, Nat.zero_le, Nat.zero_add, Nat.add_zero, Nat.mul_one, splice_zero, Int.toNat_natCast, Int.natCast_nonneg, Int.reduceLE, Int.reduceLT, Int.reduceToNat, Int.reduceEq, Int.cast_ofNat_Int, ne_eq, not_true_eq_false, not_false_eq_true, imp_self, implies_true, true_implies, false_implies, and_self, List.length_map, List.length_drop]
  refine aIf_by (fun k1 => ?_) (fun k1 => ?_)
  · have hjk : j < R.kept.length := by omega
    have eg : (R.kept.map kc).getD (j : Int).toNat [] = kc R.kept[j] := by
      rw [Int.toNat_natCast]; simp [List.getD_eq_getElem?_getD, hjk]
    simp only [go_sem, r_block, f0, f1, f5, h', reduceIte, Nat.reduceEqDiff, Nat.reduceAdd, Nat.reduceMul, Nat.reduceSub, Nat.reduceLT, Nat.reduceLeDiff, Nat.le_refl, Nat.zero_le, Nat.zero_add, Nat.add_zero, Nat.mul_one, splice_zero, Int.toNat_natCast, Int.natCast_nonneg, Int.reduceLE, Int.reduceLT, Int.reduceToNat, Int.reduceEq, Int.cast_ofNat_Int, ne_eq, not_true_eq_false, not_false_eq_true, imp_self, implies_true, true_implies, false_implies, and_self, List.length_map, List.length_drop]
    refine h.k.elem (by omega) (by simp; omega) fun p hp => ?_
    rw [eg] at hp
    simp only [go_sem, r_block, f0, f1, f5, reduceIte, Nat.reduceEqDiff, Nat.reduceAdd, Nat.reduceMul, Nat.reduceSub, Nat.reduceLT, Nat.reduceLeDiff, Nat.le_refl, Nat.zero_le, Nat.zero_add, Nat.add_zero, Nat.mul_one, splice_zero, Int.toNat_natCast, Int.natCast_nonneg, Int.reduceLE, Int.reduceLT, Int.reduceToNat, Int.reduceEq, Int.cast_ofNat_Int, ne_eq, not_true_eq_false, not_false_eq_true, imp_self, implies_true, true_implies, false_implies, and_self, List.length_map, List.length_drop]
    refine hp.fld (by decide) (by rw [kc_len]; omega) fun p' hp' => ?_
    simp only [go_sem, r_block, f0, f1, f5, reduceIte, Nat.reduceEqDiff, Nat.reduceAdd, Nat.reduceMul, Nat.reduceSub, Nat.reduceLT, Nat.reduceLeDiff, Nat.le_refl, Nat.zero_le, Nat.zero_add, Nat.add_zero, Nat.mul_one, splice_zero, Int.toNat_natCast, Int.natCast_nonneg, Int.reduceLE, Int.reduceLT, Int.reduceToNat, Int.reduceEq, Int.cast_ofNat_Int, ne_eq, not_true_eq_false, not_false_eq_true, imp_self, implies_true, true_implies, false_implies, and_self, List.length_map, List.length_drop]
    refine hp'.load1 (by decide) (by rw [kc_len]; exact Nat.le_refl _) ?_
    simp only [go_sem, r_block, f0, f1, f5, kc_at0, reduceIte, Nat.reduceEqDiff, Nat.reduceAdd, Nat.reduceMul, Nat.reduceSub, Nat.reduceLT, Nat.reduceLeDiff, Nat.le_refl, Nat.zero_le, Nat.zero_add, Nat.add_zero, Nat.mul_one, splice_zero, Int.toNat_natCast, Int.natCast_nonneg, Int.reduceLE, Int.reduceLT, Int.reduceToNat, Int.reduceEq, Int.cast_ofNat_Int, ne_eq, not_true_eq_false, not_false_eq_true, imp_self, implies_true, true_implies, false_implies, and_self, List.length_map, List.length_drop]
    refine aIf_by (fun k2 => ?_) (fun k2 => ?_)
    · simp only [go_sem, r_block, f0, f1, f5, reduceIte, Nat.reduceEqDiff, Nat.reduceAdd, Nat.reduceMul, Nat.reduceSub, Nat.reduceLT, Nat.reduceLeDiff, Nat.le_refl, Nat.zero_le, Nat.zero_add, Nat.add_zero, Nat.mul_one, splice_zero, Int.toNat_natCast, Int.natCast_nonneg, Int.reduceLE, Int.reduceLT, Int.reduceToNat, Int.reduceEq, Int.cast_ofNat_Int, ne_eq, not_true_eq_false, not_false_eq_true, imp_self, implies_true, true_implies, false_implies, and_self, List.length_map, List.length_drop]
      exact aRet_as (r := int j) rfl ⟨rfl, .inl ⟨j, hjk, rfl, pos_of hjk (fun i hi => hn i hi (by omega)) k2⟩⟩
    · simp only [go_sem, r_block, f0, f1, f5, reduceIte, Nat.reduceEqDiff, Nat.reduceAdd, Nat.reduceMul, Nat.reduceSub, Nat.reduceLT, Nat.reduceLeDiff, Nat.le_refl, Nat.zero_le, Nat.zero_add, Nat.add_zero, Nat.mul_one, splice_zero, Int.toNat_natCast, Int.natCast_nonneg, Int.reduceLE, Int.reduceLT, Int.reduceToNat, Int.reduceEq, Int.cast_ofNat_Int, ne_eq, not_true_eq_false, not_false_eq_true, imp_self, implies_true, true_implies, false_implies, and_self, List.length_map, List.length_drop]
      rw [next64 (by omega)]
      refine ⟨R.kept.length - (j + 1), by omega, j + 1, rfl, by omega, rfl, fun i hi hl => ?_⟩
      by_cases e : i = j
      · subst e; exact k2
      · exact hn i (by omega) hl
  · simp only [go_sem, f0, f1, f5, reduceIte, Nat.reduceEqDiff, Nat.reduceAdd, Nat.reduceMul, Nat.reduceSub, Nat.reduceLT, Nat.reduceLeDiff, Nat.le_refl, Nat.zero_le, Nat.zero_add, Nat.add_zero, Nat.mul_one, splice_zero, Int.toNat_natCast, Int.natCast_nonneg, Int.reduceLE, Int.reduceLT, Int.reduceToNat, Int.reduceEq, Int.cast_ofNat_Int, ne_eq, not_true_eq_false, not_false_eq_true, imp_self, implies_true, true_implies, false_implies, and_self, List.length_map, List.length_drop]
    exact aRet_as (r := int (-1)) rfl ⟨rfl, .inr ⟨rfl, pos_none fun i hi => hn i (by omega) hi⟩⟩

/-- What hearing does. -/
def Rs.heard (R : Rs) (f : Frm) : List Itm × Rs :=
  let t := tell (R.keep f).length R.came (R.keep f)
  (t.1, { R.ackd f.ack with owes := true, came := t.2.1, kept := t.2.2 })
def Rs.hear (R : Rs) (f : Frm) : (List Itm × Int) × Rs :=
  if f.seq < 0 ∨ f.ack < 0 ∨ (R.L.length : Int) < f.ack then (([], 220), R)
  else if 0 < f.seq ∧ ¬ (1 ≤ f.it.kind ∧ f.it.kind ≤ 4) then (([], 2), R)
  else if f.seq = 0 then (([], 0), R.ackd f.ack)
  else (((R.heard f).1, 0), (R.heard f).2)

theorem rhear_at (h : RAt σ r R) (f : Frm) (hx : f.seq ≤ 9223372036854775807) (hl : R.L.length ≤ 1000000) (hc : 0 ≤ R.came ∧ R.came ≤ 1000000) (hk : R.kept.length ≤ 1000000) (hg : R.gone ≤ R.L.length) :
    AT Try.prog 25 [ptr r, .agg f.cs] σ fun v σ' => v = .tup [.sl 38 ((R.hear f).1.1.map Itm.cs), int (R.hear f).1.2] ∧ ∃ kv, RAt σ' r { (R.hear f).2 with kv := kv } ∧ Fro σ σ' r R { (R.hear f).2 with kv := kv } := by
  refine AT.of_body Try.func25 rfl (by decide) (by kernel_rfl) (by kernel_rfl) (Nat.le_of_ble_eq_true rfl) ?_
  simp only [go_sem, f.one, reduceIte, Nat.reduceEqDiff, Nat.reduceAdd, Nat.reduceMul, Nat.reduceSub, Nat.reduceLT, Nat.reduceLeDiff, Nat.le_refl, Nat.zero_le, Nat.zero_add, Nat.add_zero, Nat.mul_one, splice_zero, Int.toNat_natCast, Int.natCast_nonneg, Int.reduceLE, Int.reduceLT, Int.reduceToNat, Int.reduceEq, Int.cast_ofNat_Int, ne_eq, not_true_eq_false, not_false_eq_true, imp_self, implies_true, true_implies, false_implies, and_self, List.length_map, List.length_drop]
  refine aNew_intro fun c hc' hcm => ?_
  have hcr : r ≠ c := hcm _ _ h.ob
  have hc0 : ∀ x, R.foot r x → x ≠ c := fun x hx => by obtain ⟨o, ho⟩ := h.some hx; exact hcm _ _ ho
  have h1 := h.keep (σ' := σ.set c (.cells f.cs)) fun y o hy _ => set_sub hc' (fun _ _ h => h) y o hy
  have hc1 : (σ.set c (.cells f.cs)) c = some (.cells f.cs) := set_same
  have hF := Fro.new (r := r) (R := R) (o := .cells f.cs) hc'
  have hfc : ¬ R.foot r c := fun h => hc0 c h rfl
  revert h1 hc1 hF
  generalize σ.set c (.cells f.cs) = σ1
  intro h1 hc1 hF
  clear h hcm hc0 hc' hcr
  have h1' := h1.ob
  unfold rC at h1'
  have bye : ∀ e : Int, R.hear f = (([], e), R) → View σ1 (.tup [.v (.slice none 0 0), int e]) σ1 (.tup [.sl 38 [], int e]) ∧ (AV.tup [.sl 38 [], int e] = .tup [.sl 38 ((R.hear f).1.1.map Itm.cs), int (R.hear f).1.2] ∧ ∃ kv, RAt σ1 r { (R.hear f).2 with kv := kv } ∧ Fro σ σ1 r R { (R.hear f).2 with kv := kv }) := fun e he =>
    ⟨view_of (sv_of fun x o hx => .inl hx) (.tup _ _ rfl (vws_cons (.nil 38) (vws_refl _)).2), by rw [he]; exact ⟨rfl, R.kv, h1, hF⟩⟩
  have bad : (f.seq < 0 ∨ f.ack < 0 ∨ (R.L.length : Int) < f.ack) → R.hear f = (([], 220), R) := fun h => by unfold Rs.hear; rw [if_pos h]
  refine aMeet (fun fr σ' => fr 0 = ptr r ∧ fr 3 = ptr c ∧ σ' = σ1 ∧ ¬ (f.seq < 0 ∨ f.ack < 0 ∨ (R.L.length : Int) < f.ack)) ?_ ?_
  · simp only [go_sem, r_block, reduceIte, Nat.reduceEqDiff, Nat.reduceAdd, Nat.reduceMul, Nat.reduceSub, Nat.reduceLT, Nat.reduceLeDiff, Nat.le_refl, Nat.zero_le, Nat.zero_add, Nat.add_zero, Nat.mul_one, splice_zero, Int.toNat_natCast, Int.natCast_nonneg, Int.reduceLE, Int.reduceLT, Int.reduceToNat, Int.reduceEq, Int.cast_ofNat_Int, ne_eq, not_true_eq_false, not_false_eq_true, imp_self, implies_true, true_implies, false_implies, and_self, List.length_map, List.length_drop]
    refine aDraw_plan [.rd 0 false, .rd 1 true, .rd 2 false, .rd 3 false, .rd 4 false, .rd 5 true, .rd 6 false, .rd 7 false, .rd 8 false, .rd 9 false, .rd 10 true, .rd 11 false, .rd 12 false, .rd 13 false, .rd 14 true, .rd 15 false, .rd 16 false, .rd 17 false] (by kernel_rfl) (by kernel_rfl) (by kernel_rfl) ?_
    simp only [go_sem, r_block, hc1, f.len, f.at0, f.at1, reduceIte, Nat.reduceEqDiff, Nat.reduceAdd, Nat.reduceMul, Nat.reduceSub, Nat.reduceLT, Nat.reduceLeDiff, Nat.le_refl, Nat.zero_le, Nat.zero_add, Nat.add_zero, Nat.mul_one, splice_zero, Int.toNat_natCast, Int.natCast_nonneg, Int.reduceLE, Int.reduceLT, Int.reduceToNat, Int.reduceEq, Int.cast_ofNat_Int, ne_eq, not_true_eq_false, not_false_eq_true, imp_self, implies_true, true_implies, false_implies, and_self, List.length_map, List.length_drop]
    refine aIf_by (fun k0 => ?_) (fun k0 => ?_)
    · simp only [go_sem, r_block, hc1, decide_eq_true k0, reduceIte, Nat.reduceEqDiff, Nat.reduceAdd, Nat.reduceMul, Nat.reduceSub, Nat.reduceLT, Nat.reduceLeDiff, Nat.le_refl, Nat.zero_le, Nat.zero_add, Nat.add_zero, Nat.mul_one, splice_zero, Int.toNat_natCast, Int.natCast_nonneg, Int.reduceLE, Int.reduceLT, Int.reduceToNat, Int.reduceEq, Int.cast_ofNat_Int, ne_eq, not_true_eq_false, not_false_eq_true, imp_self, implies_true, true_implies, false_implies, and_self, List.length_map, List.length_drop]
      exact aRet_view (r := .tup [.v (.slice none 0 0), int 220]) rfl _ σ1 (bye 220 (bad (.inl k0))).1 (bye 220 (bad (.inl k0))).2
    simp only [go_sem, r_block, hc1, decide_eq_false k0, f.len, f.at0, f.at1, reduceIte, Nat.reduceEqDiff, Nat.reduceAdd, Nat.reduceMul, Nat.reduceSub, Nat.reduceLT, Nat.reduceLeDiff, Nat.le_refl, Nat.zero_le, Nat.zero_add, Nat.add_zero, Nat.mul_one, splice_zero, Int.toNat_natCast, Int.natCast_nonneg, Int.reduceLE, Int.reduceLT, Int.reduceToNat, Int.reduceEq, Int.cast_ofNat_Int, ne_eq, not_true_eq_false, not_false_eq_true, imp_self, implies_true, true_implies, false_implies, and_self, List.length_map, List.length_drop]
    refine aIf_by (fun k1 => ?_) (fun k1 => ?_)
    · simp only [go_sem, r_block, hc1, decide_eq_true k1, reduceIte, Nat.reduceEqDiff, Nat.reduceAdd, Nat.reduceMul, Nat.reduceSub, Nat.reduceLT, Nat.reduceLeDiff, Nat.le_refl, Nat.zero_le, Nat.zero_add, Nat.add_zero, Nat.mul_one, splice_zero, Int.toNat_natCast, Int.natCast_nonneg, Int.reduceLE, Int.reduceLT, Int.reduceToNat, Int.reduceEq, Int.cast_ofNat_Int, ne_eq, not_true_eq_false, not_false_eq_true, imp_self, implies_true, true_implies, false_implies, and_self, List.length_map, List.length_drop]
      exact aRet_view (r := .tup [.v (.slice none 0 0), int 220]) rfl _ σ1 (bye 220 (bad (.inr (.inl k1)))).1 (bye 220 (bad (.inr (.inl k1)))).2
    simp only [go_sem, r_block, hc1, decide_eq_false k1, f.len, f.at0, f.at1, h1', h1.l.len, reduceIte, Nat.reduceEqDiff, Nat.reduceAdd, Nat.reduceMul, Nat.reduceSub, Nat.reduceLT, Nat.reduceLeDiff, Nat.le_refl, Nat.zero_le, Nat.zero_add, Nat.add_zero, Nat.mul_one, splice_zero, Int.toNat_natCast, Int.natCast_nonneg, Int.reduceLE, Int.reduceLT, Int.reduceToNat, Int.reduceEq, Int.cast_ofNat_Int, ne_eq, not_true_eq_false, not_false_eq_true, imp_self, implies_true, true_implies, false_implies, and_self, List.length_map, List.length_drop]
    refine aIf_by (fun k2 => ?_) (fun k2 => ?_)
    · simp only [go_sem, r_block, reduceIte, Nat.reduceEqDiff, Nat.reduceAdd, Nat.reduceMul, Nat.reduceSub, Nat.reduceLT, Nat.reduceLeDiff, Nat.le_refl, Nat.zero_le, Nat.zero_add, Nat.add_zero, Nat.mul_one, splice_zero, Int.toNat_natCast, Int.natCast_nonneg, Int.reduceLE, Int.reduceLT, Int.reduceToNat, Int.reduceEq, Int.cast_ofNat_Int, ne_eq, not_true_eq_false, not_false_eq_true, imp_self, implies_true, true_implies, false_implies, and_self, List.length_map, List.length_drop]
      exact aRet_view (r := .tup [.v (.slice none 0 0), int 220]) rfl _ σ1 (bye 220 (bad (.inr (.inr k2)))).1 (bye 220 (bad (.inr (.inr k2)))).2
    simp only [go_sem, r_block, reduceIte, Nat.reduceEqDiff, Nat.reduceAdd, Nat.reduceMul, Nat.reduceSub, Nat.reduceLT, Nat.reduceLeDiff, Nat.le_refl, Nat.zero_le, Nat.zero_add, Nat.add_zero, Nat.mul_one, splice_zero, Int.toNat_natCast, Int.natCast_nonneg, Int.reduceLE, Int.reduceLT, Int.reduceToNat, Int.reduceEq, Int.cast_ofNat_Int, ne_eq, not_true_eq_false, not_false_eq_true, imp_self, implies_true, true_implies, false_implies, and_self, List.length_map, List.length_drop]
    omega
  rintro fr σ1 ⟨f0, f3, rfl, ok1⟩
  refine aMeet (fun fr σ' => fr 0 = ptr r ∧ fr 3 = ptr c ∧ σ' = σ1 ∧ ¬ (0 < f.seq ∧ ¬ (1 ≤ f.it.kind ∧ f.it.kind ≤ 4))) ?_ ?_
  · simp only [go_sem, r_block, f0, f3, hc1, f.len, f.at0, f.at1, f.at2, Itm.len, reduceIte, Nat.reduceEqDiff, Nat.reduceAdd, Nat.reduceMul, Nat.reduceSub, Nat.reduceLT, Nat.reduceLeDiff, Nat.le_refl, Nat.zero_le, Nat.zero_add, Nat.add_zero, Nat.mul_one, splice_zero, Int.toNat_natCast, Int.natCast_nonneg, Int.reduceLE, Int.reduceLT, Int.reduceToNat, Int.reduceEq, Int.cast_ofNat_Int, ne_eq, not_true_eq_false, not_false_eq_true, imp_self, implies_true, true_implies, false_implies, and_self, List.length_map, List.length_drop]
    refine aIf_by (fun k3 => ?_) (fun k3 => ?_)
    · simp only [go_sem, r_block, f0, f3, hc1, f.len, f.at0, f.at1, f.at2, Itm.len, decide_eq_true k3, reduceIte, Nat.reduceEqDiff, Nat.reduceAdd, Nat.reduceMul, Nat.reduceSub, Nat.reduceLT, Nat.reduceLeDiff, Nat.le_refl, Nat.zero_le, Nat.zero_add, Nat.add_zero, Nat.mul_one, splice_zero, Int.toNat_natCast, Int.natCast_nonneg, Int.reduceLE, Int.reduceLT, Int.reduceToNat, Int.reduceEq, Int.cast_ofNat_Int, ne_eq, not_true_eq_false, not_false_eq_true, imp_self, implies_true, true_implies, false_implies, and_self, List.length_map, List.length_drop]
      refine (rkind_at f.it).mono ?_
      rintro _ σ1 ⟨rfl, rfl⟩
      simp only [go_sem, r_block, f0, f3, hc1, f.len, f.at0, f.at1, f.at2, Itm.len, decide_eq_true k3, reduceIte, Nat.reduceEqDiff, Nat.reduceAdd, Nat.reduceMul, Nat.reduceSub, Nat.reduceLT, Nat.reduceLeDiff, Nat.le_refl, Nat.zero_le, Nat.zero_add, Nat.add_zero, Nat.mul_one, splice_zero, Int.toNat_natCast, Int.natCast_nonneg, Int.reduceLE, Int.reduceLT, Int.reduceToNat, Int.reduceEq, Int.cast_ofNat_Int, ne_eq, not_true_eq_false, not_false_eq_true, imp_self, implies_true, true_implies, false_implies, and_self, List.length_map, List.length_drop]
      refine aIf_by (fun k4 => ?_) (fun k4 => ?_)
      · simp only [go_sem, r_block, f0, f3, reduceIte, Nat.reduceEqDiff, Nat.reduceAdd, Nat.reduceMul, Nat.reduceSub, Nat.reduceLT, Nat.reduceLeDiff, Nat.le_refl, Nat.zero_le, Nat.zero_add, Nat.add_zero, Nat.mul_one, splice_zero, Int.toNat_natCast, Int.natCast_nonneg, Int.reduceLE, Int.reduceLT, Int.reduceToNat, Int.reduceEq, Int.cast_ofNat_Int, ne_eq, not_true_eq_false, not_false_eq_true, imp_self, implies_true, true_implies, false_implies, and_self, List.length_map, List.length_drop]
        exact fun h => h.2 k4
      · simp only [go_sem, r_block, f0, f3, reduceIte, Nat.reduceEqDiff, Nat.reduceAdd, Nat.reduceMul, Nat.reduceSub, Nat.reduceLT, Nat.reduceLeDiff, Nat.le_refl, Nat.zero_le, Nat.zero_add, Nat.add_zero, Nat.mul_one, splice_zero, Int.toNat_natCast, Int.natCast_nonneg, Int.reduceLE, Int.reduceLT, Int.reduceToNat, Int.reduceEq, Int.cast_ofNat_Int, ne_eq, not_true_eq_false, not_false_eq_true, imp_self, implies_true, true_implies, false_implies, and_self, List.length_map, List.length_drop]
        have h2' : R.hear f = (([], 2), R) := by unfold Rs.hear; rw [if_neg ok1, if_pos ⟨k3, k4⟩]
        exact aRet_view (r := .tup [.v (.slice none 0 0), int 2]) rfl _ σ1 (bye 2 h2').1 (bye 2 h2').2
    · simp only [go_sem, r_block, f0, f3, decide_eq_false k3, reduceIte, Nat.reduceEqDiff, Nat.reduceAdd, Nat.reduceMul, Nat.reduceSub, Nat.reduceLT, Nat.reduceLeDiff, Nat.le_refl, Nat.zero_le, Nat.zero_add, Nat.add_zero, Nat.mul_one, splice_zero, Int.toNat_natCast, Int.natCast_nonneg, Int.reduceLE, Int.reduceLT, Int.reduceToNat, Int.reduceEq, Int.cast_ofNat_Int, ne_eq, not_true_eq_false, not_false_eq_true, imp_self, implies_true, true_implies, false_implies, and_self, List.length_map, List.length_drop]
      exact fun h => k3 h.1
  rintro fr σ1 ⟨f0, f3, rfl, ok2⟩
  clear bye bad
  simp only [go_sem, r_block, reduceIte, Nat.reduceEqDiff, Nat.reduceAdd, Nat.reduceMul, Nat.reduceSub, Nat.reduceLT, Nat.reduceLeDiff, Nat.le_refl, Nat.zero_le, Nat.zero_add, Nat.add_zero, Nat.mul_one, splice_zero, Int.toNat_natCast, Int.natCast_nonneg, Int.reduceLE, Int.reduceLT, Int.reduceToNat, Int.reduceEq, Int.cast_ofNat_Int, ne_eq, not_true_eq_false, not_false_eq_true, imp_self, implies_true, true_implies, false_implies, and_self, List.length_map, List.length_drop]
  refine aDraw_plan [.rd 0 false, .rd 1 true, .rd 2 false, .rd 3 false, .rd 4 false, .rd 5 true, .rd 6 false] (by kernel_rfl) (by kernel_rfl) (by kernel_rfl) ?_
  simp only [go_sem, r_block, f0, f3, hc1, h1', f.len, f.at1, reduceIte, Nat.reduceEqDiff, Nat.reduceAdd, Nat.reduceMul, Nat.reduceSub, Nat.reduceLT, Nat.reduceLeDiff, Nat.le_refl, Nat.zero_le, Nat.zero_add, Nat.add_zero, Nat.mul_one, splice_zero, Int.toNat_natCast, Int.natCast_nonneg, Int.reduceLE, Int.reduceLT, Int.reduceToNat, Int.reduceEq, Int.cast_ofNat_Int, ne_eq, not_true_eq_false, not_false_eq_true, imp_self, implies_true, true_implies, false_implies, and_self, List.length_map, List.length_drop]
  refine aIf_meet (fun fr σ' => fr 0 = ptr r ∧ fr 3 = ptr c ∧ σ' c = some (.cells f.cs) ∧ RAt σ' r (R.ackd f.ack) ∧ Fro σ σ' r R (R.ackd f.ack)) (fun k0 => ?_) (fun k0 => ?_) ?_
  · simp only [go_sem, r_block, f0, f3, hc1, h1', f.len, f.at1, reduceIte, Nat.reduceEqDiff, Nat.reduceAdd, Nat.reduceMul, Nat.reduceSub, Nat.reduceLT, Nat.reduceLeDiff, Nat.le_refl, Nat.zero_le, Nat.zero_add, Nat.add_zero, Nat.mul_one, splice_zero, Int.toNat_natCast, Int.natCast_nonneg, Int.reduceLE, Int.reduceLT, Int.reduceToNat, Int.reduceEq, Int.cast_ofNat_Int, ne_eq, not_true_eq_false, not_false_eq_true, imp_self, implies_true, true_implies, false_implies, and_self, List.length_map, List.length_drop]
    have e : R.ackd f.ack = { R with gone := f.ack.toNat } := by unfold Rs.ackd; rw [if_pos k0]
    have h2 := h1.set (R' := { R with gone := f.ack.toNat }) rfl rfl rfl rfl
    rw [e]
    have e2 : f.ack = ((f.ack.toNat : Nat) : Int) := by omega
    rw [show (AObj.cells [R.lv, int f.ack, int R.came, R.kv, boo R.owes]) = .cells (rC { R with gone := f.ack.toNat }) by unfold rC; rw [← e2]]
    refine ⟨?_, h2.1, hF.trans h2.2⟩
    rw [set_ne (fun e => hfc (.inl e))]
    exact hc1
  · simp only [go_sem, r_block, f0, f3, reduceIte, Nat.reduceEqDiff, Nat.reduceAdd, Nat.reduceMul, Nat.reduceSub, Nat.reduceLT, Nat.reduceLeDiff, Nat.le_refl, Nat.zero_le, Nat.zero_add, Nat.add_zero, Nat.mul_one, splice_zero, Int.toNat_natCast, Int.natCast_nonneg, Int.reduceLE, Int.reduceLT, Int.reduceToNat, Int.reduceEq, Int.cast_ofNat_Int, ne_eq, not_true_eq_false, not_false_eq_true, imp_self, implies_true, true_implies, false_implies, and_self, List.length_map, List.length_drop]
    have e : R.ackd f.ack = R := by unfold Rs.ackd; rw [if_neg k0]
    rw [e]
    exact ⟨hc1, h1, hF⟩
  rintro fr σ3 ⟨f0, f3, hc3, h3, hF3⟩
  have hg3 : (R.ackd f.ack).came = R.came ∧ (R.ackd f.ack).kept = R.kept ∧ (R.ackd f.ack).kv = R.kv ∧ (R.ackd f.ack).lv = R.lv := by unfold Rs.ackd; split <;> exact ⟨rfl, rfl, rfl, rfl⟩
  have hh : R.hear f = if f.seq = 0 then (([], 0), R.ackd f.ack) else (((R.heard f).1, 0), (R.heard f).2) := by unfold Rs.hear; rw [if_neg ok1, if_neg ok2]
  clear hc1 h1 hF h1'
  obtain ⟨R1, hR1⟩ : ∃ R1, R1 = R.ackd f.ack := ⟨_, rfl⟩
  rw [← hR1] at hg3 hh h3 hF3
  have h3' := h3.ob
  unfold rC at h3'
  have hcf : ∀ {R2 : Rs}, R2.lv = R.lv → R2.kv = R.kv → ¬ R2.foot r c := fun e1 e2 h => hfc (by unfold Rs.foot at h ⊢; rwa [e1, e2] at h)
  simp only [go_sem, r_block, f0, f3, hc3, f.len, f.at0, reduceIte, Nat.reduceEqDiff, Nat.reduceAdd, Nat.reduceMul, Nat.reduceSub, Nat.reduceLT, Nat.reduceLeDiff, Nat.le_refl, Nat.zero_le, Nat.zero_add, Nat.add_zero, Nat.mul_one, splice_zero, Int.toNat_natCast, Int.natCast_nonneg, Int.reduceLE, Int.reduceLT, Int.reduceToNat, Int.reduceEq, Int.cast_ofNat_Int, ne_eq, not_true_eq_false, not_false_eq_true, imp_self, implies_true, true_implies, false_implies, and_self, List.length_map, List.length_drop]
  refine aIf_by (fun k1 => ?_) (fun k1 => ?_)
  · simp only [go_sem, r_block, f0, f3, reduceIte, Nat.reduceEqDiff, Nat.reduceAdd, Nat.reduceMul, Nat.reduceSub, Nat.reduceLT, Nat.reduceLeDiff, Nat.le_refl, Nat.zero_le, Nat.zero_add, Nat.add_zero, Nat.mul_one, splice_zero, Int.toNat_natCast, Int.natCast_nonneg, Int.reduceLE, Int.reduceLT, Int.reduceToNat, Int.reduceEq, Int.cast_ofNat_Int, ne_eq, not_true_eq_false, not_false_eq_true, imp_self, implies_true, true_implies, false_implies, and_self, List.length_map, List.length_drop]
    refine aRet_view (r := .tup [.v (.slice none 0 0), int 0]) rfl _ σ3 (view_of (a' := .tup [.sl 38 [], int 0]) (sv_of fun x o hx => .inl hx) (.tup _ _ rfl (vws_cons (.nil 38) (vws_refl _)).2)) ?_
    rw [hh, if_pos k1]
    exact ⟨rfl, R1.kv, h3, hF3⟩
  rw [if_neg k1] at hh
  simp only [go_sem, r_block, f0, f3, h3', reduceIte, Nat.reduceEqDiff, Nat.reduceAdd, Nat.reduceMul, Nat.reduceSub, Nat.reduceLT, Nat.reduceLeDiff, Nat.le_refl, Nat.zero_le, Nat.zero_add, Nat.add_zero, Nat.mul_one, splice_zero, Int.toNat_natCast, Int.natCast_nonneg, Int.reduceLE, Int.reduceLT, Int.reduceToNat, Int.reduceEq, Int.cast_ofNat_Int, ne_eq, not_true_eq_false, not_false_eq_true, imp_self, implies_true, true_implies, false_implies, and_self, List.length_map, List.length_drop]
  have h4 := h3.set (R' := { R1 with owes := true }) rfl rfl rfl rfl
  have hc4 : (σ3.set r (.cells (rC { R1 with owes := true }))) c = some (.cells f.cs) := by rw [set_ne (fun e => hfc (.inl e))]; exact hc3
  rw [show (AObj.cells [R1.lv, int R1.gone, int R1.came, R1.kv, .v (.bool true)]) = .cells (rC { R1 with owes := true }) from rfl]
  obtain ⟨h4, hF4⟩ := h4
  replace hF4 := hF3.trans hF4
  revert hc4 h4 hF4
  generalize σ3.set r (.cells (rC { R1 with owes := true })) = σ4
  intro hc4 h4 hF4
  clear h3 hF3 hc3 h3'
  obtain ⟨R2, hR2⟩ : ∃ R2, R2 = { R1 with owes := true } := ⟨_, rfl⟩
  rw [← hR2] at h4 hF4
  have hg4 : R2.came = R.came ∧ R2.kept = R.kept ∧ R2.kv = R.kv ∧ R2.lv = R.lv := by rw [hR2]; exact hg3
  have h4' := h4.ob
  unfold rC at h4'
  rw [hg4.1] at h4'
  refine aDraw_meet (fun fr σ' => fr 0 = ptr r ∧ ∃ kv, RAt σ' r { R2 with kept := R.keep f, kv := kv } ∧ Fro σ σ' r R { R2 with kept := R.keep f, kv := kv }) ?_ ?_
  · refine aDraw_plan [.rd 0 false, .rd 1 true, .rd 2 false, .rd 3 false, .rd 4 false, .rd 5 true, .rd 6 false, .rd 7 false, .rd 8 false, .rd 9 true, .rd 10 false, .rd 11 false, .rd 12 false, .rd 13 true, .rd 14 false, .rd 15 false, .rd 16 false, .rd 17 false, .rd 18 false, .rd 19 false, .rd 20 true, .ef 21 [], .rd 22 false, .rd 23 false] (by kernel_rfl) (by kernel_rfl) (by kernel_rfl) ?_
    have no : (¬ (R.came < f.seq ∧ f.seq - R.came ≤ 8 ∧ eFind f.seq R.kept = none)) → ∃ kv, RAt σ4 r { R2 with kept := R.keep f, kv := kv } ∧ Fro σ σ4 r R { R2 with kept := R.keep f, kv := kv } := fun hn => by
      have e : R.keep f = R2.kept := by unfold Rs.keep; rw [if_neg hn, hg4.2.1]
      rw [e]
      exact ⟨R2.kv, h4, hF4⟩
    simp only [go_sem, r_block, f0, f3, hc4, h4', f.len, f.at0, reduceIte, Nat.reduceEqDiff, Nat.reduceAdd, Nat.reduceMul, Nat.reduceSub, Nat.reduceLT, Nat.reduceLeDiff, Nat.le_refl, Nat.zero_le, Nat.zero_add, Nat.add_zero, Nat.mul_one, splice_zero, Int.toNat_natCast, Int.natCast_nonneg, Int.reduceLE, Int.reduceLT, Int.reduceToNat, Int.reduceEq, Int.cast_ofNat_Int, ne_eq, not_true_eq_false, not_false_eq_true, imp_self, implies_true, true_implies, false_implies, and_self, List.length_map, List.length_drop]
    refine aIf_by (fun k2 => ?_) (fun k2 => ?_)
    · simp only [go_sem, r_block, f0, f3, hc4, h4', f.len, f.at0, decide_eq_true k2, reduceIte, Nat.reduceEqDiff, Nat.reduceAdd, Nat.reduceMul, Nat.reduceSub, Nat.reduceLT, Nat.reduceLeDiff, Nat.le_refl, Nat.zero_le, Nat.zero_add, Nat.add_zero, Nat.mul_one, splice_zero, Int.toNat_natCast, Int.natCast_nonneg, Int.reduceLE, Int.reduceLT, Int.reduceToNat, Int.reduceEq, Int.cast_ofNat_Int, ne_eq, not_true_eq_false, not_false_eq_true, imp_self, implies_true, true_implies, false_implies, and_self, List.length_map, List.length_drop]
      rw [wrap64 (by omega)]
      refine aIf_by (fun k3 => ?_) (fun k3 => ?_)
      · simp only [go_sem, r_block, f0, f3, hc4, h4', f.len, f.at0, decide_eq_true k2, decide_eq_true k3, reduceIte, Nat.reduceEqDiff, Nat.reduceAdd, Nat.reduceMul, Nat.reduceSub, Nat.reduceLT, Nat.reduceLeDiff, Nat.le_refl, Nat.zero_le, Nat.zero_add, Nat.add_zero, Nat.mul_one, splice_zero, Int.toNat_natCast, Int.natCast_nonneg, Int.reduceLE, Int.reduceLT, Int.reduceToNat, Int.reduceEq, Int.cast_ofNat_Int, ne_eq, not_true_eq_false, not_false_eq_true, imp_self, implies_true, true_implies, false_implies, and_self, List.length_map, List.length_drop]
        refine (kept_at h4 f.seq (by rw [hg4.2.1]; omega)).mono ?_
        rintro _ σ4 ⟨rfl, hres⟩
        rcases hres with ⟨i, hi, rfl, e1, _⟩ | ⟨rfl, e1⟩
        · obtain ⟨y, e1⟩ : ∃ y, eFind f.seq R2.kept = some y := ⟨_, e1⟩
          rw [hg4.2.1] at e1
          have hn : ¬ ((i : Int) < 0) := by omega
          simp only [go_sem, r_block, f0, f3, decide_eq_false hn, reduceIte, Nat.reduceEqDiff, Nat.reduceAdd, Nat.reduceMul, Nat.reduceSub, Nat.reduceLT, Nat.reduceLeDiff, Nat.le_refl, Nat.zero_le, Nat.zero_add, Nat.add_zero, Nat.mul_one, splice_zero, Int.toNat_natCast, Int.natCast_nonneg, Int.reduceLE, Int.reduceLT, Int.reduceToNat, Int.reduceEq, Int.cast_ofNat_Int, ne_eq, not_true_eq_false, not_false_eq_true, imp_self, implies_true, true_implies, false_implies, and_self, List.length_map, List.length_drop]
          exact no fun h => by rw [h.2.2] at e1; cases e1
        · rw [hg4.2.1] at e1
          have hn : ((-1 : Int) < 0) := by omega
          simp only [go_sem, r_block, f0, f3, decide_eq_true hn, reduceIte, Nat.reduceEqDiff, Nat.reduceAdd, Nat.reduceMul, Nat.reduceSub, Nat.reduceLT, Nat.reduceLeDiff, Nat.le_refl, Nat.zero_le, Nat.zero_add, Nat.add_zero, Nat.mul_one, splice_zero, Int.toNat_natCast, Int.natCast_nonneg, Int.reduceLE, Int.reduceLT, Int.reduceToNat, Int.reduceEq, Int.cast_ofNat_Int, ne_eq, not_true_eq_false, not_false_eq_true, imp_self, implies_true, true_implies, false_implies, and_self, List.length_map, List.length_drop]
          refine aDraw_plan [.rd 0 false, .rd 1 false, .rd 2 false, .rd 3 false, .rd 4 true, .rd 5 false, .rd 6 true, .rd 7 false, .rd 8 true, .rd 9 false, .rd 10 false, .ef 11 [], .rd 12 false, .rd 13 false, .ef 14 []] (by kernel_rfl) (by kernel_rfl) (by kernel_rfl) ?_
          simp only [go_sem, r_block, f0, f3, hc4, h4', f.len, f.at0, f.at2, Itm.len, Itm.one, zl4_drop, reduceIte, Nat.reduceEqDiff, Nat.reduceAdd, Nat.reduceMul, Nat.reduceSub, Nat.reduceLT, Nat.reduceLeDiff, Nat.le_refl, Nat.zero_le, Nat.zero_add, Nat.add_zero, Nat.mul_one, splice_zero, Int.toNat_natCast, Int.natCast_nonneg, Int.reduceLE, Int.reduceLT, Int.reduceToNat, Int.reduceEq, Int.cast_ofNat_Int, ne_eq, not_true_eq_false, not_false_eq_true, imp_self, implies_true, true_implies, false_implies, and_self, List.length_map, List.length_drop]
          refine aApp_by (ys := [kc (f.seq, f.it)]) rfl (by decide) (by decide) zl4_one (h4.k.app (by simp [hg4.2.1]; omega) fun kv σ5 hK hs => ?_)
          have hK' : LAt 39 σ5 kv ((R2.kept ++ [(f.seq, f.it)]).map kc) := by rw [List.map_append]; exact hK
          have h0 := (hs r _ h4.ob h4.nk).1
          unfold rC at h0
          simp only [go_sem, r_block, f0, f3, h0, hK.one, hK.cells, reduceIte, Nat.reduceEqDiff, Nat.reduceAdd, Nat.reduceMul, Nat.reduceSub, Nat.reduceLT, Nat.reduceLeDiff, Nat.le_refl, Nat.zero_le, Nat.zero_add, Nat.add_zero, Nat.mul_one, splice_zero, Int.toNat_natCast, Int.natCast_nonneg, Int.reduceLE, Int.reduceLT, Int.reduceToNat, Int.reduceEq, Int.cast_ofNat_Int, ne_eq, not_true_eq_false, not_false_eq_true, imp_self, implies_true, true_implies, false_implies, and_self, List.length_map, List.length_drop]
          have h5 := h4.setk (K := R2.kept ++ [(f.seq, f.it)]) hK' hs
          have e : R.keep f = R2.kept ++ [(f.seq, f.it)] := by unfold Rs.keep; rw [if_pos ⟨k2, k3, e1⟩, hg4.2.1]
          rw [e]
          exact ⟨kv, h5.1, hF4.trans h5.2⟩
      · simp only [go_sem, r_block, f0, f3, decide_eq_false k3, reduceIte, Nat.reduceEqDiff, Nat.reduceAdd, Nat.reduceMul, Nat.reduceSub, Nat.reduceLT, Nat.reduceLeDiff, Nat.le_refl, Nat.zero_le, Nat.zero_add, Nat.add_zero, Nat.mul_one, splice_zero, Int.toNat_natCast, Int.natCast_nonneg, Int.reduceLE, Int.reduceLT, Int.reduceToNat, Int.reduceEq, Int.cast_ofNat_Int, ne_eq, not_true_eq_false, not_false_eq_true, imp_self, implies_true, true_implies, false_implies, and_self, List.length_map, List.length_drop]
        exact no fun h => k3 h.2.1
    · simp only [go_sem, r_block, f0, f3, decide_eq_false k2, reduceIte, Nat.reduceEqDiff, Nat.reduceAdd, Nat.reduceMul, Nat.reduceSub, Nat.reduceLT, Nat.reduceLeDiff, Nat.le_refl, Nat.zero_le, Nat.zero_add, Nat.add_zero, Nat.mul_one, splice_zero, Int.toNat_natCast, Int.natCast_nonneg, Int.reduceLE, Int.reduceLT, Int.reduceToNat, Int.reduceEq, Int.cast_ofNat_Int, ne_eq, not_true_eq_false, not_false_eq_true, imp_self, implies_true, true_implies, false_implies, and_self, List.length_map, List.length_drop]
      exact no fun h => k2 h.1
  rintro fr σ4 ⟨f0, kv, h5, hF5⟩
  clear h4 hF4 hc4 h4' f3
  have hc5 : R2.came = R.came := hg4.1
  have hlen : (R.keep f).length ≤ R.kept.length + 1 := by unfold Rs.keep; split <;> simp
  obtain ⟨K, hK⟩ : ∃ K, K = R.keep f := ⟨_, rfl⟩
  have hhd : R.heard f = ((tell K.length R.came K).1, { R2 with came := (tell K.length R.came K).2.1, kept := (tell K.length R.came K).2.2 }) := by unfold Rs.heard; rw [← hR1, hR2, hK]
  rw [← hK] at h5 hF5 hlen
  clear hK
  simp only [go_sem, r_block, f0, reduceIte, Nat.reduceEqDiff, Nat.reduceAdd, Nat.reduceMul, Nat.reduceSub, Nat.reduceLT, Nat.reduceLeDiff, Nat.le_refl, Nat.zero_le, Nat.zero_add, Nat.add_zero, Nat.mul_one, splice_zero, Int.toNat_natCast, Int.natCast_nonneg, Int.reduceLE, Int.reduceLT, Int.reduceToNat, Int.reduceEq, Int.cast_ofNat_Int, ne_eq, not_true_eq_false, not_false_eq_true, imp_self, implies_true, true_implies, false_implies, and_self, List.length_map, List.length_drop]
  refine ⟨fun m fr σ' => ∃ (told : List Itm) (cm : Int) (e : List (Int × Itm)) (kv lv : AV), m = e.length ∧ fr 0 = ptr r ∧ fr 6 = lv ∧ RAt σ' r { R2 with came := cm, kept := e, kv := kv } ∧ Fro σ σ' r R { R2 with came := cm, kept := e, kv := kv } ∧ LAt 38 σ' lv (told.map Itm.cs) ∧ (∀ x, Own lv x → (∀ o, σ x = some o → R.foot r x) ∧ ¬ Rs.foot { R2 with came := cm, kept := e, kv := kv } r x) ∧ 0 ≤ cm ∧ cm + e.length ≤ 3000000 ∧ told.length + e.length ≤ 3000000 ∧ tell K.length R.came K = (told ++ (tell e.length cm e).1, (tell e.length cm e).2), ⟨_, [], R.came, K, kv, _, rfl, f0, rfl, by rw [← hc5]; exact h5, by rw [← hc5]; exact hF5, .none, (fun x hx => by obtain ⟨n, c, hx⟩ := hx; cases hx), by omega, by omega, by simp; omega, rfl⟩, ?_⟩
  clear h5 hF5
  rintro m fr σ5 ⟨told, cm, e, kv, lv, rfl, f0, f6, h5, hF5, hL, hown, hc0, hc1, hc2, htell⟩
  have h5' := h5.ob
  unfold rC at h5'
  simp only [go_sem, r_block, f0, f6, h5', reduceIte, Nat.reduceEqDiff, Nat.reduceAdd, Nat.reduceMul, Nat.reduceSub, Nat.reduceLT, Nat.reduceLeDiff, Nat.le_refl, Nat.zero_le, Nat.zero_add, Nat.add_zero, Nat.mul_one, splice_zero, Int.toNat_natCast, Int.natCast_nonneg, Int.reduceLE, Int.reduceLT, Int.reduceToNat, Int.reduceEq, Int.cast_ofNat_Int, ne_eq, not_true_eq_false, not_false_eq_true, imp_self, implies_true, true_implies, false_implies, and_self, List.length_map, List.length_drop]
  rw [wrap64 (by omega)]
  refine (kept_at h5 (cm + 1) (by show e.length ≤ _; omega)).mono ?_
  rintro _ σ5 ⟨rfl, ⟨i, hi, rfl, e1, e2⟩ | ⟨rfl, e1⟩⟩
  rotate_left
  · have hn : ((-1 : Int) < 0) := by omega
    simp only [go_sem, r_block, f0, f6, decide_eq_true hn, reduceIte, Nat.reduceEqDiff, Nat.reduceAdd, Nat.reduceMul, Nat.reduceSub, Nat.reduceLT, Nat.reduceLeDiff, Nat.le_refl, Nat.zero_le, Nat.zero_add, Nat.add_zero, Nat.mul_one, splice_zero, Int.toNat_natCast, Int.natCast_nonneg, Int.reduceLE, Int.reduceLT, Int.reduceToNat, Int.reduceEq, Int.cast_ofNat_Int, ne_eq, not_true_eq_false, not_false_eq_true, imp_self, implies_true, true_implies, false_implies, and_self, List.length_map, List.length_drop]
    have ht : tell e.length cm e = ([], cm, e) := by
      cases e with
      | nil => rfl
      | cons p e => simp only [List.length_cons, tell]; rw [show eFind (cm + 1) (p :: e) = none from e1]
    rw [ht] at htell
    have hrr : R.hear f = ((told, 0), { R2 with came := cm, kept := e }) := by rw [hh, hhd, htell]; simp
    refine aRet_view (r := .tup [lv, int 0]) rfl _ (St.free σ5 lv) (view_of (a' := .tup [.sl 38 (told.map Itm.cs), int 0]) sv_free (.tup _ _ rfl (vws_cons hL.vw_free (vws_refl _)).2)) ?_
    rw [hrr]
    refine ⟨rfl, kv, h5.keep fun x o hx hf => by rw [free_ne fun ho => (hown x ho).2 hf]; exact hx, fun y o hy hn => ?_⟩
    have := hF5 y o hy hn
    exact ⟨by rw [free_ne fun ho => hn ((hown y ho).1 o hy)]; exact this.1, this.2⟩
  have hn : ¬ ((i : Int) < 0) := by omega
  have hi' : i < e.length := hi
  have hle : e.length = (eDel (cm + 1) e).length + 1 := (eDel_length e1).symm
  have eg : (e.map kc).getD (i : Int).toNat [] = kc e[i] := by
    rw [Int.toNat_natCast]; simp [List.getD_eq_getElem?_getD, hi']
  have ht : tell e.length cm e = (e[i].2 :: (tell (eDel (cm + 1) e).length (cm + 1) (eDel (cm + 1) e)).1, (tell (eDel (cm + 1) e).length (cm + 1) (eDel (cm + 1) e)).2) := by
    rw [hle]
    simp only [tell]
    rw [show eFind (cm + 1) e = some e[i].2 from e1]
  rw [ht] at htell
  simp only [go_sem, r_block, f0, f6, decide_eq_false hn, h5', reduceIte, Nat.reduceEqDiff, Nat.reduceAdd, Nat.reduceMul, Nat.reduceSub, Nat.reduceLT, Nat.reduceLeDiff, Nat.le_refl, Nat.zero_le, Nat.zero_add, Nat.add_zero, Nat.mul_one, splice_zero, Int.toNat_natCast, Int.natCast_nonneg, Int.reduceLE, Int.reduceLT, Int.reduceToNat, Int.reduceEq, Int.cast_ofNat_Int, ne_eq, not_true_eq_false, not_false_eq_true, imp_self, implies_true, true_implies, false_implies, and_self, List.length_map, List.length_drop]
  refine h5.k.elem (by omega) (by simpa using hi') fun p hp => ?_
  rw [eg] at hp
  simp only [go_sem, r_block, f0, f6, reduceIte, Nat.reduceEqDiff, Nat.reduceAdd, Nat.reduceMul, Nat.reduceSub, Nat.reduceLT, Nat.reduceLeDiff, Nat.le_refl, Nat.zero_le, Nat.zero_add, Nat.add_zero, Nat.mul_one, splice_zero, Int.toNat_natCast, Int.natCast_nonneg, Int.reduceLE, Int.reduceLT, Int.reduceToNat, Int.reduceEq, Int.cast_ofNat_Int, ne_eq, not_true_eq_false, not_false_eq_true, imp_self, implies_true, true_implies, false_implies, and_self, List.length_map, List.length_drop]
  refine hp.fld (by decide) (by rw [kc_len]; omega) fun p' hp' => ?_
  simp only [go_sem, r_block, f0, f6, reduceIte, Nat.reduceEqDiff, Nat.reduceAdd, Nat.reduceMul, Nat.reduceSub, Nat.reduceLT, Nat.reduceLeDiff, Nat.le_refl, Nat.zero_le, Nat.zero_add, Nat.add_zero, Nat.mul_one, splice_zero, Int.toNat_natCast, Int.natCast_nonneg, Int.reduceLE, Int.reduceLT, Int.reduceToNat, Int.reduceEq, Int.cast_ofNat_Int, ne_eq, not_true_eq_false, not_false_eq_true, imp_self, implies_true, true_implies, false_implies, and_self, List.length_map, List.length_drop]
  refine hp'.load (by decide) (by rw [kc_len]; exact Nat.le_refl _) ?_
  simp only [go_sem, r_block, f0, f6, kc_at1, Itm.len, Itm.one, reduceIte, Nat.reduceEqDiff, Nat.reduceAdd, Nat.reduceMul, Nat.reduceSub, Nat.reduceLT, Nat.reduceLeDiff, Nat.le_refl, Nat.zero_le, Nat.zero_add, Nat.add_zero, Nat.mul_one, splice_zero, Int.toNat_natCast, Int.natCast_nonneg, Int.reduceLE, Int.reduceLT, Int.reduceToNat, Int.reduceEq, Int.cast_ofNat_Int, ne_eq, not_true_eq_false, not_false_eq_true, imp_self, implies_true, true_implies, false_implies, and_self, List.length_map, List.length_drop]
  refine aApp_by (ys := [e[i].2.cs]) rfl (by decide) (by decide) zl1_one (hL.app (by simp; omega) fun lv2 σ6 hL2 hs2 => ?_)
  have hfo : ∀ x, Rs.foot { R2 with came := cm, kept := e, kv := kv } r x → ¬ Own lv x := fun x hf ho => (hown x ho).2 hf
  have h6 := h5.keep (σ' := σ6) fun x o hx hf => (hs2 x o hx (hfo x hf)).1
  have hn6 : ∀ x, Rs.foot { R2 with came := cm, kept := e, kv := kv } r x → ¬ Own lv2 x := fun x hf => by
    obtain ⟨o, ho⟩ := h5.some hf
    exact (hs2 x o ho (hfo x hf)).2
  have ho6 : ∀ x, Own lv2 x → ∀ o, σ x = some o → R.foot r x := fun x ho o hx => Classical.byContradiction fun hn => by
    have h1 := hF5 x o hx hn
    exact (hs2 x o h1.1 fun h2 => hn ((hown x h2).1 o hx)).2 ho
  have hF6 : Fro σ σ6 r R { R2 with came := cm, kept := e, kv := kv } := fun y o hy hn => by
    have h1 := hF5 y o hy hn
    exact ⟨(hs2 y o h1.1 fun h2 => hn ((hown y h2).1 o hy)).1, h1.2⟩
  have hL2' : LAt 38 σ6 lv2 ((told ++ [e[i].2]).map Itm.cs) := by rw [List.map_append]; exact hL2
  clear hs2 hp hp' h5 h5' hL hF5 hown hL2 hfo
  have h6' := h6.ob
  unfold rC at h6'
  simp only [go_sem, r_block, f0, h6', reduceIte, Nat.reduceEqDiff, Nat.reduceAdd, Nat.reduceMul, Nat.reduceSub, Nat.reduceLT, Nat.reduceLeDiff, Nat.le_refl, Nat.zero_le, Nat.zero_add, Nat.add_zero, Nat.mul_one, splice_zero, Int.toNat_natCast, Int.natCast_nonneg, Int.reduceLE, Int.reduceLT, Int.reduceToNat, Int.reduceEq, Int.cast_ofNat_Int, ne_eq, not_true_eq_false, not_false_eq_true, imp_self, implies_true, true_implies, false_implies, and_self, List.length_map, List.length_drop]
  refine h6.k.upto (by omega) (by simp; omega) fun x hx => ?_
  simp only [go_sem, r_block, f0, h6', reduceIte, Nat.reduceEqDiff, Nat.reduceAdd, Nat.reduceMul, Nat.reduceSub, Nat.reduceLT, Nat.reduceLeDiff, Nat.le_refl, Nat.zero_le, Nat.zero_add, Nat.add_zero, Nat.mul_one, splice_zero, Int.toNat_natCast, Int.natCast_nonneg, Int.reduceLE, Int.reduceLT, Int.reduceToNat, Int.reduceEq, Int.cast_ofNat_Int, ne_eq, not_true_eq_false, not_false_eq_true, imp_self, implies_true, true_implies, false_implies, and_self, List.length_map, List.length_drop]
  refine aApp_by (hx _ _ h6.k) (by decide) (by decide) zl4_one (LAt.full.app (by simp; omega) fun v8 σ7 hL8 hs8 => ?_)
  have hno : ∀ q es x, ¬ Own (.fsl q es) x := fun q es x ⟨n, c, h⟩ => by cases h
  have h7' := (hs8 _ _ h6' (hno _ _ _)).1
  have hk7 : LAt 39 σ7 kv (e.map kc) := h6.k.keep fun x o hx _ => (hs8 x o hx (hno _ _ _)).1
  simp only [go_sem, r_block, f0, h7', reduceIte, Nat.reduceEqDiff, Nat.reduceAdd, Nat.reduceMul, Nat.reduceSub, Nat.reduceLT, Nat.reduceLeDiff, Nat.le_refl, Nat.zero_le, Nat.zero_add, Nat.add_zero, Nat.mul_one, splice_zero, Int.toNat_natCast, Int.natCast_nonneg, Int.reduceLE, Int.reduceLT, Int.reduceToNat, Int.reduceEq, Int.cast_ofNat_Int, ne_eq, not_true_eq_false, not_false_eq_true, imp_self, implies_true, true_implies, false_implies, and_self, List.length_map, List.length_drop]
  rw [next64 (by omega)]
  refine hk7.from (by decide) (by omega) (by simp; omega) fun x2 hx2 => ?_
  simp only [go_sem, r_block, f0, h7', reduceIte, Nat.reduceEqDiff, Nat.reduceAdd, Nat.reduceMul, Nat.reduceSub, Nat.reduceLT, Nat.reduceLeDiff, Nat.le_refl, Nat.zero_le, Nat.zero_add, Nat.add_zero, Nat.mul_one, splice_zero, Int.toNat_natCast, Int.natCast_nonneg, Int.reduceLE, Int.reduceLT, Int.reduceToNat, Int.reduceEq, Int.cast_ofNat_Int, ne_eq, not_true_eq_false, not_false_eq_true, imp_self, implies_true, true_implies, false_implies, and_self, List.length_map, List.length_drop]
  refine aApp_by (hx2 _ _ hk7) (by decide) (by decide) zl4_one (hL8.app (by simp; omega) fun kv2 σ8 hK8 hs9 => ?_)
  have hall : ∀ x o, σ6 x = some o → σ8 x = some o ∧ ¬ Own kv2 x := fun x o hx => hs9 x o (hs8 x o hx (hno _ _ _)).1 (hs8 x o hx (hno _ _ _)).2
  have hK8' : LAt 39 σ8 kv2 ((eDel (cm + 1) e).map kc) := by
    have : eDel (cm + 1) e = e.take i ++ e.drop (i + 1) := e2
    rw [this, List.map_append, List.map_take, List.map_drop]
    simpa using hK8
  clear hK8 hL8 hk7 h7' hx hx2 hs8 hs9
  have h8' := (hall _ _ h6').1
  simp only [go_sem, r_block, f0, h8', hK8'.one, hK8'.cells, reduceIte, Nat.reduceEqDiff, Nat.reduceAdd, Nat.reduceMul, Nat.reduceSub, Nat.reduceLT, Nat.reduceLeDiff, Nat.le_refl, Nat.zero_le, Nat.zero_add, Nat.add_zero, Nat.mul_one, splice_zero, Int.toNat_natCast, Int.natCast_nonneg, Int.reduceLE, Int.reduceLT, Int.reduceToNat, Int.reduceEq, Int.cast_ofNat_Int, ne_eq, not_true_eq_false, not_false_eq_true, imp_self, implies_true, true_implies, false_implies, and_self, List.length_map, List.length_drop]
  obtain ⟨h9, hF9⟩ := h6.setk hK8' fun x o hx _ => hall x o hx
  rw [wrap64 (x := cm + 1) (by omega)]
  have hL9 : LAt 38 (σ8.set r (.cells (rC { R2 with came := cm, kept := eDel (cm + 1) e, kv := kv2 }))) lv2 ((told ++ [e[i].2]).map Itm.cs) := hL2'.keep fun x o hx ho => by
    rw [set_ne (by rintro rfl; exact hn6 _ (.inl rfl) ho)]
    exact (hall x o hx).1
  have hn9 : ∀ x, Own lv2 x → ¬ Rs.foot { R2 with came := cm, kept := eDel (cm + 1) e, kv := kv2 } r x := fun x ho hf => by
    obtain ⟨c, hc⟩ := hL2'.own_rows ho
    rcases hf with hf | hf | hf
    · exact hn6 x (.inl hf) ho
    · exact hn6 x (.inr (.inl hf)) ho
    · exact (hall x _ hc).2 hf
  replace hF9 := hF6.trans hF9
  obtain ⟨h10, hF10⟩ := h9.set (R' := { R2 with came := cm + 1, kept := eDel (cm + 1) e, kv := kv2 }) rfl rfl rfl rfl
  rw [show (AObj.cells [R2.lv, int R2.gone, AV.v (Value.int IntKind.i64 (cm + 1)), kv2, boo R2.owes]) = .cells (rC { R2 with came := cm + 1, kept := eDel (cm + 1) e, kv := kv2 }) from rfl]
  replace hF10 := hF9.trans hF10
  replace hL9 : LAt 38 ((σ8.set r (.cells (rC { R2 with came := cm, kept := eDel (cm + 1) e, kv := kv2 }))).set r (.cells (rC { R2 with came := cm + 1, kept := eDel (cm + 1) e, kv := kv2 }))) lv2 ((told ++ [e[i].2]).map Itm.cs) := hL9.keep fun x o hx ho => by rw [set_ne (by rintro rfl; exact hn9 _ ho (.inl rfl))]; exact hx
  rw [set_set] at h10 hF10 hL9
  refine ⟨_, by omega, told ++ [e[i].2], cm + 1, eDel (cm + 1) e, kv2, lv2, rfl, rfl, h10, hF10, hL9, fun x ho => ⟨ho6 x ho, hn9 x ho⟩, by omega, by omega, by simp; omega, by rw [htell]; simp⟩
end
end Go.Proofs.Ytpdbmnogfanpmaa
