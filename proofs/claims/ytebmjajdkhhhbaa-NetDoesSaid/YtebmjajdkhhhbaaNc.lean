/-
  Messages on their way (package net): Take, Drop, Clone.
  Conditions: none.
-/
import Derived.Test.YtebmjajdkhhhbaaNb
set_option linter.unusedVariables false
set_option linter.unusedSimpArgs false
namespace Go.Proofs.Ytebmjajdkhhhbaa
open Go Go.Av

section
variable {σ σ' : St} {p : Nat} {s : Ns}
set_option maxRecDepth 100000
set_option maxHeartbeats 1000000

/-- Messages that are some, cloned: a row. -/
theorem mclone_row {es : List (List AV)} (he : es ≠ []) (hl : es.length ≤ 1000000) : AT Try.prog 31 [.sl 3 es] σ fun r σ' => ∃ b cap, σ b = none ∧ es.length ≤ cap ∧ r = .v (.slice (some ⟨b, 0, none⟩) es.length cap) ∧ σ' = σ.set b (.rows 3 es false cap) := by
  refine AT.of_body Try.func31 rfl (by decide) (by kernel_rfl) (by kernel_rfl) (Nat.le_of_ble_eq_true rfl) ?_
  simp only [go_sem, reduceIte, Nat.reduceEqDiff, Nat.reduceAdd, Nat.reduceMul, Nat.reduceSub, Nat.reduceLT, Nat.reduceLeDiff, Nat.le_refl, Nat.zero_le, Nat.zero_add, Nat.add_zero, Nat.mul_one, splice_zero, Int.toNat_natCast, Int.natCast_nonneg, Int.reduceLE, Int.reduceLT, Int.reduceToNat, Int.reduceEq, Int.cast_ofNat_Int, ne_eq, not_true_eq_false, not_false_eq_true, imp_self, implies_true, true_implies, false_implies, and_self, List.length_map, List.length_drop]
  refine ⟨fun _ => ?_, fun e => absurd e he⟩
  refine aApp_by (ys := es) (by simp [src]) (by decide) (by decide) (by decide) ⟨rfl, fun e => absurd e he, fun _ => ⟨by simp; omega, fun b cap hb hle => ?_⟩⟩
  simp only [go_sem, reduceIte, Nat.reduceEqDiff, Nat.reduceAdd, Nat.reduceMul, Nat.reduceSub, Nat.reduceLT, Nat.reduceLeDiff, Nat.le_refl, Nat.zero_le, Nat.zero_add, Nat.add_zero, Nat.mul_one, splice_zero, Int.toNat_natCast, Int.natCast_nonneg, Int.reduceLE, Int.reduceLT, Int.reduceToNat, Int.reduceEq, Int.cast_ofNat_Int, ne_eq, not_true_eq_false, not_false_eq_true, imp_self, implies_true, true_implies, false_implies, and_self, List.length_map, List.length_drop]
  refine aRet_as (r := .v (.slice (some ⟨b, 0, none⟩) es.length cap)) (by simp [aResult, aResL, aRes1, oneR, go_sem]) ⟨b, cap, hb, by simpa using hle, rfl, by simp⟩

theorem delete_at {b cap i : Nat} {es : List (List AV)} (h : σ b = some (.rows 3 es false cap)) (hi : i < es.length) (hc : es.length ≤ cap) (hl : es.length ≤ 1000000) :
    AT Try.prog 30 [.v (.slice (some ⟨b, 0, none⟩) es.length cap), int i, int (i + 1 : Nat)] σ fun r σ' => r = .sl 3 (es.take i ++ es.drop (i + 1)) ∧ σ' = σ.del b := by
  refine AT.of_body Try.func30 rfl (by decide) (by kernel_rfl) (by kernel_rfl) (Nat.le_of_ble_eq_true rfl) ?_
  simp only [go_sem, reduceIte, Nat.reduceEqDiff, Nat.reduceAdd, Nat.reduceMul, Nat.reduceSub, Nat.reduceLT, Nat.reduceLeDiff, Nat.le_refl, Nat.zero_le, Nat.zero_add, Nat.add_zero, Nat.mul_one, splice_zero, Int.toNat_natCast, Int.natCast_nonneg, Int.reduceLE, Int.reduceLT, Int.reduceToNat, Int.reduceEq, Int.cast_ofNat_Int, ne_eq, not_true_eq_false, not_false_eq_true, imp_self, implies_true, true_implies, false_implies, and_self, List.length_map, List.length_drop]
  refine .inl ⟨b, 0, _, cap, rfl, i, (i + 1 : Nat), es.length, rfl, rfl, .inr ⟨by simp, by simp, rfl⟩, by omega, by omega, by omega, by omega, ?_⟩
  have ne : ¬ ((i : Int) = (i + 1 : Nat)) := by omega
  simp only [go_sem, decide_eq_false ne, reduceIte, Nat.reduceEqDiff, Nat.reduceAdd, Nat.reduceMul, Nat.reduceSub, Nat.reduceLT, Nat.reduceLeDiff, Nat.le_refl, Nat.zero_le, Nat.zero_add, Nat.add_zero, Nat.mul_one, splice_zero, Int.toNat_natCast, Int.natCast_nonneg, Int.reduceLE, Int.reduceLT, Int.reduceToNat, Int.reduceEq, Int.cast_ofNat_Int, ne_eq, not_true_eq_false, not_false_eq_true, imp_self, implies_true, true_implies, false_implies, and_self, List.length_map, List.length_drop]
  refine aDraw_plan [.rd 0 false, .rd 1 false, .rd 2 true, .rd 3 false, .rd 4 false, .rd 5 true, .ef 6 [], .rd 7 false] (by kernel_rfl) (by kernel_rfl) (by kernel_rfl) ?_
  simp only [go_sem, reduceIte, Nat.reduceEqDiff, Nat.reduceAdd, Nat.reduceMul, Nat.reduceSub, Nat.reduceLT, Nat.reduceLeDiff, Nat.le_refl, Nat.zero_le, Nat.zero_add, Nat.add_zero, Nat.mul_one, splice_zero, Int.toNat_natCast, Int.natCast_nonneg, Int.reduceLE, Int.reduceLT, Int.reduceToNat, Int.reduceEq, Int.cast_ofNat_Int, ne_eq, not_true_eq_false, not_false_eq_true, imp_self, implies_true, true_implies, false_implies, and_self, List.length_map, List.length_drop]
  refine .inl ⟨b, 0, _, cap, rfl, 0, i, cap, rfl, rfl, .inl ⟨rfl, rfl⟩, by omega, by omega, by omega, by omega, ?_⟩
  have e0 : offAt (cap : Int).toNat (0 : Int).toNat 0 3 = 0 := by simp [offAt]
  rw [e0]
  simp only [go_sem, reduceIte, Nat.reduceEqDiff, Nat.reduceAdd, Nat.reduceMul, Nat.reduceSub, Nat.reduceLT, Nat.reduceLeDiff, Nat.le_refl, Nat.zero_le, Nat.zero_add, Nat.add_zero, Nat.mul_one, splice_zero, Int.toNat_natCast, Int.natCast_nonneg, Int.reduceLE, Int.reduceLT, Int.reduceToNat, Int.reduceEq, Int.cast_ofNat_Int, ne_eq, not_true_eq_false, not_false_eq_true, imp_self, implies_true, true_implies, false_implies, and_self, List.length_map, List.length_drop]
  refine .inl ⟨b, 0, _, cap, rfl, (i + 1 : Nat), es.length, cap, rfl, rfl, .inl ⟨rfl, rfl⟩, by omega, by omega, by omega, by omega, ?_⟩
  simp only [go_sem, reduceIte, Nat.reduceEqDiff, Nat.reduceAdd, Nat.reduceMul, Nat.reduceSub, Nat.reduceLT, Nat.reduceLeDiff, Nat.le_refl, Nat.zero_le, Nat.zero_add, Nat.add_zero, Nat.mul_one, splice_zero, Int.toNat_natCast, Int.natCast_nonneg, Int.reduceLE, Int.reduceLT, Int.reduceToNat, Int.reduceEq, Int.cast_ofNat_Int, ne_eq, not_true_eq_false, not_false_eq_true, imp_self, implies_true, true_implies, false_implies, and_self, List.length_map, List.length_drop]
  have hys : src 3 false σ (.v (.slice (some ⟨b, offAt cap (i + 1) 0 3, none⟩) (es.length - (i + 1)) (cap - (i + 1)))) = some (es.drop (i + 1)) := by
    simp only [src, h]
    unfold offAt
    split
    · rename_i hm
      have : es.length - (i + 1) = 0 := by omega
      rw [this, if_pos ⟨trivial, by simp, by simp⟩]
      have e2 : es.drop (i + 1) = [] := List.eq_nil_of_length_eq_zero (by simp; omega)
      rw [e2]; simp
    · have e4 : (0 + (i + 1) * 3) / 3 = i + 1 := by omega
      rw [if_pos ⟨trivial, by omega, by omega⟩, e4, List.take_of_length_le (by simp)]
  refine aApp_by hys (by decide) (by decide) (by decide) (.inr (.inr ⟨rfl, ?_⟩))
  rw [h]
  refine ⟨rfl, by omega, rfl, by simp; omega, by simp; omega, ?_⟩
  have hl2 : i + (es.drop (i + 1)).length = es.length - 1 := by simp; omega
  simp only [Nat.sub_zero]
  rw [hl2]
  obtain ⟨es2, hes2⟩ : ∃ es2, es2 = es.take i ++ es.drop (i + 1) ++ es.drop (es.length - 1) := ⟨_, rfl⟩
  have hl3 : es2.length = es.length := by rw [hes2]; simp; omega
  rw [← hes2]
  simp only [go_sem, reduceIte, Nat.reduceEqDiff, Nat.reduceAdd, Nat.reduceMul, Nat.reduceSub, Nat.reduceLT, Nat.reduceLeDiff, Nat.le_refl, Nat.zero_le, Nat.zero_add, Nat.add_zero, Nat.mul_one, splice_zero, Int.toNat_natCast, Int.natCast_nonneg, Int.reduceLE, Int.reduceLT, Int.reduceToNat, Int.reduceEq, Int.cast_ofNat_Int, ne_eq, not_true_eq_false, not_false_eq_true, imp_self, implies_true, true_implies, false_implies, and_self, List.length_map, List.length_drop]
  refine .inl ⟨b, 0, _, cap, rfl, (es.length - 1 : Nat), es.length, cap, rfl, rfl, .inl ⟨rfl, rfl⟩, by omega, by omega, by omega, by omega, ?_⟩
  simp only [go_sem, reduceIte, Nat.reduceEqDiff, Nat.reduceAdd, Nat.reduceMul, Nat.reduceSub, Nat.reduceLT, Nat.reduceLeDiff, Nat.le_refl, Nat.zero_le, Nat.zero_add, Nat.add_zero, Nat.mul_one, splice_zero, Int.toNat_natCast, Int.natCast_nonneg, Int.reduceLE, Int.reduceLT, Int.reduceToNat, Int.reduceEq, Int.cast_ofNat_Int, ne_eq, not_true_eq_false, not_false_eq_true, imp_self, implies_true, true_implies, false_implies, and_self, List.length_map, List.length_drop]
  have eo : offAt cap (es.length - 1) 0 3 = (es.length - 1) * 3 := by unfold offAt; rw [if_neg (by omega)]; omega
  have e1 : es.length - (es.length - 1) = 1 := by omega
  rw [eo, e1]
  simp only [aClear, set_same, Nat.one_ne_zero, if_false]
  have e5 : (es.length - 1) * 3 / 3 = es.length - 1 := by omega
  refine ⟨trivial, by omega, by omega, by omega, by decide, ?_⟩
  rw [e5]
  simp only [go_sem, reduceIte, Nat.reduceEqDiff, Nat.reduceAdd, Nat.reduceMul, Nat.reduceSub, Nat.reduceLT, Nat.reduceLeDiff, Nat.le_refl, Nat.zero_le, Nat.zero_add, Nat.add_zero, Nat.mul_one, splice_zero, Int.toNat_natCast, Int.natCast_nonneg, Int.reduceLE, Int.reduceLT, Int.reduceToNat, Int.reduceEq, Int.cast_ofNat_Int, ne_eq, not_true_eq_false, not_false_eq_true, imp_self, implies_true, true_implies, false_implies, and_self, List.length_map, List.length_drop]
  obtain ⟨es3, hes3⟩ : ∃ es3, es3 = es2.take (es.length - 1) ++ List.replicate 1 (List.map AV.v [Value.int .i64 0, .string ⟨#[]⟩, .slice none 0 0]) ++ es2.drop (es.length - 1 + 1) := ⟨_, rfl⟩
  have hl4 : es3.length = es.length := by rw [hes3]; simp; omega
  have hlr : (es.take i ++ es.drop (i + 1)).length = es.length - 1 := by simp; omega
  have hg : ∀ j, j < es.length - 1 → es3.getD j [] = (es.take i ++ es.drop (i + 1)).getD j [] := fun j hj => by
    have a1 : es2.take (es.length - 1) = es.take i ++ es.drop (i + 1) := by rw [hes2]; exact List.take_left' hlr
    rw [hes3, a1]
    simp only [List.getD_eq_getElem?_getD]
    rw [List.append_assoc, List.getElem?_append_left (by rw [hlr]; exact hj)]
  refine aRet_view (r := .v (.slice (some ⟨b, 0, none⟩) (es.length - 1) cap)) (by simp [aResult, aResL, aRes1, oneR, go_sem]) _ (σ.del b) (view_of (sv_of fun x o hx => .inl ?_) (.rowp b 3 es3 _ false cap _ _ (by rw [hes3]; simp [set_same]) (by simp [St.del]) (by omega) (by omega) hlr (fun j hj => by rw [hg j hj]) fun j c hj hc => ?_)) ⟨rfl, rfl⟩
  · simp only [St.del] at hx
    split at hx
    · cases hx
    · rename_i hxb
      simp only [set_ne hxb]
      exact hx
  · rw [hg j hj]; exact .refl _

def Ns.take (s : Ns) (k : Int) : (Msg × Int) × Ns := match nFind k s.l with
  | none => ((⟨0, ⟨#[]⟩, []⟩, 220), s)
  | some m => ((m, 0), ⟨nDel k s.l, s.last⟩)
/-- A message, its bytes in a row of one's own. -/
def Mo (σ σ' : St) (m : Msg) (cs : List AV) : Prop := ∃ lv, cs = [int m.num, str m.to, lv] ∧ LAt 1 σ' lv (byC m.b) ∧ Grow σ σ' lv ∧ (m.b ≠ [] → ∃ b cap, lv = .v (.slice (some ⟨b, 0, none⟩) m.b.length cap))
/-- Frozen bytes, cloned: a row, where there are some. -/
theorem brow_at {b : Byt} (hl : b.length ≤ 65536) : AT Try.prog 32 [.sl 1 (byC b)] σ fun r σ' => LAt 1 σ' r (byC b) ∧ Grow σ σ' r ∧ (b ≠ [] → ∃ q cap, r = .v (.slice (some ⟨q, 0, none⟩) b.length cap)) := by
  by_cases he : b = []
  · exact (bclone_at (.inl rfl) (by rw [byC_len]; omega)).mono fun r σ' h => ⟨h.1, h.2, fun h => absurd he h⟩
  have he2 : byC b ≠ [] := fun e => he (by simpa [byC] using e)
  refine AT.of_body Try.func32 rfl (by decide) (by kernel_rfl) (by kernel_rfl) (Nat.le_of_ble_eq_true rfl) ?_
  simp only [go_sem, reduceIte, Nat.reduceEqDiff, Nat.reduceAdd, Nat.reduceMul, Nat.reduceSub, Nat.reduceLT, Nat.reduceLeDiff, Nat.le_refl, Nat.zero_le, Nat.zero_add, Nat.add_zero, Nat.mul_one, splice_zero, Int.toNat_natCast, Int.natCast_nonneg, Int.reduceLE, Int.reduceLT, Int.reduceToNat, Int.reduceEq, Int.cast_ofNat_Int, ne_eq, not_true_eq_false, not_false_eq_true, imp_self, implies_true, true_implies, false_implies, and_self, List.length_map, List.length_drop]
  refine ⟨fun _ => ?_, fun e => absurd e he2⟩
  refine aApp_by (ys := byC b) (by simp [src]) (by decide) (by decide) (by decide) ⟨rfl, fun e => absurd e he2, fun _ => ⟨by simp [byC_len]; omega, fun q cap hq hle => ?_⟩⟩
  simp only [go_sem, reduceIte, Nat.reduceEqDiff, Nat.reduceAdd, Nat.reduceMul, Nat.reduceSub, Nat.reduceLT, Nat.reduceLeDiff, Nat.le_refl, Nat.zero_le, Nat.zero_add, Nat.add_zero, Nat.mul_one, splice_zero, Int.toNat_natCast, Int.natCast_nonneg, Int.reduceLE, Int.reduceLT, Int.reduceToNat, Int.reduceEq, Int.cast_ofNat_Int, ne_eq, not_true_eq_false, not_false_eq_true, imp_self, implies_true, true_implies, false_implies, and_self, List.length_map, List.length_drop]
  refine aRet_as (r := .v (.slice (some ⟨q, 0, none⟩) (byC b).length cap)) (by simp [aResult, aResL, aRes1, oneR, go_sem]) ⟨.inr (.inr ⟨q, cap, rfl, by simpa using hle, by simp [set_same]⟩), fun y o hy => ⟨set_sub hq (fun _ _ h => h) y o hy, fun ⟨n, c, e⟩ => ?_⟩, fun _ => ⟨q, cap, by rw [byC_len]⟩⟩
  injection e with e
  injection e with e
  injection e with e
  injection e with e
  subst e
  rw [hq] at hy; cases hy

theorem take_own (h : σ p = some s.O) (ho : s.Ok) (k : Int) : AT Try.prog 13 [ptr p, int k] σ fun r σ' => ∃ cs, r = .tup [.agg cs, int (s.take k).1.2] ∧ σ' p = some (s.take k).2.O ∧ Mo (σ.set p (s.take k).2.O) σ' (s.take k).1.1 cs := by
  refine AT.of_body Try.func13 rfl (by decide) (by kernel_rfl) (by kernel_rfl) (Nat.le_of_ble_eq_true rfl) ?_
  simp only [go_sem, reduceIte, Nat.reduceEqDiff, Nat.reduceAdd, Nat.reduceMul, Nat.reduceSub, Nat.reduceLT, Nat.reduceLeDiff, Nat.le_refl, Nat.zero_le, Nat.zero_add, Nat.add_zero, Nat.mul_one, splice_zero, Int.toNat_natCast, Int.natCast_nonneg, Int.reduceLE, Int.reduceLT, Int.reduceToNat, Int.reduceEq, Int.cast_ofNat_Int, ne_eq, not_true_eq_false, not_false_eq_true, imp_self, implies_true, true_implies, false_implies, and_self, List.length_map, List.length_drop]
  refine aNew_intro fun c hc hcm => ?_
  have hpc : p ≠ c := hcm _ _ h
  have h1 : (σ.set c (.cells [int 0, str ⟨#[]⟩, nilS])) p = some s.O := by rw [set_ne hpc]; exact h
  have hc1 : (σ.set c (.cells [int 0, str ⟨#[]⟩, nilS])) c = some (.cells [int 0, str ⟨#[]⟩, nilS]) := set_same
  have hsub : ∀ x o, σ x = some o → (σ.set c (.cells [int 0, str ⟨#[]⟩, nilS])) x = some o := set_sub hc fun _ _ h => h
  revert h1 hc1 hsub
  generalize σ.set c (.cells [int 0, str ⟨#[]⟩, nilS]) = σ1
  intro h1 hc1 hsub
  simp only [go_sem, r_block, reduceIte, Nat.reduceEqDiff, Nat.reduceAdd, Nat.reduceMul, Nat.reduceSub, Nat.reduceLT, Nat.reduceLeDiff, Nat.le_refl, Nat.zero_le, Nat.zero_add, Nat.add_zero, Nat.mul_one, splice_zero, Int.toNat_natCast, Int.natCast_nonneg, Int.reduceLE, Int.reduceLT, Int.reduceToNat, Int.reduceEq, Int.cast_ofNat_Int, ne_eq, not_true_eq_false, not_false_eq_true, imp_self, implies_true, true_implies, false_implies, and_self, List.length_map, List.length_drop]
  refine (none_at h1).mono ?_
  rintro _ σ1 ⟨rfl, rfl⟩
  simp only [go_sem, r_block, reduceIte, Nat.reduceEqDiff, Nat.reduceAdd, Nat.reduceMul, Nat.reduceSub, Nat.reduceLT, Nat.reduceLeDiff, Nat.le_refl, Nat.zero_le, Nat.zero_add, Nat.add_zero, Nat.mul_one, splice_zero, Int.toNat_natCast, Int.natCast_nonneg, Int.reduceLE, Int.reduceLT, Int.reduceToNat, Int.reduceEq, Int.cast_ofNat_Int, ne_eq, not_true_eq_false, not_false_eq_true, imp_self, implies_true, true_implies, false_implies, and_self, List.length_map, List.length_drop]
  refine (find_at h1 ho k).mono ?_
  rintro _ σ1 ⟨rfl, ⟨i, hi, rfl, e, ed⟩ | ⟨i, rfl, e⟩⟩
  rotate_left
  · simp only [go_sem, r_block, hc1, reduceIte, Nat.reduceEqDiff, Nat.reduceAdd, Nat.reduceMul, Nat.reduceSub, Nat.reduceLT, Nat.reduceLeDiff, Nat.le_refl, Nat.zero_le, Nat.zero_add, Nat.add_zero, Nat.mul_one, splice_zero, Int.toNat_natCast, Int.natCast_nonneg, Int.reduceLE, Int.reduceLT, Int.reduceToNat, Int.reduceEq, Int.cast_ofNat_Int, ne_eq, not_true_eq_false, not_false_eq_true, imp_self, implies_true, true_implies, false_implies, and_self, List.length_map, List.length_drop]
    have et : s.take k = ((⟨0, ⟨#[]⟩, []⟩, 220), s) := by unfold Ns.take; rw [e]
    have hsub2 : ∀ x o, (σ.set p s.O) x = some o → (σ1.set c (.cells [int 0, str ⟨#[]⟩, nilS])) x = some o := fun x o hx => by
      rw [set_id h] at hx
      rw [set_ne (hcm x o hx)]
      exact hsub x o hx
    refine aRet_as (r := .tup [.agg [int 0, str ⟨#[]⟩, nilS], int 220]) (by simp [aResult, aResL, aRes1, aResC, oneR, go_sem, Fr.up]) ?_
    rw [et]
    exact ⟨_, rfl, by rw [set_ne hpc]; exact h1, nilS, rfl, .inl ⟨rfl, rfl⟩, (fun y o hy => ⟨hsub2 y o hy, fun ⟨n, c, e⟩ => by cases e⟩), fun h => absurd rfl h⟩
  · have hm : s.l[i] ∈ s.l := List.getElem_mem hi
    have et : s.take k = ((s.l[i], 0), ⟨nDel k s.l, s.last⟩) := by unfold Ns.take; rw [e]
    have h1' := h1
    unfold Ns.O nO at h1'
    have eg := msgs_get hi
    simp only [go_sem, r_block, h1', eg, Msg.len, Msg.take, reduceIte, Nat.reduceEqDiff, Nat.reduceAdd, Nat.reduceMul, Nat.reduceSub, Nat.reduceLT, Nat.reduceLeDiff, Nat.le_refl, Nat.zero_le, Nat.zero_add, Nat.add_zero, Nat.mul_one, splice_zero, Int.toNat_natCast, Int.natCast_nonneg, Int.reduceLE, Int.reduceLT, Int.reduceToNat, Int.reduceEq, Int.cast_ofNat_Int, ne_eq, not_true_eq_false, not_false_eq_true, imp_self, implies_true, true_implies, false_implies, and_self, List.length_map, List.length_drop]
    refine ⟨by omega, aNew_intro fun d hd hdm => ?_⟩
    have hpd : p ≠ d := hdm _ _ h1
    have hcd : c ≠ d := hdm _ _ hc1
    have h2 : (σ1.set d (.cells s.l[i].cs)) p = some (.cells [AV.sl 3 (List.map Msg.cs s.l), int s.last, boo true]) := by rw [set_ne hpd]; exact h1'
    have hc2 : (σ1.set d (.cells s.l[i].cs)) c = some (.cells [int 0, str ⟨#[]⟩, nilS]) := by rw [set_ne hcd]; exact hc1
    have hd2 : (σ1.set d (.cells s.l[i].cs)) d = some (.cells s.l[i].cs) := set_same
    have hdn : ∀ o, σ d ≠ some o := fun o hx => by have := hsub _ _ hx; rw [hd] at this; cases this
    have hsub2 : ∀ x o, σ x = some o → (σ1.set d (.cells s.l[i].cs)) x = some o := fun x o hx => set_sub hd (fun _ _ h => h) x o (hsub x o hx)
    simp only [go_sem, set_same, Msg.one, Msg.len, reduceIte, Nat.reduceEqDiff, Nat.reduceAdd, Nat.reduceMul, Nat.reduceSub, Nat.reduceLT, Nat.reduceLeDiff, Nat.le_refl, Nat.zero_le, Nat.zero_add, Nat.add_zero, Nat.mul_one, splice_zero, Int.toNat_natCast, Int.natCast_nonneg, Int.reduceLE, Int.reduceLT, Int.reduceToNat, Int.reduceEq, Int.cast_ofNat_Int, ne_eq, not_true_eq_false, not_false_eq_true, imp_self, implies_true, true_implies, false_implies, and_self, List.length_map, List.length_drop]
    revert h2 hc2 hd2 hsub2
    generalize σ1.set d (.cells s.l[i].cs) = σ2
    intro h2 hc2 hd2 hsub2
    simp only [go_sem, r_block, h2, reduceIte, Nat.reduceEqDiff, Nat.reduceAdd, Nat.reduceMul, Nat.reduceSub, Nat.reduceLT, Nat.reduceLeDiff, Nat.le_refl, Nat.zero_le, Nat.zero_add, Nat.add_zero, Nat.mul_one, splice_zero, Int.toNat_natCast, Int.natCast_nonneg, Int.reduceLE, Int.reduceLT, Int.reduceToNat, Int.reduceEq, Int.cast_ofNat_Int, ne_eq, not_true_eq_false, not_false_eq_true, imp_self, implies_true, true_implies, false_implies, and_self, List.length_map, List.length_drop]
    have hln := ho.ln
    refine (mclone_row (es := s.l.map Msg.cs) (by intro e; have := congrArg List.length e; simp at this; rw [this] at hi; simp at hi) (by simp; omega)).mono ?_
    rintro _ σ3 ⟨b, cap, hb, hle, rfl, hσ3⟩
    have hbp : p ≠ b := by rintro rfl; rw [h2] at hb; cases hb
    have hbc : c ≠ b := by rintro rfl; rw [hc2] at hb; cases hb
    have hbd : d ≠ b := by rintro rfl; rw [hd2] at hb; cases hb
    have h3 : σ3 p = some (.cells [AV.sl 3 (List.map Msg.cs s.l), int s.last, boo true]) := by rw [hσ3, set_ne hbp]; exact h2
    have hb3 : σ3 b = some (.rows 3 (s.l.map Msg.cs) false cap) := by rw [hσ3, set_same]
    have hdel : ∀ x o, σ2 x = some o → (σ3.del b) x = some o := fun x o hx => by
      have hxb : x ≠ b := by rintro rfl; rw [hb] at hx; cases hx
      simp only [St.del]
      rw [if_neg hxb, hσ3, set_ne hxb]; exact hx
    simp only [go_sem, r_block, reduceIte, Nat.reduceEqDiff, Nat.reduceAdd, Nat.reduceMul, Nat.reduceSub, Nat.reduceLT, Nat.reduceLeDiff, Nat.le_refl, Nat.zero_le, Nat.zero_add, Nat.add_zero, Nat.mul_one, splice_zero, Int.toNat_natCast, Int.natCast_nonneg, Int.reduceLE, Int.reduceLT, Int.reduceToNat, Int.reduceEq, Int.cast_ofNat_Int, ne_eq, not_true_eq_false, not_false_eq_true, imp_self, implies_true, true_implies, false_implies, and_self, List.length_map, List.length_drop]
    rw [next64 (by omega)]
    have hda := delete_at hb3 (by simpa using hi) hle (by simp; omega)
    rw [List.length_map] at hda
    refine hda.mono ?_
    rintro _ σ4 ⟨rfl, hσ4⟩
    rw [← List.map_take, ← List.map_drop, ← List.map_append, ← ed]
    rw [← hσ4] at hdel
    have h4 := hdel _ _ h2
    have hc4 := hdel _ _ hc2
    have hd4 := hdel _ _ hd2
    have hsub4 : ∀ x o, σ x = some o → σ4 x = some o := fun x o hx => hdel x o (hsub2 x o hx)
    clear hσ4 hdel hb3 h3 hσ3 hle hb h2 hc2 hd2 hsub2 h1 hc1 hsub h1'
    simp only [go_sem, r_block, h4, reduceIte, Nat.reduceEqDiff, Nat.reduceAdd, Nat.reduceMul, Nat.reduceSub, Nat.reduceLT, Nat.reduceLeDiff, Nat.le_refl, Nat.zero_le, Nat.zero_add, Nat.add_zero, Nat.mul_one, splice_zero, Int.toNat_natCast, Int.natCast_nonneg, Int.reduceLE, Int.reduceLT, Int.reduceToNat, Int.reduceEq, Int.cast_ofNat_Int, ne_eq, not_true_eq_false, not_false_eq_true, imp_self, implies_true, true_implies, false_implies, and_self, List.length_map, List.length_drop]
    have hd5 : (σ4.set p (.cells [AV.sl 3 ((nDel k s.l).map Msg.cs), int s.last, boo true])) d = some (.cells s.l[i].cs) := by rw [set_ne hpd.symm]; exact hd4
    have hc5 : (σ4.set p (.cells [AV.sl 3 ((nDel k s.l).map Msg.cs), int s.last, boo true])) c = some (.cells [int 0, str ⟨#[]⟩, nilS]) := by rw [set_ne hpc.symm]; exact hc4
    have hsub5 : ∀ x o, (σ.set p (Ns.O ⟨nDel k s.l, s.last⟩)) x = some o → (σ4.set p (.cells [AV.sl 3 ((nDel k s.l).map Msg.cs), int s.last, boo true])) x = some o := fun x o hx => by
      by_cases hxp : x = p
      · subst hxp; rw [set_same] at hx ⊢; exact hx
      · rw [set_ne hxp] at hx ⊢; exact hsub4 x o hx
    revert hd5 hc5 hsub5
    generalize σ4.set p (.cells [AV.sl 3 ((nDel k s.l).map Msg.cs), int s.last, boo true]) = σ5
    intro hd5 hc5 hsub5
    clear h4 hc4 hd4 hsub4
    have hms : ∀ x, (σ.set p (Ns.O ⟨nDel k s.l, s.last⟩)) x = none ∨ ∃ o, (σ.set p (Ns.O ⟨nDel k s.l, s.last⟩)) x = some o := fun x => by cases (σ.set p (Ns.O ⟨nDel k s.l, s.last⟩)) x <;> simp
    simp only [go_sem, r_block, hd5, Msg.len, Msg.dr2, Msg.at2, reduceIte, Nat.reduceEqDiff, Nat.reduceAdd, Nat.reduceMul, Nat.reduceSub, Nat.reduceLT, Nat.reduceLeDiff, Nat.le_refl, Nat.zero_le, Nat.zero_add, Nat.add_zero, Nat.mul_one, splice_zero, Int.toNat_natCast, Int.natCast_nonneg, Int.reduceLE, Int.reduceLT, Int.reduceToNat, Int.reduceEq, Int.cast_ofNat_Int, ne_eq, not_true_eq_false, not_false_eq_true, imp_self, implies_true, true_implies, false_implies, and_self, List.length_map, List.length_drop]
    refine (brow_at (ho.by_ _ hm)).mono ?_
    rintro lv σ6 ⟨hL, hG, hrow⟩
    have hd6 := hG.sub _ _ hd5
    have hc6 := hG.sub _ _ hc5
    have esp : splice s.l[i].cs 2 [lv] = [int s.l[i].num, str s.l[i].to, lv] := rfl
    simp only [go_sem, r_block, hd6, hc6, Msg.len, hL.one, hL.cells, set_same, set_ne hcd, set_ne hcd.symm, esp, reduceIte, Nat.reduceEqDiff, Nat.reduceAdd, Nat.reduceMul, Nat.reduceSub, Nat.reduceLT, Nat.reduceLeDiff, Nat.le_refl, Nat.zero_le, Nat.zero_add, Nat.add_zero, Nat.mul_one, splice_zero, Int.toNat_natCast, Int.natCast_nonneg, Int.reduceLE, Int.reduceLT, Int.reduceToNat, Int.reduceEq, Int.cast_ofNat_Int, ne_eq, not_true_eq_false, not_false_eq_true, imp_self, implies_true, true_implies, false_implies, and_self, List.length_map, List.length_drop]
    have hld : ∀ x, Own lv x → x ≠ d := fun x hx e => by subst e; exact hL.not_own hd6 hx
    have hlc : ∀ x, Own lv x → x ≠ c := fun x hx e => by subst e; exact hL.not_own hc6 hx
    refine aRet_as (r := .tup [.agg [int s.l[i].num, str s.l[i].to, lv], int 0]) (by simp [aResult, aResL, aRes1, aResC, oneR, go_sem, Fr.up]) ?_
    rw [et]
    have hGf : ∀ y o, (σ.set p (Ns.O ⟨nDel k s.l, s.last⟩)) y = some o → ((σ6.set d (.cells [int s.l[i].num, str s.l[i].to, lv])).set c (.cells [int s.l[i].num, str s.l[i].to, lv])) y = some o ∧ ¬ Own lv y := fun y o hy => by
      have h6 := hG y o (hsub5 y o hy)
      by_cases hyp : y = p
      · subst hyp
        rw [set_ne hpc, set_ne hpd]
        exact h6
      · rw [set_ne hyp] at hy
        have hyc := hcm y o hy
        have hyd : y ≠ d := by rintro rfl; exact hdn _ hy
        rw [set_ne hyc, set_ne hyd]
        exact h6
    exact ⟨_, rfl, (hGf p _ set_same).1, lv, rfl, hL.keep fun x o hx ho => by rw [set_ne (hlc x ho), set_ne (hld x ho)]; exact hx, hGf, hrow⟩

/-- .. its bytes frozen. -/
theorem take_at (h : σ p = some s.O) (ho : s.Ok) (k : Int) : AT Try.prog 13 [ptr p, int k] σ fun r σ' => r = .tup [.agg (s.take k).1.1.cs, int (s.take k).1.2] ∧ σ' = σ.set p (s.take k).2.O :=
  (take_own h ho k).post (by kernel_rfl) fun r σ' ⟨cs, hr, hp, lv, hcs, hL, hG, _⟩ => ⟨_, _, view_of (a' := .tup [.agg (s.take k).1.1.cs, int (s.take k).1.2]) (sv_of fun x o hx => .inl (hG.sub x o hx)) (by
    subst hr; subst hcs
    have hin : VWs σ' (σ.set p (s.take k).2.O) [int (s.take k).1.1.num, str (s.take k).1.1.to, lv] (s.take k).1.1.cs := vws_same (vws_same (vws_cons (hL.vw_same fun x hx => hG.own hx) vws_nil))
    exact .tup _ _ rfl (vws_cons (.agg _ _ hin.1 hin.2) (vws_refl _)).2), rfl, rfl⟩

theorem drop_at (h : σ p = some s.O) (ho : s.Ok) (k : Int) : AT Try.prog 15 [ptr p, int k] σ fun r σ' => r = int (s.take k).1.2 ∧ σ' = σ.set p (s.take k).2.O := by
  refine AT.of_body Try.func15 rfl (by decide) (by kernel_rfl) (by kernel_rfl) (Nat.le_of_ble_eq_true rfl) ?_
  simp only [go_sem, r_block, reduceIte, Nat.reduceEqDiff, Nat.reduceAdd, Nat.reduceMul, Nat.reduceSub, Nat.reduceLT, Nat.reduceLeDiff, Nat.le_refl, Nat.zero_le, Nat.zero_add, Nat.add_zero, Nat.mul_one, splice_zero, Int.toNat_natCast, Int.natCast_nonneg, Int.reduceLE, Int.reduceLT, Int.reduceToNat, Int.reduceEq, Int.cast_ofNat_Int, ne_eq, not_true_eq_false, not_false_eq_true, imp_self, implies_true, true_implies, false_implies, and_self, List.length_map, List.length_drop]
  refine (take_at h ho k).mono ?_
  rintro _ σ1 ⟨rfl, rfl⟩
  simp only [go_sem, r_block, Msg.one, Msg.len, reduceIte, Nat.reduceEqDiff, Nat.reduceAdd, Nat.reduceMul, Nat.reduceSub, Nat.reduceLT, Nat.reduceLeDiff, Nat.le_refl, Nat.zero_le, Nat.zero_add, Nat.add_zero, Nat.mul_one, splice_zero, Int.toNat_natCast, Int.natCast_nonneg, Int.reduceLE, Int.reduceLT, Int.reduceToNat, Int.reduceEq, Int.cast_ofNat_Int, ne_eq, not_true_eq_false, not_false_eq_true, imp_self, implies_true, true_implies, false_implies, and_self, List.length_map, List.length_drop]
  refine aNew_intro fun c hc _ => ?_
  simp only [go_sem, r_block, Msg.one, Msg.len, reduceIte, Nat.reduceEqDiff, Nat.reduceAdd, Nat.reduceMul, Nat.reduceSub, Nat.reduceLT, Nat.reduceLeDiff, Nat.le_refl, Nat.zero_le, Nat.zero_add, Nat.add_zero, Nat.mul_one, splice_zero, Int.toNat_natCast, Int.natCast_nonneg, Int.reduceLE, Int.reduceLT, Int.reduceToNat, Int.reduceEq, Int.cast_ofNat_Int, ne_eq, not_true_eq_false, not_false_eq_true, imp_self, implies_true, true_implies, false_implies, and_self, List.length_map, List.length_drop]
  exact aRet_view (r := int (s.take k).1.2) rfl _ (σ.set p (s.take k).2.O) (view_drop (set_sub hc fun _ _ h => h)) ⟨rfl, rfl⟩

theorem clone_at (h : σ p = some s.O) (ho : s.Ok) : AT Try.prog 24 [ptr p] σ fun r σ' => ∃ q, σ q = none ∧ r = ptr q ∧ σ' = σ.set q s.O := by
  refine AT.of_body Try.func24 rfl (by decide) (by kernel_rfl) (by kernel_rfl) (Nat.le_of_ble_eq_true rfl) ?_
  simp only [go_sem, r_block, reduceIte, Nat.reduceEqDiff, Nat.reduceAdd, Nat.reduceMul, Nat.reduceSub, Nat.reduceLT, Nat.reduceLeDiff, Nat.le_refl, Nat.zero_le, Nat.zero_add, Nat.add_zero, Nat.mul_one, splice_zero, Int.toNat_natCast, Int.natCast_nonneg, Int.reduceLE, Int.reduceLT, Int.reduceToNat, Int.reduceEq, Int.cast_ofNat_Int, ne_eq, not_true_eq_false, not_false_eq_true, imp_self, implies_true, true_implies, false_implies, and_self, List.length_map, List.length_drop]
  refine (none_at h).mono ?_
  rintro _ σ ⟨rfl, rfl⟩
  have h' := h
  unfold Ns.O nO at h'
  simp only [go_sem, r_block, reduceIte, Nat.reduceEqDiff, Nat.reduceAdd, Nat.reduceMul, Nat.reduceSub, Nat.reduceLT, Nat.reduceLeDiff, Nat.le_refl, Nat.zero_le, Nat.zero_add, Nat.add_zero, Nat.mul_one, splice_zero, Int.toNat_natCast, Int.natCast_nonneg, Int.reduceLE, Int.reduceLT, Int.reduceToNat, Int.reduceEq, Int.cast_ofNat_Int, ne_eq, not_true_eq_false, not_false_eq_true, imp_self, implies_true, true_implies, false_implies, and_self, List.length_map, List.length_drop]
  refine aDraw_plan [.rd 0 false, .rd 1 false, .rd 2 false, .rd 3 true, .rd 5 false, .rd 6 false, .rd 7 false, .rd 8 true, .ef 4 [8], .rd 9 false, .ef 10 [], .rd 11 false] (by kernel_rfl) (by kernel_rfl) (by kernel_rfl) ?_
  simp only [go_sem, r_block, h', reduceIte, Nat.reduceEqDiff, Nat.reduceAdd, Nat.reduceMul, Nat.reduceSub, Nat.reduceLT, Nat.reduceLeDiff, Nat.le_refl, Nat.zero_le, Nat.zero_add, Nat.add_zero, Nat.mul_one, splice_zero, Int.toNat_natCast, Int.natCast_nonneg, Int.reduceLE, Int.reduceLT, Int.reduceToNat, Int.reduceEq, Int.cast_ofNat_Int, ne_eq, not_true_eq_false, not_false_eq_true, imp_self, implies_true, true_implies, false_implies, and_self, List.length_map, List.length_drop]
  refine (mclone_sl (by have := ho.ln; simp; omega)).mono ?_
  rintro _ σ ⟨rfl, rfl⟩
  simp only [go_sem, r_block, h', reduceIte, Nat.reduceEqDiff, Nat.reduceAdd, Nat.reduceMul, Nat.reduceSub, Nat.reduceLT, Nat.reduceLeDiff, Nat.le_refl, Nat.zero_le, Nat.zero_add, Nat.add_zero, Nat.mul_one, splice_zero, Int.toNat_natCast, Int.natCast_nonneg, Int.reduceLE, Int.reduceLT, Int.reduceToNat, Int.reduceEq, Int.cast_ofNat_Int, ne_eq, not_true_eq_false, not_false_eq_true, imp_self, implies_true, true_implies, false_implies, and_self, List.length_map, List.length_drop]
  refine aNew_intro fun q hq _ => ?_
  simp only [go_sem, r_block, reduceIte, Nat.reduceEqDiff, Nat.reduceAdd, Nat.reduceMul, Nat.reduceSub, Nat.reduceLT, Nat.reduceLeDiff, Nat.le_refl, Nat.zero_le, Nat.zero_add, Nat.add_zero, Nat.mul_one, splice_zero, Int.toNat_natCast, Int.natCast_nonneg, Int.reduceLE, Int.reduceLT, Int.reduceToNat, Int.reduceEq, Int.cast_ofNat_Int, ne_eq, not_true_eq_false, not_false_eq_true, imp_self, implies_true, true_implies, false_implies, and_self, List.length_map, List.length_drop]
  exact aRet_as (r := ptr q) rfl ⟨q, hq, rfl, rfl⟩
end
end Go.Proofs.Ytebmjajdkhhhbaa
