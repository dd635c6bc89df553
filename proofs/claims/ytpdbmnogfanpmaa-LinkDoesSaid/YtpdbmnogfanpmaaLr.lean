/-
  LinkDoes: the walk.
  Conditions: none.
-/
import Derived.Test.YtpdbmnogfanpmaaLq
set_option linter.unusedVariables false
set_option linter.unusedSimpArgs false
namespace Go.Proofs.Ytpdbmnogfanpmaa
open Go Go.Av

structure Bo (σ : St) (b m : Nat) (s : Ls) (r : Nat) (R : Rs) (i : Nat) : Prop where
  lk : LAt' σ b m s
  rf : RAt σ r R
  sp : ∀ y, y = b ∨ y = m → ¬ R.foot r y
  al : Alike i s R

theorem aC_item (a : Actn) : ((aC a).drop 3).take 38 = a.2.it.cs := a.2.it.take
theorem aC_frm (a : Actn) : ((aC a).drop 1).take 40 = a.2.cs := a.2.take
theorem zl3_drop : (zl3.map AV.v).drop 41 = [] := rfl
section
variable {σ σ' : St} {b m r i : Nat} {s : Ls} {R R' : Rs}
set_option maxRecDepth 100000
set_option maxHeartbeats 1000000

theorem Bo.new (h : Bo σ b m s r R i) {c : Nat} {o : AObj} (hc : σ c = none) : Bo (σ.set c o) b m s r R i :=
  ⟨h.lk.keep fun x p hx _ => set_sub hc (fun _ _ h => h) x p hx, h.rf.keep fun x p hx _ => set_sub hc (fun _ _ h => h) x p hx, h.sp, h.al⟩
/-- The end takes a step, then the document's. -/
theorem Bo.link (h : Bo σ b m s r R i) (s' : Ls) : LAt' ((σ.set b (lO s' m)).set m (.map (erC s'.early))) b m s' ∧ RAt ((σ.set b (lO s' m)).set m (.map (erC s'.early))) r R :=
  ⟨h.lk.set2, h.rf.keep fun x o hx hf => by
    rw [set_ne (fun e => h.sp x (.inr e) hf), set_ne (fun e => h.sp x (.inl e) hf)]
    exact hx⟩
theorem Bo.link1 (h : Bo σ b m s r R i) {s' : Ls} (he : s'.early = s.early) : LAt' (σ.set b (lO s' m)) b m s' ∧ RAt (σ.set b (lO s' m)) r R :=
  ⟨h.lk.set he, h.rf.keep fun x o hx hf => by
    rw [set_ne (fun e => h.sp x (.inl e) hf)]
    exact hx⟩
theorem Bo.ref {σ1 : St} {i' : Nat} {s' : Ls} (sp : ∀ y, y = b ∨ y = m → ¬ R.foot r y) (h1 : LAt' σ1 b m s') (hr : RAt σ' r R') (hf : Fro σ1 σ' r R R') (al : Alike i' s' R') : Bo σ' b m s' r R' i' :=
  ⟨h1.keep fun x o hx hq => (hf x o hx (sp x hq)).1, hr, fun y hy => by
    rcases hy with rfl | rfl
    · exact (hf _ _ h1.ob (sp _ (.inl rfl))).2
    · exact (hf _ _ h1.er (sp _ (.inr rfl))).2, al⟩

theorem RAt.off1 (h : RAt σ r R) (sp : ∀ y, y = b ∨ y = m → ¬ R.foot r y) {o : AObj} : RAt (σ.set b o) r R := h.keep fun x p hx hf => by rw [set_ne (fun e => sp x (.inl e) hf)]; exact hx
theorem RAt.off2 (h : RAt σ r R) (sp : ∀ y, y = b ∨ y = m → ¬ R.foot r y) {o o' : AObj} : RAt ((σ.set b o).set m o') r R := h.keep fun x p hx hf => by rw [set_ne (fun e => sp x (.inr e) hf), set_ne (fun e => sp x (.inl e) hf)]; exact hx
theorem hear_wait (s : Ls) (f : Frm) (h : f.ack = 0) (hg : 0 ≤ s.gone) : (s.hear f).2.wait = s.wait ∧ (s.hear f).2.gone = s.gone := by
  have : s.ackd f.ack = s := by unfold Ls.ackd; rw [if_neg (by omega)]
  unfold Ls.hear
  split
  · exact ⟨rfl, rfl⟩
  · split
    · exact ⟨rfl, rfl⟩
    · split
      · rw [this]; exact ⟨rfl, rfl⟩
      · simp only [this, and_self]
theorem push_wait (s : Ls) (x : Itm) : ((s.push x).2.wait = s.wait ∨ (s.push x).2.wait = s.wait ++ [x]) ∧ (s.push x).2.gone = s.gone ∧ (s.push x).2.early = s.early := by
  unfold Ls.push
  split
  · split
    · exact ⟨.inl rfl, rfl, rfl⟩
    · exact ⟨.inr rfl, rfl, rfl⟩
  · exact ⟨.inl rfl, rfl, rfl⟩

theorem does_at (l : List Actn) (hx : ∀ a ∈ l, a.2.Ok) (hn : l.length ≤ 4398046510976) : AT Try.prog 7 [.sl 41 (l.map aC)] (fun _ => none) fun v _ => v = boo true := by
  refine AT.of_body Try.func7 rfl (by decide) (by kernel_rfl) (by kernel_rfl) (Nat.le_of_ble_eq_true rfl) ?_
  simp only [go_sem, reduceIte, Nat.reduceEqDiff, Nat.reduceAdd, Nat.reduceMul, Nat.reduceSub, Nat.reduceLT, Nat.reduceLeDiff, Nat.le_refl, Nat.zero_le, Nat.zero_add, Nat.add_zero, Nat.mul_one, splice_zero, Int.toNat_natCast, Int.natCast_nonneg, Int.reduceLE, Int.reduceLT, Int.reduceToNat, Int.reduceEq, Int.cast_ofNat_Int, ne_eq, not_true_eq_false, not_false_eq_true, imp_self, implies_true, true_implies, false_implies, and_self, List.length_map, List.length_drop]
  refine (light_at l (fun a ha => (hx a ha).ar) hn).mono ?_
  rintro _ _ ⟨⟨lt, rfl, hlt⟩, rfl⟩
  simp only [go_sem, reduceIte, Nat.reduceEqDiff, Nat.reduceAdd, Nat.reduceMul, Nat.reduceSub, Nat.reduceLT, Nat.reduceLeDiff, Nat.le_refl, Nat.zero_le, Nat.zero_add, Nat.add_zero, Nat.mul_one, splice_zero, Int.toNat_natCast, Int.natCast_nonneg, Int.reduceLE, Int.reduceLT, Int.reduceToNat, Int.reduceEq, Int.cast_ofNat_Int, ne_eq, not_true_eq_false, not_false_eq_true, imp_self, implies_true, true_implies, false_implies, and_self, List.length_map, List.length_drop]
  refine aIf_bool (fun ho => ?_) (fun ho => ?_)
  rotate_left
  · simp only [go_sem, reduceIte, Nat.reduceEqDiff, Nat.reduceAdd, Nat.reduceMul, Nat.reduceSub, Nat.reduceLT, Nat.reduceLeDiff, Nat.le_refl, Nat.zero_le, Nat.zero_add, Nat.add_zero, Nat.mul_one, splice_zero, Int.toNat_natCast, Int.natCast_nonneg, Int.reduceLE, Int.reduceLT, Int.reduceToNat, Int.reduceEq, Int.cast_ofNat_Int, ne_eq, not_true_eq_false, not_false_eq_true, imp_self, implies_true, true_implies, false_implies, and_self, List.length_map, List.length_drop]
    refine live_at.mono ?_
    rintro _ _ ⟨rfl, rfl⟩
    simp only [go_sem, reduceIte, Nat.reduceEqDiff, Nat.reduceAdd, Nat.reduceMul, Nat.reduceSub, Nat.reduceLT, Nat.reduceLeDiff, Nat.le_refl, Nat.zero_le, Nat.zero_add, Nat.add_zero, Nat.mul_one, splice_zero, Int.toNat_natCast, Int.natCast_nonneg, Int.reduceLE, Int.reduceLT, Int.reduceToNat, Int.reduceEq, Int.cast_ofNat_Int, ne_eq, not_true_eq_false, not_false_eq_true, imp_self, implies_true, true_implies, false_implies, and_self, List.length_map, List.length_drop]
    exact aRet_as (r := boo true) rfl rfl
  have hl200 : l.length < 200 := hlt ho
  simp only [go_sem, reduceIte, Nat.reduceEqDiff, Nat.reduceAdd, Nat.reduceMul, Nat.reduceSub, Nat.reduceLT, Nat.reduceLeDiff, Nat.le_refl, Nat.zero_le, Nat.zero_add, Nat.add_zero, Nat.mul_one, splice_zero, Int.toNat_natCast, Int.natCast_nonneg, Int.reduceLE, Int.reduceLT, Int.reduceToNat, Int.reduceEq, Int.cast_ofNat_Int, ne_eq, not_true_eq_false, not_false_eq_true, imp_self, implies_true, true_implies, false_implies, and_self, List.length_map, List.length_drop]
  refine new_at.mono ?_
  rintro _ σ0 ⟨b0, m0, hb0, hm0, hne0, rfl, hσ0⟩
  have hlk0 : LAt' σ0 b0 m0 ls0 := by
    rw [hσ0]
    exact ⟨set_same, by rw [set_ne hne0.symm, set_same]; rfl⟩
  clear hσ0 hb0 hm0 hne0
  simp only [go_sem, reduceIte, Nat.reduceEqDiff, Nat.reduceAdd, Nat.reduceMul, Nat.reduceSub, Nat.reduceLT, Nat.reduceLeDiff, Nat.le_refl, Nat.zero_le, Nat.zero_add, Nat.add_zero, Nat.mul_one, splice_zero, Int.toNat_natCast, Int.natCast_nonneg, Int.reduceLE, Int.reduceLT, Int.reduceToNat, Int.reduceEq, Int.cast_ofNat_Int, ne_eq, not_true_eq_false, not_false_eq_true, imp_self, implies_true, true_implies, false_implies, and_self, List.length_map, List.length_drop]
  refine aNew_intro fun r0 hr0 _ => ?_
  have hB0 : Bo (σ0.set r0 (.cells (rC ⟨[], 0, 0, [], false, .v (.slice none 0 0), .v (.slice none 0 0)⟩))) b0 m0 ls0 r0 ⟨[], 0, 0, [], false, .v (.slice none 0 0), .v (.slice none 0 0)⟩ 0 :=
    ⟨hlk0.keep fun x p hx _ => set_sub hr0 (fun _ _ h => h) x p hx, ⟨set_same, .none, .none⟩, (fun y hy hf => by
      have : ∃ o, σ0 y = some o := by
        rcases hy with rfl | rfl
        · exact ⟨_, hlk0.ob⟩
        · exact ⟨_, hlk0.er⟩
      obtain ⟨o, ho⟩ := this
      rcases hf with rfl | hf | hf
      · rw [hr0] at ho; cases ho
      · obtain ⟨n, c, e⟩ := hf; cases e
      · obtain ⟨n, c, e⟩ := hf; cases e), ⟨rfl, rfl, rfl, rfl, ⟨fun k => rfl, trivial, trivial⟩, Nat.le_refl _, Nat.le_refl _, Int.le_refl _, Int.le_refl _, Int.le_refl _, (fun x hx => by cases hx), fun x hx => by cases hx⟩⟩
  rw [show (AObj.cells (rC ⟨[], 0, 0, [], false, .v (.slice none 0 0), .v (.slice none 0 0)⟩)) = .cells [.v (.slice none 0 0), int 0, int 0, .v (.slice none 0 0), boo false] from rfl] at hB0
  revert hB0
  generalize σ0.set r0 (.cells [.v (.slice none 0 0), int 0, int 0, .v (.slice none 0 0), boo false]) = σ1
  intro hB0
  simp only [go_sem, reduceIte, Nat.reduceEqDiff, Nat.reduceAdd, Nat.reduceMul, Nat.reduceSub, Nat.reduceLT, Nat.reduceLeDiff, Nat.le_refl, Nat.zero_le, Nat.zero_add, Nat.add_zero, Nat.mul_one, splice_zero, Int.toNat_natCast, Int.natCast_nonneg, Int.reduceLE, Int.reduceLT, Int.reduceToNat, Int.reduceEq, Int.cast_ofNat_Int, ne_eq, not_true_eq_false, not_false_eq_true, imp_self, implies_true, true_implies, false_implies, and_self, List.length_map, List.length_drop]
  refine aMeet (fun fr σ' => True) ?_ ?_
  · simp only [go_sem, r_block, reduceIte, Nat.reduceEqDiff, Nat.reduceAdd, Nat.reduceMul, Nat.reduceSub, Nat.reduceLT, Nat.reduceLeDiff, Nat.le_refl, Nat.zero_le, Nat.zero_add, Nat.add_zero, Nat.mul_one, splice_zero, Int.toNat_natCast, Int.natCast_nonneg, Int.reduceLE, Int.reduceLT, Int.reduceToNat, Int.reduceEq, Int.cast_ofNat_Int, ne_eq, not_true_eq_false, not_false_eq_true, imp_self, implies_true, true_implies, false_implies, and_self, List.length_map, List.length_drop]
    refine ⟨fun k fr σ' => ∃ (i b m : Nat) (s : Ls) (R : Rs), k = l.length - i ∧ i ≤ l.length ∧ fr 0 = .sl 41 (l.map aC) ∧ fr 3 = ptr b ∧ fr 4 = ptr r0 ∧ fr 5 = int i ∧ Bo σ' b m s r0 R i, ⟨_, 0, b0, m0, _, _, rfl, by omega, rfl, rfl, rfl, rfl, hB0⟩, ?_⟩
    clear hB0 hlk0 hr0
    rintro k fr σ ⟨i, b, m, s, R, rfl, hi, f0, f3, f4, f5, hB⟩
    simp only [go_sem, f0, f3, f4, f5, reduceIte, Nat.reduceEqDiff, Nat.reduceAdd, Nat.reduceMul, Nat.reduceSub, Nat.reduceLT, Nat.reduceLeDiff, Nat.le_refl, Nat.zero_le, Nat.zero_add, Nat.add_zero, Nat.mul_one, splice_zero, Int.toNat_natCast, Int.natCast_nonneg, Int.reduceLE, Int.reduceLT, Int.reduceToNat, Int.reduceEq, Int.cast_ofNat_Int, ne_eq, not_true_eq_false, not_false_eq_true, imp_self, implies_true, true_implies, false_implies, and_self, List.length_map, List.length_drop]
    refine aIf_by (fun k1 => ?_) (fun k1 => ?_)
    · have hil : i < l.length := by omega
      have eg : (l.map aC).getD i [] = aC l[i] := by simp [List.getD_eq_getElem?_getD, hil]
      have hok := hx l[i] (List.getElem_mem _)
      generalize l[i] = a at eg hok
      simp only [go_sem, f0, f3, f4, f5, reduceIte, Nat.reduceEqDiff, Nat.reduceAdd, Nat.reduceMul, Nat.reduceSub, Nat.reduceLT, Nat.reduceLeDiff, Nat.le_refl, Nat.zero_le, Nat.zero_add, Nat.add_zero, Nat.mul_one, splice_zero, Int.toNat_natCast, Int.natCast_nonneg, Int.reduceLE, Int.reduceLT, Int.reduceToNat, Int.reduceEq, Int.cast_ofNat_Int, ne_eq, not_true_eq_false, not_false_eq_true, imp_self, implies_true, true_implies, false_implies, and_self, List.length_map, List.length_drop]
      rw [r_block]
      simp only [go_sem, f0, f3, f4, f5, eg, aC_len, aC_take, reduceIte, Nat.reduceEqDiff, Nat.reduceAdd, Nat.reduceMul, Nat.reduceSub, Nat.reduceLT, Nat.reduceLeDiff, Nat.le_refl, Nat.zero_le, Nat.zero_add, Nat.add_zero, Nat.mul_one, splice_zero, Int.toNat_natCast, Int.natCast_nonneg, Int.reduceLE, Int.reduceLT, Int.reduceToNat, Int.reduceEq, Int.cast_ofNat_Int, ne_eq, not_true_eq_false, not_false_eq_true, imp_self, implies_true, true_implies, false_implies, and_self, List.length_map, List.length_drop]
      refine ⟨by omega, aNew_intro fun c hc hcm => ?_⟩
      simp only [go_sem, f0, f3, f4, f5, eg, aC_len, aC_take, aC_one, set_same, zl3_drop, aC_at0, reduceIte, Nat.reduceEqDiff, Nat.reduceAdd, Nat.reduceMul, Nat.reduceSub, Nat.reduceLT, Nat.reduceLeDiff, Nat.le_refl, Nat.zero_le, Nat.zero_add, Nat.add_zero, Nat.mul_one, splice_zero, Int.toNat_natCast, Int.natCast_nonneg, Int.reduceLE, Int.reduceLT, Int.reduceToNat, Int.reduceEq, Int.cast_ofNat_Int, ne_eq, not_true_eq_false, not_false_eq_true, imp_self, implies_true, true_implies, false_implies, and_self, List.length_map, List.length_drop]
      have hB1 := hB.new (o := .cells (aC a)) hc
      have hc1 : (σ.set c (.cells (aC a))) c = some (.cells (aC a)) := set_same
      have hcb : b ≠ c := hcm _ _ hB.lk.ob
      have hcm' : m ≠ c := hcm _ _ hB.lk.er
      have hcf : ¬ R.foot r0 c := fun hf => by obtain ⟨o, ho⟩ := hB.rf.some hf; rw [hc] at ho; cases ho
      clear hcm
      revert hB1 hc1
      generalize σ.set c (.cells (aC a)) = σ2
      intro hB1 hc1
      clear hB hc
      have hal := hB1.al
      have hi200 : i < 200 := by omega
      have hai := hal.ln
      have hac := hal.c1
      have hacs := hal.c2
      have hgl := hal.gl
      have hg := hal.g
      have hcm2 := hal.cm
      have hc0 := hal.c0
      have hwl := hal.wl
      refine aMeet (fun fr σ' => ∃ (b m : Nat) (s : Ls) (R : Rs), fr 0 = .sl 41 (l.map aC) ∧ fr 3 = ptr b ∧ fr 4 = ptr r0 ∧ fr 5 = int i ∧ fr 7 = boo true ∧ Bo σ' b m s r0 R (i + 1)) ?_ ?_
      · simp only [go_sem, r_block, reduceIte, Nat.reduceEqDiff, Nat.reduceAdd, Nat.reduceMul, Nat.reduceSub, Nat.reduceLT, Nat.reduceLeDiff, Nat.le_refl, Nat.zero_le, Nat.zero_add, Nat.add_zero, Nat.mul_one, splice_zero, Int.toNat_natCast, Int.natCast_nonneg, Int.reduceLE, Int.reduceLT, Int.reduceToNat, Int.reduceEq, Int.cast_ofNat_Int, ne_eq, not_true_eq_false, not_false_eq_true, imp_self, implies_true, true_implies, false_implies, and_self, List.length_map, List.length_drop]
        refine aIf_by (fun e0 => ?_) (fun e0 => ?_)
        · simp only [go_sem, r_block, reduceIte, Nat.reduceEqDiff, Nat.reduceAdd, Nat.reduceMul, Nat.reduceSub, Nat.reduceLT, Nat.reduceLeDiff, Nat.le_refl, Nat.zero_le, Nat.zero_add, Nat.add_zero, Nat.mul_one, splice_zero, Int.toNat_natCast, Int.natCast_nonneg, Int.reduceLE, Int.reduceLT, Int.reduceToNat, Int.reduceEq, Int.cast_ofNat_Int, ne_eq, not_true_eq_false, not_false_eq_true, imp_self, implies_true, true_implies, false_implies, and_self, List.length_map, List.length_drop]
          refine aDraw_plan [.rd 0 false, .rd 1 false, .rd 2 false, .rd 3 true, .rd 5 false, .rd 6 false, .rd 7 false, .rd 8 true, .ef 4 [8], .ef 9 [], .rd 10 false, .rd 11 false] (by kernel_rfl) (by kernel_rfl) (by kernel_rfl) ?_
          simp only [go_sem, r_block, f0, f3, f4, f5, hc1, aC_len, aC_item, reduceIte, Nat.reduceEqDiff, Nat.reduceAdd, Nat.reduceMul, Nat.reduceSub, Nat.reduceLT, Nat.reduceLeDiff, Nat.le_refl, Nat.zero_le, Nat.zero_add, Nat.add_zero, Nat.mul_one, splice_zero, Int.toNat_natCast, Int.natCast_nonneg, Int.reduceLE, Int.reduceLT, Int.reduceToNat, Int.reduceEq, Int.cast_ofNat_Int, ne_eq, not_true_eq_false, not_false_eq_true, imp_self, implies_true, true_implies, false_implies, and_self, List.length_map, List.length_drop]
          refine (push_at hB1.lk.ob a.2.it hok.ar (by omega)).mono ?_
          rintro _ σ3 ⟨rfl, rfl⟩
          have hl3 := hB1.link1 (s' := (s.push a.2.it).2) (by unfold Ls.push; split <;> (try split) <;> rfl)
          have hc3 : (σ2.set b (lO (s.push a.2.it).2 m)) c = some (.cells (aC a)) := by rw [set_ne hcb.symm]; exact hc1
          revert hl3 hc3
          generalize σ2.set b (lO (s.push a.2.it).2 m) = σ3
          intro hl3 hc3
          simp only [go_sem, r_block, f0, f3, f4, f5, hc3, aC_len, aC_item, reduceIte, Nat.reduceEqDiff, Nat.reduceAdd, Nat.reduceMul, Nat.reduceSub, Nat.reduceLT, Nat.reduceLeDiff, Nat.le_refl, Nat.zero_le, Nat.zero_add, Nat.add_zero, Nat.mul_one, splice_zero, Int.toNat_natCast, Int.natCast_nonneg, Int.reduceLE, Int.reduceLT, Int.reduceToNat, Int.reduceEq, Int.cast_ofNat_Int, ne_eq, not_true_eq_false, not_false_eq_true, imp_self, implies_true, true_implies, false_implies, and_self, List.length_map, List.length_drop]
          refine (rpush_at hl3.2 a.2.it (by omega) hgl).mono ?_
          rintro _ σ4 ⟨rfl, lv, hr, hF⟩
          obtain ⟨q1, q2⟩ := hal.push (x := a.2.it) hok.ar lv
          have hBn := Bo.ref hB1.sp hl3.1 hr hF q2
          simp only [go_sem, r_block, f0, f3, f4, f5, q1, reduceIte, Nat.reduceEqDiff, Nat.reduceAdd, Nat.reduceMul, Nat.reduceSub, Nat.reduceLT, Nat.reduceLeDiff, Nat.le_refl, Nat.zero_le, Nat.zero_add, Nat.add_zero, Nat.mul_one, splice_zero, Int.toNat_natCast, Int.natCast_nonneg, Int.reduceLE, Int.reduceLT, Int.reduceToNat, Int.reduceEq, Int.cast_ofNat_Int, ne_eq, not_true_eq_false, not_false_eq_true, imp_self, implies_true, true_implies, false_implies, and_self, List.length_map, List.length_drop]
          exact ⟨b, m, _, _, rfl, hBn⟩
        simp only [go_sem, r_block, reduceIte, Nat.reduceEqDiff, Nat.reduceAdd, Nat.reduceMul, Nat.reduceSub, Nat.reduceLT, Nat.reduceLeDiff, Nat.le_refl, Nat.zero_le, Nat.zero_add, Nat.add_zero, Nat.mul_one, splice_zero, Int.toNat_natCast, Int.natCast_nonneg, Int.reduceLE, Int.reduceLT, Int.reduceToNat, Int.reduceEq, Int.cast_ofNat_Int, ne_eq, not_true_eq_false, not_false_eq_true, imp_self, implies_true, true_implies, false_implies, and_self, List.length_map, List.length_drop]
        refine aIf_by (fun e1 => ?_) (fun e1 => ?_)
        · simp only [go_sem, r_block, f0, f3, f4, f5, reduceIte, Nat.reduceEqDiff, Nat.reduceAdd, Nat.reduceMul, Nat.reduceSub, Nat.reduceLT, Nat.reduceLeDiff, Nat.le_refl, Nat.zero_le, Nat.zero_add, Nat.add_zero, Nat.mul_one, splice_zero, Int.toNat_natCast, Int.natCast_nonneg, Int.reduceLE, Int.reduceLT, Int.reduceToNat, Int.reduceEq, Int.cast_ofNat_Int, ne_eq, not_true_eq_false, not_false_eq_true, imp_self, implies_true, true_implies, false_implies, and_self, List.length_map, List.length_drop]
          refine (tick_at hB1.lk.ob hal.aw (by omega) (by omega)).mono ?_
          rintro _ σ3 ⟨rfl, rfl⟩
          have hl3 := hB1.link1 (s' := s.tick.2) rfl
          revert hl3
          generalize σ2.set b (lO s.tick.2 m) = σ3
          intro hl3
          simp only [go_sem, r_block, f0, f3, f4, f5, reduceIte, Nat.reduceEqDiff, Nat.reduceAdd, Nat.reduceMul, Nat.reduceSub, Nat.reduceLT, Nat.reduceLeDiff, Nat.le_refl, Nat.zero_le, Nat.zero_add, Nat.add_zero, Nat.mul_one, splice_zero, Int.toNat_natCast, Int.natCast_nonneg, Int.reduceLE, Int.reduceLT, Int.reduceToNat, Int.reduceEq, Int.cast_ofNat_Int, ne_eq, not_true_eq_false, not_false_eq_true, imp_self, implies_true, true_implies, false_implies, and_self, List.length_map, List.length_drop]
          refine (rtick_at hl3.2 (by omega) hgl).mono ?_
          rintro _ σ4 ⟨rfl, hr, hF⟩
          obtain ⟨q1, q2⟩ := hal.tick
          have hBn := Bo.ref hB1.sp hl3.1 hr hF q2
          simp only [go_sem, r_block, f0, f3, f4, f5, reduceIte, Nat.reduceEqDiff, Nat.reduceAdd, Nat.reduceMul, Nat.reduceSub, Nat.reduceLT, Nat.reduceLeDiff, Nat.le_refl, Nat.zero_le, Nat.zero_add, Nat.add_zero, Nat.mul_one, splice_zero, Int.toNat_natCast, Int.natCast_nonneg, Int.reduceLE, Int.reduceLT, Int.reduceToNat, Int.reduceEq, Int.cast_ofNat_Int, ne_eq, not_true_eq_false, not_false_eq_true, imp_self, implies_true, true_implies, false_implies, and_self, List.length_map, List.length_drop]
          rw [← q1]
          refine (frames_at s.tick.1 hal.ticked (by have := hal.tlen; omega)).mono ?_
          rintro _ σ4 ⟨rfl, rfl⟩
          simp only [go_sem, r_block, f0, f3, f4, f5, reduceIte, Nat.reduceEqDiff, Nat.reduceAdd, Nat.reduceMul, Nat.reduceSub, Nat.reduceLT, Nat.reduceLeDiff, Nat.le_refl, Nat.zero_le, Nat.zero_add, Nat.add_zero, Nat.mul_one, splice_zero, Int.toNat_natCast, Int.natCast_nonneg, Int.reduceLE, Int.reduceLT, Int.reduceToNat, Int.reduceEq, Int.cast_ofNat_Int, ne_eq, not_true_eq_false, not_false_eq_true, imp_self, implies_true, true_implies, false_implies, and_self, List.length_map, List.length_drop]
          exact ⟨b, m, _, _, rfl, hBn⟩
        simp only [go_sem, r_block, reduceIte, Nat.reduceEqDiff, Nat.reduceAdd, Nat.reduceMul, Nat.reduceSub, Nat.reduceLT, Nat.reduceLeDiff, Nat.le_refl, Nat.zero_le, Nat.zero_add, Nat.add_zero, Nat.mul_one, splice_zero, Int.toNat_natCast, Int.natCast_nonneg, Int.reduceLE, Int.reduceLT, Int.reduceToNat, Int.reduceEq, Int.cast_ofNat_Int, ne_eq, not_true_eq_false, not_false_eq_true, imp_self, implies_true, true_implies, false_implies, and_self, List.length_map, List.length_drop]
        refine aIf_by (fun e2 => ?_) (fun e2 => ?_)
        · simp only [go_sem, r_block, f0, f3, f4, f5, hc1, aC_len, aC_frm, reduceIte, Nat.reduceEqDiff, Nat.reduceAdd, Nat.reduceMul, Nat.reduceSub, Nat.reduceLT, Nat.reduceLeDiff, Nat.le_refl, Nat.zero_le, Nat.zero_add, Nat.add_zero, Nat.mul_one, splice_zero, Int.toNat_natCast, Int.natCast_nonneg, Int.reduceLE, Int.reduceLT, Int.reduceToNat, Int.reduceEq, Int.cast_ofNat_Int, ne_eq, not_true_eq_false, not_false_eq_true, imp_self, implies_true, true_implies, false_implies, and_self, List.length_map, List.length_drop]
          refine (hear_at hB1.lk a.2 hok.s2 hok.ar (by omega) (by omega) (by omega) (by omega)).mono ?_
          rintro _ σ3 ⟨rfl, rfl⟩
          have hl3 := hB1.link (s.hear a.2).2
          have hc3 : ((σ2.set b (lO (s.hear a.2).2 m)).set m (.map (erC (s.hear a.2).2.early))) c = some (.cells (aC a)) := by rw [set_ne hcm'.symm, set_ne hcb.symm]; exact hc1
          revert hl3 hc3
          generalize (σ2.set b (lO (s.hear a.2).2 m)).set m (.map (erC (s.hear a.2).2.early)) = σ3
          intro hl3 hc3
          simp only [go_sem, r_block, f0, f3, f4, f5, hc3, aC_len, aC_frm, reduceIte, Nat.reduceEqDiff, Nat.reduceAdd, Nat.reduceMul, Nat.reduceSub, Nat.reduceLT, Nat.reduceLeDiff, Nat.le_refl, Nat.zero_le, Nat.zero_add, Nat.add_zero, Nat.mul_one, splice_zero, Int.toNat_natCast, Int.natCast_nonneg, Int.reduceLE, Int.reduceLT, Int.reduceToNat, Int.reduceEq, Int.cast_ofNat_Int, ne_eq, not_true_eq_false, not_false_eq_true, imp_self, implies_true, true_implies, false_implies, and_self, List.length_map, List.length_drop]
          refine (rhear_at hl3.2 a.2 hok.s2 (by omega) (by omega) (by omega) hgl).mono ?_
          rintro _ σ4 ⟨rfl, kv, hr, hF⟩
          obtain ⟨q1, q2, q3, q4⟩ := hal.hear (f := a.2) hok.ar kv
          have hBn := Bo.ref hB1.sp hl3.1 hr hF q2
          simp only [go_sem, r_block, f0, f3, f4, f5, reduceIte, Nat.reduceEqDiff, Nat.reduceAdd, Nat.reduceMul, Nat.reduceSub, Nat.reduceLT, Nat.reduceLeDiff, Nat.le_refl, Nat.zero_le, Nat.zero_add, Nat.add_zero, Nat.mul_one, splice_zero, Int.toNat_natCast, Int.natCast_nonneg, Int.reduceLE, Int.reduceLT, Int.reduceToNat, Int.reduceEq, Int.cast_ofNat_Int, ne_eq, not_true_eq_false, not_false_eq_true, imp_self, implies_true, true_implies, false_implies, and_self, List.length_map, List.length_drop]
          rw [← q1]
          refine (items_at _ q3 (by omega)).mono ?_
          rintro _ σ4 ⟨rfl, rfl⟩
          simp only [go_sem, r_block, f0, f3, f4, f5, q1, reduceIte, Nat.reduceEqDiff, Nat.reduceAdd, Nat.reduceMul, Nat.reduceSub, Nat.reduceLT, Nat.reduceLeDiff, Nat.le_refl, Nat.zero_le, Nat.zero_add, Nat.add_zero, Nat.mul_one, splice_zero, Int.toNat_natCast, Int.natCast_nonneg, Int.reduceLE, Int.reduceLT, Int.reduceToNat, Int.reduceEq, Int.cast_ofNat_Int, ne_eq, not_true_eq_false, not_false_eq_true, imp_self, implies_true, true_implies, false_implies, and_self, List.length_map, List.length_drop]
          exact ⟨b, m, _, _, rfl, hBn⟩
        simp only [go_sem, r_block, reduceIte, Nat.reduceEqDiff, Nat.reduceAdd, Nat.reduceMul, Nat.reduceSub, Nat.reduceLT, Nat.reduceLeDiff, Nat.le_refl, Nat.zero_le, Nat.zero_add, Nat.add_zero, Nat.mul_one, splice_zero, Int.toNat_natCast, Int.natCast_nonneg, Int.reduceLE, Int.reduceLT, Int.reduceToNat, Int.reduceEq, Int.cast_ofNat_Int, ne_eq, not_true_eq_false, not_false_eq_true, imp_self, implies_true, true_implies, false_implies, and_self, List.length_map, List.length_drop]
        refine aIf_by (fun e3 => ?_) (fun e3 => ?_)
        · simp only [go_sem, r_block, f0, f3, f4, f5, reduceIte, Nat.reduceEqDiff, Nat.reduceAdd, Nat.reduceMul, Nat.reduceSub, Nat.reduceLT, Nat.reduceLeDiff, Nat.le_refl, Nat.zero_le, Nat.zero_add, Nat.add_zero, Nat.mul_one, splice_zero, Int.toNat_natCast, Int.natCast_nonneg, Int.reduceLE, Int.reduceLT, Int.reduceToNat, Int.reduceEq, Int.cast_ofNat_Int, ne_eq, not_true_eq_false, not_false_eq_true, imp_self, implies_true, true_implies, false_implies, and_self, List.length_map, List.length_drop]
          refine (clone_at hB1.lk).mono ?_
          rintro _ σ3 ⟨b', m', hb', hm', hne', rfl, rfl⟩
          have hs3 : ∀ x o, σ2 x = some o → ((σ2.set m' (.map (erC s.early))).set b' (lO s m')) x = some o := fun x o hx => by
            rw [set_ne (by rintro rfl; rw [hb'] at hx; cases hx), set_ne (by rintro rfl; rw [hm'] at hx; cases hx)]; exact hx
          have sp' : ∀ y, y = b' ∨ y = m' → ¬ R.foot r0 y := fun y hy hf => by
            obtain ⟨o, ho⟩ := hB1.rf.some hf
            rcases hy with rfl | rfl
            · rw [hb'] at ho; cases ho
            · rw [hm'] at ho; cases ho
          have hT : Two ((σ2.set m' (.map (erC s.early))).set b' (lO s m')) b m s b' m' s := ⟨hB1.lk.keep fun x o hx _ => hs3 x o hx, ⟨set_same, by rw [set_ne hne'.symm, set_same]⟩, (by rintro rfl; rw [hB1.lk.ob] at hb'; cases hb'), by rintro rfl; rw [hB1.lk.er] at hm'; cases hm'⟩
          have hR := hB1.rf.keep fun x o hx _ => hs3 x o hx
          clear hs3
          revert hT hR
          generalize (σ2.set m' (.map (erC s.early))).set b' (lO s m') = σ3
          intro hT hR
          simp only [go_sem, r_block, f0, f3, f4, f5, reduceIte, Nat.reduceEqDiff, Nat.reduceAdd, Nat.reduceMul, Nat.reduceSub, Nat.reduceLT, Nat.reduceLeDiff, Nat.le_refl, Nat.zero_le, Nat.zero_add, Nat.add_zero, Nat.mul_one, splice_zero, Int.toNat_natCast, Int.natCast_nonneg, Int.reduceLE, Int.reduceLT, Int.reduceToNat, Int.reduceEq, Int.cast_ofNat_Int, ne_eq, not_true_eq_false, not_false_eq_true, imp_self, implies_true, true_implies, false_implies, and_self, List.length_map, List.length_drop]
          refine (came_at hT.a.ob).mono ?_
          rintro _ σ3 ⟨rfl, rfl⟩
          simp only [go_sem, r_block, f0, f3, f4, f5, reduceIte, Nat.reduceEqDiff, Nat.reduceAdd, Nat.reduceMul, Nat.reduceSub, Nat.reduceLT, Nat.reduceLeDiff, Nat.le_refl, Nat.zero_le, Nat.zero_add, Nat.add_zero, Nat.mul_one, splice_zero, Int.toNat_natCast, Int.natCast_nonneg, Int.reduceLE, Int.reduceLT, Int.reduceToNat, Int.reduceEq, Int.cast_ofNat_Int, ne_eq, not_true_eq_false, not_false_eq_true, imp_self, implies_true, true_implies, false_implies, and_self, List.length_map, List.length_drop]
          rw [wrap64 (by omega)]
          refine (item_at 9).mono ?_
          rintro _ σ3 ⟨rfl, rfl⟩
          rw [show (Itm.cs ⟨4, 9, nost, nost, nost, [], List.replicate 32 0, rfl⟩) = (itm 9).cs from rfl]
          simp only [go_sem, r_block, f0, f3, f4, f5, (itm 9).len, (itm 9).one, zl2_drop, reduceIte, Nat.reduceEqDiff, Nat.reduceAdd, Nat.reduceMul, Nat.reduceSub, Nat.reduceLT, Nat.reduceLeDiff, Nat.le_refl, Nat.zero_le, Nat.zero_add, Nat.add_zero, Nat.mul_one, splice_zero, Int.toNat_natCast, Int.natCast_nonneg, Int.reduceLE, Int.reduceLT, Int.reduceToNat, Int.reduceEq, Int.cast_ofNat_Int, ne_eq, not_true_eq_false, not_false_eq_true, imp_self, implies_true, true_implies, false_implies, and_self, List.length_map, List.length_drop]
          rw [show (AV.v (Value.int IntKind.i64 (s.came + 1)) :: splice (List.drop 1 (List.map AV.v zl2)) 1 (itm 9).cs) = Frm.cs ⟨s.came + 1, 0, itm 9⟩ from rfl]
          refine (hear_at hT.a ⟨s.came + 1, 0, itm 9⟩ (by simp only []; omega) (Nat.zero_le _) (by omega) (by omega) (by omega) (by omega)).mono ?_
          rintro _ σ4 ⟨rfl, rfl⟩
          obtain ⟨w1, w2⟩ := hear_wait s ⟨s.came + 1, 0, itm 9⟩ rfl (by omega)
          have hT4 := hT.set2 (s' := (s.hear ⟨s.came + 1, 0, itm 9⟩).2)
          have hR4 := hR.off2 (o := lO (s.hear ⟨s.came + 1, 0, itm 9⟩).2 m) (o' := .map (erC (s.hear ⟨s.came + 1, 0, itm 9⟩).2.early)) hB1.sp
          clear hT hR
          revert hT4 hR4
          generalize (σ3.set b (lO (s.hear ⟨s.came + 1, 0, itm 9⟩).2 m)).set m (.map (erC (s.hear ⟨s.came + 1, 0, itm 9⟩).2.early)) = σ4
          generalize (s.hear ⟨s.came + 1, 0, itm 9⟩).2 = s2 at w1 w2
          intro hT4 hR4
          simp only [go_sem, r_block, f0, f3, f4, f5, reduceIte, Nat.reduceEqDiff, Nat.reduceAdd, Nat.reduceMul, Nat.reduceSub, Nat.reduceLT, Nat.reduceLeDiff, Nat.le_refl, Nat.zero_le, Nat.zero_add, Nat.add_zero, Nat.mul_one, splice_zero, Int.toNat_natCast, Int.natCast_nonneg, Int.reduceLE, Int.reduceLT, Int.reduceToNat, Int.reduceEq, Int.cast_ofNat_Int, ne_eq, not_true_eq_false, not_false_eq_true, imp_self, implies_true, true_implies, false_implies, and_self, List.length_map, List.length_drop]
          refine (item_at 9).mono ?_
          rintro _ σ4 ⟨rfl, rfl⟩
          rw [show (Itm.cs ⟨4, 9, nost, nost, nost, [], List.replicate 32 0, rfl⟩) = (itm 9).cs from rfl]
          simp only [go_sem, r_block, f0, f3, f4, f5, reduceIte, Nat.reduceEqDiff, Nat.reduceAdd, Nat.reduceMul, Nat.reduceSub, Nat.reduceLT, Nat.reduceLeDiff, Nat.le_refl, Nat.zero_le, Nat.zero_add, Nat.add_zero, Nat.mul_one, splice_zero, Int.toNat_natCast, Int.natCast_nonneg, Int.reduceLE, Int.reduceLT, Int.reduceToNat, Int.reduceEq, Int.cast_ofNat_Int, ne_eq, not_true_eq_false, not_false_eq_true, imp_self, implies_true, true_implies, false_implies, and_self, List.length_map, List.length_drop]
          refine (push_at hT4.a.ob (itm 9) (Nat.zero_le _) (by rw [w1]; omega)).mono ?_
          rintro _ σ5 ⟨rfl, rfl⟩
          obtain ⟨v1, v2, v3⟩ := push_wait s2 (itm 9)
          have hT5 := hT4.set1 (s' := (s2.push (itm 9)).2) v3
          have hR5 := hR4.off1 (o := lO (s2.push (itm 9)).2 m) hB1.sp
          clear hT4 hR4
          revert hT5 hR5
          generalize σ4.set b (lO (s2.push (itm 9)).2 m) = σ5
          generalize (s2.push (itm 9)).2 = s3 at v1 v2 v3
          intro hT5 hR5
          simp only [go_sem, r_block, f0, f3, f4, f5, reduceIte, Nat.reduceEqDiff, Nat.reduceAdd, Nat.reduceMul, Nat.reduceSub, Nat.reduceLT, Nat.reduceLeDiff, Nat.le_refl, Nat.zero_le, Nat.zero_add, Nat.add_zero, Nat.mul_one, splice_zero, Int.toNat_natCast, Int.natCast_nonneg, Int.reduceLE, Int.reduceLT, Int.reduceToNat, Int.reduceEq, Int.cast_ofNat_Int, ne_eq, not_true_eq_false, not_false_eq_true, imp_self, implies_true, true_implies, false_implies, and_self, List.length_map, List.length_drop]
          have v4 : s3.wait.length ≤ s.wait.length + 1 := by
            rcases v1 with v1 | v1
            · rw [v1, w1]; exact Nat.le_succ _
            · rw [v1, w1]; simp
          refine (tick_at hT5.a.ob (fun x hx => ?_) (by omega) (by omega)).mono ?_
          · rcases v1 with v1 | v1
            · rw [v1, w1] at hx; exact hal.aw x hx
            · rw [v1, w1] at hx
              rcases List.mem_append.1 hx with hx | hx
              · exact hal.aw x hx
              · simp at hx; subst hx; exact Nat.zero_le _
          rintro _ σ6 ⟨rfl, rfl⟩
          have hT6 := hT5.set1 (s' := s3.tick.2) rfl
          have hR6 := hR5.off1 (o := lO s3.tick.2 m) hB1.sp
          simp only [go_sem, r_block, f0, f3, f4, f5, reduceIte, Nat.reduceEqDiff, Nat.reduceAdd, Nat.reduceMul, Nat.reduceSub, Nat.reduceLT, Nat.reduceLeDiff, Nat.le_refl, Nat.zero_le, Nat.zero_add, Nat.add_zero, Nat.mul_one, splice_zero, Int.toNat_natCast, Int.natCast_nonneg, Int.reduceLE, Int.reduceLT, Int.reduceToNat, Int.reduceEq, Int.cast_ofNat_Int, ne_eq, not_true_eq_false, not_false_eq_true, imp_self, implies_true, true_implies, false_implies, and_self, List.length_map, List.length_drop]
          exact ⟨b', m', s, R, rfl, hT6.c, hR6, sp', hal.more⟩
        · simp only [go_sem, r_block, reduceIte, Nat.reduceEqDiff, Nat.reduceAdd, Nat.reduceMul, Nat.reduceSub, Nat.reduceLT, Nat.reduceLeDiff, Nat.le_refl, Nat.zero_le, Nat.zero_add, Nat.add_zero, Nat.mul_one, splice_zero, Int.toNat_natCast, Int.natCast_nonneg, Int.reduceLE, Int.reduceLT, Int.reduceToNat, Int.reduceEq, Int.cast_ofNat_Int, ne_eq, not_true_eq_false, not_false_eq_true, imp_self, implies_true, true_implies, false_implies, and_self, List.length_map, List.length_drop]
          exact ⟨b, m, s, R, f0, f3, f4, f5, hB1.lk, hB1.rf, hB1.sp, hal.more⟩
      rintro fr σ3 ⟨b, m, s, R, f0, f3, f4, f5, f7, hB⟩
      have hal := hB.al
      have hob := hB.lk.ob
      have hrb := hB.rf.ob
      unfold rC at hrb
      have hwl := hal.wl
      have hgl := hal.gl
      have hln := hal.ln
      have hg := hal.g
      have e1 : (s.wait.length : Int) = (R.L.length : Int) - R.gone := by omega
      simp only [go_sem, r_block, reduceIte, Nat.reduceEqDiff, Nat.reduceAdd, Nat.reduceMul, Nat.reduceSub, Nat.reduceLT, Nat.reduceLeDiff, Nat.le_refl, Nat.zero_le, Nat.zero_add, Nat.add_zero, Nat.mul_one, splice_zero, Int.toNat_natCast, Int.natCast_nonneg, Int.reduceLE, Int.reduceLT, Int.reduceToNat, Int.reduceEq, Int.cast_ofNat_Int, ne_eq, not_true_eq_false, not_false_eq_true, imp_self, implies_true, true_implies, false_implies, and_self, List.length_map, List.length_drop]
      refine aDraw_plan [.rd 0 false, .rd 1 false, .rd 2 false, .rd 3 false, .rd 5 false, .rd 6 false, .rd 7 false, .rd 8 true, .rd 9 false, .rd 10 false, .rd 11 false, .rd 12 false, .rd 13 true, .rd 14 false, .ef 4 [8, 13], .rd 15 false, .rd 16 false, .rd 17 false, .rd 18 false, .rd 20 false, .rd 21 false, .rd 22 false, .rd 23 true, .ef 19 [23], .rd 24 false, .rd 25 false, .rd 26 false, .rd 27 false, .rd 29 false, .rd 30 false, .rd 31 false, .rd 32 true, .rd 33 false, .ef 28 [32], .rd 34 false, .rd 35 false, .rd 36 false, .rd 37 false, .rd 39 false, .rd 40 false, .rd 41 false, .rd 42 true, .ef 38 [42], .rd 43 false, .rd 44 false] (by kernel_rfl) (by kernel_rfl) (by kernel_rfl) ?_
      simp only [go_sem, r_block, f0, f3, f4, f5, f7, hrb, hB.rf.l.len, reduceIte, Nat.reduceEqDiff, Nat.reduceAdd, Nat.reduceMul, Nat.reduceSub, Nat.reduceLT, Nat.reduceLeDiff, Nat.le_refl, Nat.zero_le, Nat.zero_add, Nat.add_zero, Nat.mul_one, splice_zero, Int.toNat_natCast, Int.natCast_nonneg, Int.reduceLE, Int.reduceLT, Int.reduceToNat, Int.reduceEq, Int.cast_ofNat_Int, ne_eq, not_true_eq_false, not_false_eq_true, imp_self, implies_true, true_implies, false_implies, and_self, List.length_map, List.length_drop]
      refine (waiting_at hob).mono ?_
      rintro _ σ3 ⟨rfl, rfl⟩
      simp only [go_sem, r_block, f0, f3, f4, f5, f7, hrb, hB.rf.l.len, reduceIte, Nat.reduceEqDiff, Nat.reduceAdd, Nat.reduceMul, Nat.reduceSub, Nat.reduceLT, Nat.reduceLeDiff, Nat.le_refl, Nat.zero_le, Nat.zero_add, Nat.add_zero, Nat.mul_one, splice_zero, Int.toNat_natCast, Int.natCast_nonneg, Int.reduceLE, Int.reduceLT, Int.reduceToNat, Int.reduceEq, Int.cast_ofNat_Int, ne_eq, not_true_eq_false, not_false_eq_true, imp_self, implies_true, true_implies, false_implies, and_self, List.length_map, List.length_drop]
      rw [wrap64 (x := (R.L.length : Int) - R.gone) (by omega)]
      rw [e1]
      simp only [go_sem, r_block, f0, f3, f4, f5, f7, hrb, reduceIte, Nat.reduceEqDiff, Nat.reduceAdd, Nat.reduceMul, Nat.reduceSub, Nat.reduceLT, Nat.reduceLeDiff, Nat.le_refl, Nat.zero_le, Nat.zero_add, Nat.add_zero, Nat.mul_one, splice_zero, Int.toNat_natCast, Int.natCast_nonneg, Int.reduceLE, Int.reduceLT, Int.reduceToNat, Int.reduceEq, Int.cast_ofNat_Int, ne_eq, not_true_eq_false, not_false_eq_true, imp_self, implies_true, true_implies, false_implies, and_self, List.length_map, List.length_drop]
      refine (came_at hob).mono ?_
      rintro _ σ3 ⟨rfl, rfl⟩
      simp only [go_sem, r_block, f0, f3, f4, f5, f7, hrb, reduceIte, Nat.reduceEqDiff, Nat.reduceAdd, Nat.reduceMul, Nat.reduceSub, Nat.reduceLT, Nat.reduceLeDiff, Nat.le_refl, Nat.zero_le, Nat.zero_add, Nat.add_zero, Nat.mul_one, splice_zero, Int.toNat_natCast, Int.natCast_nonneg, Int.reduceLE, Int.reduceLT, Int.reduceToNat, Int.reduceEq, Int.cast_ofNat_Int, ne_eq, not_true_eq_false, not_false_eq_true, imp_self, implies_true, true_implies, false_implies, and_self, List.length_map, List.length_drop]
      rw [hal.cm]
      simp only [go_sem, r_block, f0, f3, f4, f5, f7, hrb, hB.rf.l.len, reduceIte, Nat.reduceEqDiff, Nat.reduceAdd, Nat.reduceMul, Nat.reduceSub, Nat.reduceLT, Nat.reduceLeDiff, Nat.le_refl, Nat.zero_le, Nat.zero_add, Nat.add_zero, Nat.mul_one, splice_zero, Int.toNat_natCast, Int.natCast_nonneg, Int.reduceLE, Int.reduceLT, Int.reduceToNat, Int.reduceEq, Int.cast_ofNat_Int, ne_eq, not_true_eq_false, not_false_eq_true, imp_self, implies_true, true_implies, false_implies, and_self, List.length_map, List.length_drop]
      refine (pushed_at hob).mono ?_
      rintro _ σ3 ⟨rfl, rfl⟩
      have e2 : IntKind.i64.wrap (s.gone + s.wait.length) = (R.L.length : Int) := by rw [wrap64 (by omega)]; omega
      simp only [go_sem, r_block, f0, f3, f4, f5, f7, hrb, e2, hB.rf.l.len, reduceIte, Nat.reduceEqDiff, Nat.reduceAdd, Nat.reduceMul, Nat.reduceSub, Nat.reduceLT, Nat.reduceLeDiff, Nat.le_refl, Nat.zero_le, Nat.zero_add, Nat.add_zero, Nat.mul_one, splice_zero, Int.toNat_natCast, Int.natCast_nonneg, Int.reduceLE, Int.reduceLT, Int.reduceToNat, Int.reduceEq, Int.cast_ofNat_Int, ne_eq, not_true_eq_false, not_false_eq_true, imp_self, implies_true, true_implies, false_implies, and_self, List.length_map, List.length_drop]
      refine (owes_at hob).mono ?_
      rintro _ σ3 ⟨rfl, rfl⟩
      rw [hal.ow]
      simp only [go_sem, r_block, f0, f3, f4, f5, f7, hrb, reduceIte, Nat.reduceEqDiff, Nat.reduceAdd, Nat.reduceMul, Nat.reduceSub, Nat.reduceLT, Nat.reduceLeDiff, Nat.le_refl, Nat.zero_le, Nat.zero_add, Nat.add_zero, Nat.mul_one, splice_zero, Int.toNat_natCast, Int.natCast_nonneg, Int.reduceLE, Int.reduceLT, Int.reduceToNat, Int.reduceEq, Int.cast_ofNat_Int, ne_eq, not_true_eq_false, not_false_eq_true, imp_self, implies_true, true_implies, false_implies, and_self, List.length_map, List.length_drop]
      rw [next64 (by omega)]
      exact ⟨l.length - (i + 1), by omega, i + 1, b, m, s, R, rfl, by omega, rfl, rfl, hB⟩
    · simp only [go_sem, reduceIte, Nat.reduceEqDiff, Nat.reduceAdd, Nat.reduceMul, Nat.reduceSub, Nat.reduceLT, Nat.reduceLeDiff, Nat.le_refl, Nat.zero_le, Nat.zero_add, Nat.add_zero, Nat.mul_one, splice_zero, Int.toNat_natCast, Int.natCast_nonneg, Int.reduceLE, Int.reduceLT, Int.reduceToNat, Int.reduceEq, Int.cast_ofNat_Int, ne_eq, not_true_eq_false, not_false_eq_true, imp_self, implies_true, true_implies, false_implies, and_self, List.length_map, List.length_drop]
  rintro fr σ2 -
  simp only [go_sem, reduceIte, Nat.reduceEqDiff, Nat.reduceAdd, Nat.reduceMul, Nat.reduceSub, Nat.reduceLT, Nat.reduceLeDiff, Nat.le_refl, Nat.zero_le, Nat.zero_add, Nat.add_zero, Nat.mul_one, splice_zero, Int.toNat_natCast, Int.natCast_nonneg, Int.reduceLE, Int.reduceLT, Int.reduceToNat, Int.reduceEq, Int.cast_ofNat_Int, ne_eq, not_true_eq_false, not_false_eq_true, imp_self, implies_true, true_implies, false_implies, and_self, List.length_map, List.length_drop]
  refine live_at.mono ?_
  rintro _ _ ⟨rfl, rfl⟩
  simp only [go_sem, reduceIte, Nat.reduceEqDiff, Nat.reduceAdd, Nat.reduceMul, Nat.reduceSub, Nat.reduceLT, Nat.reduceLeDiff, Nat.le_refl, Nat.zero_le, Nat.zero_add, Nat.add_zero, Nat.mul_one, splice_zero, Int.toNat_natCast, Int.natCast_nonneg, Int.reduceLE, Int.reduceLT, Int.reduceToNat, Int.reduceEq, Int.cast_ofNat_Int, ne_eq, not_true_eq_false, not_false_eq_true, imp_self, implies_true, true_implies, false_implies, and_self, List.length_map, List.length_drop]
  exact aRet_as (r := boo true) rfl rfl

theorem acts_of {n : Nat} : ∀ (es : List (List AV)), (∀ x ∈ es, Ty Try.prog (n + 7) 65 x) → ∃ l : List Actn, es = l.map aC ∧ ∀ a ∈ l, a.2.Ok
  | [], _ => ⟨[], rfl, fun a ha => by cases ha⟩
  | x :: es, h => by
    obtain ⟨l, rfl, hl⟩ := acts_of es fun y hy => h y (by simp [hy])
    have hx := ty_st Try.underlying65 (h x (by simp))
    obtain ⟨x1, y1, rfl, h1, x2, y2, rfl, h2, rfl⟩ := hx
    obtain ⟨a, rfl, _⟩ := ty_int Try.underlying3 h1
    obtain ⟨f, rfl, hf⟩ := frm_of h2
    exact ⟨(a, f) :: l, by simp [aC], fun b hb => by
      rcases List.mem_cons.1 hb with rfl | hb
      · exact hf
      · exact hl b hb⟩
end
end Go.Proofs.Ytpdbmnogfanpmaa
