/-
  What one end (package link) computes, function by function.
  Conditions: none.
-/
import Derived.Test.YtpdbmnogfanpmaaTy
import Derived.Test.YtpdbmnogfanpmaaAvView
set_option linter.unusedVariables false
set_option linter.unusedSimpArgs false
namespace Go.Proofs.Ytpdbmnogfanpmaa
open Go Go.Av

abbrev ptr (b : Nat) : AV := .v (.pointer (some ⟨b, 0, none⟩))
abbrev mapp (b : Nat) : AV := .v (.map (some b))
abbrev int (n : Int) : AV := .v (.int .i64 n)
abbrev boo (b : Bool) : AV := .v (.bool b)
abbrev str (s : ByteArray) : AV := .v (.string s)
abbrev nost : ByteArray := ⟨#[]⟩

/-- A term's cells. -/
abbrev Trm := Bool × Int × ByteArray
def trmC (a : Trm) : List AV := [boo a.1, int a.2.1, str a.2.2]
/-- An item. -/
structure Itm where
  kind : Int
  ep : Int
  f1 : ByteArray
  f2 : ByteArray
  f3 : ByteArray
  args : List Trm
  dig : List Int
  hd : dig.length = 32
def u8s (l : List Int) : List AV := l.map fun n => .v (.int .u8 n)
def Itm.cs (x : Itm) : List AV := int x.kind :: int x.ep :: str x.f1 :: str x.f2 :: str x.f3 :: .sl 3 (x.args.map trmC) :: u8s x.dig
theorem u8s_one (l : List Int) : (u8s l).all AV.one = true := by simp [u8s, AV.one, Value.oneCell']
theorem u8s_length (l : List Int) : (u8s l).length = l.length := by simp [u8s]
theorem Itm.len (x : Itm) : x.cs.length = 38 := by simp [Itm.cs, u8s_length, x.hd]
theorem Itm.one (x : Itm) : x.cs.all AV.one = true := by
  have := u8s_one x.dig
  simp only [Itm.cs, List.all_cons, this, Bool.and_true]
  rfl

theorem Itm.take (x : Itm) : x.cs.take 38 = x.cs := List.take_of_length_le (by rw [x.len]; exact Nat.le_refl _)
theorem Itm.at0 (x : Itm) : x.cs.getD 0 (.v undef) = int x.kind := rfl
theorem Itm.at1 (x : Itm) : x.cs.getD 1 (.v undef) = int x.ep := rfl
theorem Itm.dr1 (x : Itm) : (x.cs.drop 1).getD 0 (.v undef) = int x.ep := rfl
theorem Itm.at5 (x : Itm) : x.cs.getD 5 (.v undef) = .sl 3 (x.args.map trmC) := rfl
theorem Itm.put5 (x : Itm) : splice x.cs 5 [.sl 3 (x.args.map trmC)] = x.cs := rfl
theorem Itm.put0 (x : Itm) {l : List AV} (h : l.length = 38) : splice l 0 x.cs = x.cs := by
  rw [splice_zero, x.len, List.drop_of_length_le (by omega), List.append_nil]

/-- One end's part. -/
structure Ls where
  wait : List Itm
  gone : Int
  came : Int
  early : List (Int × Itm)
  owes : Bool
def erC (l : List (Int × Itm)) : List (Value × AV) := l.map fun p => (.int .i64 p.1, .agg p.2.cs)
def lO (s : Ls) (m : Nat) : AObj := .cells [.sl 38 (s.wait.map Itm.cs), int s.gone, int s.came, mapp m, boo s.owes, boo true]
structure LAt' (σ : St) (b m : Nat) (s : Ls) : Prop where
  ob : σ b = some (lO s m)
  er : σ m = some (.map (erC s.early))

section
variable {σ : St} {b m : Nat} {s : Ls}
set_option maxRecDepth 100000

theorem none_at (h : σ b = some (lO s m)) : AT Try.prog 30 [ptr b] σ fun r σ' => r = boo false ∧ σ' = σ := by
  refine AT.of_body Try.func30 rfl (by decide) (by kernel_rfl) (by kernel_rfl) (Nat.le_of_ble_eq_true rfl) ?_
  unfold lO at h
  simp only [go_sem, r_block, h, reduceIte, Nat.reduceEqDiff, Nat.reduceAdd, Nat.reduceMul, Nat.reduceSub, Nat.reduceLT, Nat.reduceLeDiff, Nat.le_refl, Nat.zero_le, Nat.zero_add, Nat.add_zero, Nat.mul_one, splice_zero, Int.toNat_natCast, Int.natCast_nonneg, Int.reduceLE, Int.reduceLT, Int.reduceToNat, Int.reduceEq, Int.cast_ofNat_Int, ne_eq, not_true_eq_false, not_false_eq_true, imp_self, implies_true, true_implies, false_implies, and_self, List.length_map, List.length_drop]
  exact aRet_as (r := boo false) rfl ⟨rfl, rfl⟩

theorem new_at : AT Try.prog 9 [] σ fun r σ' => ∃ b m, σ b = none ∧ σ m = none ∧ b ≠ m ∧ r = ptr b ∧ σ' = (σ.set m (.map [])).set b (lO ⟨[], 0, 0, [], false⟩ m) := by
  refine AT.of_body Try.func9 rfl (by decide) (by kernel_rfl) (by kernel_rfl) (Nat.le_of_ble_eq_true rfl) ?_
  simp only [go_sem, r_block, reduceIte, Nat.reduceEqDiff, Nat.reduceAdd, Nat.reduceMul, Nat.reduceSub, Nat.reduceLT, Nat.reduceLeDiff, Nat.le_refl, Nat.zero_le, Nat.zero_add, Nat.add_zero, Nat.mul_one, splice_zero, Int.toNat_natCast, Int.natCast_nonneg, Int.reduceLE, Int.reduceLT, Int.reduceToNat, Int.reduceEq, Int.cast_ofNat_Int, ne_eq, not_true_eq_false, not_false_eq_true, imp_self, implies_true, true_implies, false_implies, and_self, List.length_map, List.length_drop]
  refine aNewMap_intro fun m hm _ => ?_
  simp only [go_sem, r_block, reduceIte, Nat.reduceEqDiff, Nat.reduceAdd, Nat.reduceMul, Nat.reduceSub, Nat.reduceLT, Nat.reduceLeDiff, Nat.le_refl, Nat.zero_le, Nat.zero_add, Nat.add_zero, Nat.mul_one, splice_zero, Int.toNat_natCast, Int.natCast_nonneg, Int.reduceLE, Int.reduceLT, Int.reduceToNat, Int.reduceEq, Int.cast_ofNat_Int, ne_eq, not_true_eq_false, not_false_eq_true, imp_self, implies_true, true_implies, false_implies, and_self, List.length_map, List.length_drop]
  refine aNew_intro fun b hb hbm => ?_
  simp only [go_sem, r_block, reduceIte, Nat.reduceEqDiff, Nat.reduceAdd, Nat.reduceMul, Nat.reduceSub, Nat.reduceLT, Nat.reduceLeDiff, Nat.le_refl, Nat.zero_le, Nat.zero_add, Nat.add_zero, Nat.mul_one, splice_zero, Int.toNat_natCast, Int.natCast_nonneg, Int.reduceLE, Int.reduceLT, Int.reduceToNat, Int.reduceEq, Int.cast_ofNat_Int, ne_eq, not_true_eq_false, not_false_eq_true, imp_self, implies_true, true_implies, false_implies, and_self, List.length_map, List.length_drop]
  have hne : b ≠ m := fun e => by subst e; rw [set_same] at hb; cases hb
  exact aRet_view (r := ptr b) rfl _ ((σ.set m (.map [])).set b (lO ⟨[], 0, 0, [], false⟩ m)) (view_of (sv_set (set_same) (vws_cons (.nil _) (vws_refl _)) fun x p hx hp => by rw [set_ne hx]; exact hp) (.refl _)) ⟨b, m, by rw [set_ne hne] at hb; exact hb, hm, hne, rfl, rfl⟩

theorem kind_at (x : Itm) : AT Try.prog 31 [.agg x.cs] σ fun r σ' => r = boo (decide (1 ≤ x.kind ∧ x.kind ≤ 4)) ∧ σ' = σ := by
  refine AT.of_body Try.func31 rfl (by decide) (by kernel_rfl) (by kernel_rfl) (Nat.le_of_ble_eq_true rfl) ?_
  simp only [go_sem, r_block, x.one, reduceIte, Nat.reduceEqDiff, Nat.reduceAdd, Nat.reduceMul, Nat.reduceSub, Nat.reduceLT, Nat.reduceLeDiff, Nat.le_refl, Nat.zero_le, Nat.zero_add, Nat.add_zero, Nat.mul_one, splice_zero, Int.toNat_natCast, Int.natCast_nonneg, Int.reduceLE, Int.reduceLT, Int.reduceToNat, Int.reduceEq, Int.cast_ofNat_Int, ne_eq, not_true_eq_false, not_false_eq_true, imp_self, implies_true, true_implies, false_implies, and_self, List.length_map, List.length_drop]
  refine aNew_intro fun b hb hbm => ?_
  simp only [go_sem, r_block, set_same, x.len, x.at0, reduceIte, Nat.reduceEqDiff, Nat.reduceAdd, Nat.reduceMul, Nat.reduceSub, Nat.reduceLT, Nat.reduceLeDiff, Nat.le_refl, Nat.zero_le, Nat.zero_add, Nat.add_zero, Nat.mul_one, splice_zero, Int.toNat_natCast, Int.natCast_nonneg, Int.reduceLE, Int.reduceLT, Int.reduceToNat, Int.reduceEq, Int.cast_ofNat_Int, ne_eq, not_true_eq_false, not_false_eq_true, imp_self, implies_true, true_implies, false_implies, and_self, List.length_map, List.length_drop]
  refine aIf_by (fun h1 => ?_) (fun h1 => ?_)
  · simp only [go_sem, r_block, set_same, x.len, x.at0, decide_eq_true h1, reduceIte, Nat.reduceEqDiff, Nat.reduceAdd, Nat.reduceMul, Nat.reduceSub, Nat.reduceLT, Nat.reduceLeDiff, Nat.le_refl, Nat.zero_le, Nat.zero_add, Nat.add_zero, Nat.mul_one, splice_zero, Int.toNat_natCast, Int.natCast_nonneg, Int.reduceLE, Int.reduceLT, Int.reduceToNat, Int.reduceEq, Int.cast_ofNat_Int, ne_eq, not_true_eq_false, not_false_eq_true, imp_self, implies_true, true_implies, false_implies, and_self, List.length_map, List.length_drop]
    exact aRet_view (r := boo (decide (x.kind ≤ 4))) rfl _ σ (view_drop (set_sub hb fun _ _ h => h)) ⟨by simp [h1], rfl⟩
  · simp only [go_sem, r_block, set_same, x.len, x.at0, decide_eq_false h1, reduceIte, Nat.reduceEqDiff, Nat.reduceAdd, Nat.reduceMul, Nat.reduceSub, Nat.reduceLT, Nat.reduceLeDiff, Nat.le_refl, Nat.zero_le, Nat.zero_add, Nat.add_zero, Nat.mul_one, splice_zero, Int.toNat_natCast, Int.natCast_nonneg, Int.reduceLE, Int.reduceLT, Int.reduceToNat, Int.reduceEq, Int.cast_ofNat_Int, ne_eq, not_true_eq_false, not_false_eq_true, imp_self, implies_true, true_implies, false_implies, and_self, List.length_map, List.length_drop]
    exact aRet_view (r := boo false) rfl _ σ (view_drop (set_sub hb fun _ _ h => h)) ⟨by simp [h1], rfl⟩

/-- A slice of frozen elements, cloned. -/
theorem sclone_at {es : List (List AV)} (hl : es.length ≤ 4398046510976) : AT Try.prog 39 [.sl 3 es] σ fun r σ' => r = .sl 3 es ∧ σ' = σ := by
  refine AT.of_body Try.func39 rfl (by decide) (by kernel_rfl) (by kernel_rfl) (Nat.le_of_ble_eq_true rfl) ?_
  simp only [go_sem, reduceIte, Nat.reduceEqDiff, Nat.reduceAdd, Nat.reduceMul, Nat.reduceSub, Nat.reduceLT, Nat.reduceLeDiff, Nat.le_refl, Nat.zero_le, Nat.zero_add, Nat.add_zero, Nat.mul_one, splice_zero, Int.toNat_natCast, Int.natCast_nonneg, Int.reduceLE, Int.reduceLT, Int.reduceToNat, Int.reduceEq, Int.cast_ofNat_Int, ne_eq, not_true_eq_false, not_false_eq_true, imp_self, implies_true, true_implies, false_implies, and_self, List.length_map, List.length_drop]
  refine ⟨fun he => ?_, fun he b => ?_⟩
  · refine aApp_by (ys := es) (by simp [src]) (by decide) (by decide) (by decide) ⟨rfl, fun e => absurd e he, fun _ => ⟨by simp; omega, fun b cap hb hle => ?_⟩⟩
    simp only [go_sem, reduceIte, Nat.reduceEqDiff, Nat.reduceAdd, Nat.reduceMul, Nat.reduceSub, Nat.reduceLT, Nat.reduceLeDiff, Nat.le_refl, Nat.zero_le, Nat.zero_add, Nat.add_zero, Nat.mul_one, splice_zero, Int.toNat_natCast, Int.natCast_nonneg, Int.reduceLE, Int.reduceLT, Int.reduceToNat, Int.reduceEq, Int.cast_ofNat_Int, ne_eq, not_true_eq_false, not_false_eq_true, imp_self, implies_true, true_implies, false_implies, and_self, List.length_map, List.length_drop]
    exact aRet_view (r := .v (.slice (some ⟨b, 0, none⟩) es.length cap)) (by simp [aResult, aResL, aRes1, oneR, go_sem]) _ σ (view_of (sv_of fun x o hx => .inl ((set_sub hb fun _ _ h => h) x o hx)) (.row b 3 es es false cap _ _ (by rw [set_same]) hb rfl (by simpa using hle) rfl (fun _ _ => rfl) fun _ _ _ _ => .refl _)) ⟨rfl, rfl⟩
  · subst he
    refine aIf_bool (fun hb => ?_) (fun hb => ?_)
    · simp only [go_sem, reduceIte, Nat.reduceEqDiff, Nat.reduceAdd, Nat.reduceMul, Nat.reduceSub, Nat.reduceLT, Nat.reduceLeDiff, Nat.le_refl, Nat.zero_le, Nat.zero_add, Nat.add_zero, Nat.mul_one, splice_zero, Int.toNat_natCast, Int.natCast_nonneg, Int.reduceLE, Int.reduceLT, Int.reduceToNat, Int.reduceEq, Int.cast_ofNat_Int, ne_eq, not_true_eq_false, not_false_eq_true, imp_self, implies_true, true_implies, false_implies, and_self, List.length_map, List.length_drop]
      exact aRet_view (r := .v (.slice none 0 0)) rfl _ σ (view_of (sv_of fun x o hx => .inl hx) (.nil 3)) ⟨rfl, rfl⟩
    · simp only [go_sem, reduceIte, Nat.reduceEqDiff, Nat.reduceAdd, Nat.reduceMul, Nat.reduceSub, Nat.reduceLT, Nat.reduceLeDiff, Nat.le_refl, Nat.zero_le, Nat.zero_add, Nat.add_zero, Nat.mul_one, splice_zero, Int.toNat_natCast, Int.natCast_nonneg, Int.reduceLE, Int.reduceLT, Int.reduceToNat, Int.reduceEq, Int.cast_ofNat_Int, ne_eq, not_true_eq_false, not_false_eq_true, imp_self, implies_true, true_implies, false_implies, and_self, List.length_map, List.length_drop]
      refine aApp_by (ys := []) (by simp [src]) (by decide) (by decide) (by decide) ⟨rfl, fun e => ?_, fun e => absurd rfl e⟩
      simp only [go_sem, reduceIte, Nat.reduceEqDiff, Nat.reduceAdd, Nat.reduceMul, Nat.reduceSub, Nat.reduceLT, Nat.reduceLeDiff, Nat.le_refl, Nat.zero_le, Nat.zero_add, Nat.add_zero, Nat.mul_one, splice_zero, Int.toNat_natCast, Int.natCast_nonneg, Int.reduceLE, Int.reduceLT, Int.reduceToNat, Int.reduceEq, Int.cast_ofNat_Int, ne_eq, not_true_eq_false, not_false_eq_true, imp_self, implies_true, true_implies, false_implies, and_self, List.length_map, List.length_drop]
      exact aRet_view (r := .fsl 3 []) rfl _ σ (view_of (sv_of fun x o hx => .inl hx) (.full 3 [] [] rfl (fun _ _ => rfl) fun _ _ _ _ => .refl _)) ⟨rfl, rfl⟩

theorem own_at (x : Itm) (hl : x.args.length ≤ 4398046510976) : AT Try.prog 32 [.agg x.cs] σ fun r σ' => r = .agg x.cs ∧ σ' = σ := by
  refine AT.of_body Try.func32 rfl (by decide) (by kernel_rfl) (by kernel_rfl) (Nat.le_of_ble_eq_true rfl) ?_
  simp only [go_sem, r_block, x.one, reduceIte, Nat.reduceEqDiff, Nat.reduceAdd, Nat.reduceMul, Nat.reduceSub, Nat.reduceLT, Nat.reduceLeDiff, Nat.le_refl, Nat.zero_le, Nat.zero_add, Nat.add_zero, Nat.mul_one, splice_zero, Int.toNat_natCast, Int.natCast_nonneg, Int.reduceLE, Int.reduceLT, Int.reduceToNat, Int.reduceEq, Int.cast_ofNat_Int, ne_eq, not_true_eq_false, not_false_eq_true, imp_self, implies_true, true_implies, false_implies, and_self, List.length_map, List.length_drop]
  refine aNew_intro fun b hb hbm => ?_
  simp only [go_sem, r_block, set_same, reduceIte, Nat.reduceEqDiff, Nat.reduceAdd, Nat.reduceMul, Nat.reduceSub, Nat.reduceLT, Nat.reduceLeDiff, Nat.le_refl, Nat.zero_le, Nat.zero_add, Nat.add_zero, Nat.mul_one, splice_zero, Int.toNat_natCast, Int.natCast_nonneg, Int.reduceLE, Int.reduceLT, Int.reduceToNat, Int.reduceEq, Int.cast_ofNat_Int, ne_eq, not_true_eq_false, not_false_eq_true, imp_self, implies_true, true_implies, false_implies, and_self, List.length_map, List.length_drop]
  refine aNew_intro fun b2 hb2 hbm2 => ?_
  have hne : b2 ≠ b := fun e => by subst e; rw [set_same] at hb2; cases hb2
  have hne' := hne.symm
  simp only [go_sem, r_block, set_same, set_ne hne, set_ne hne', x.len, x.at5, reduceIte, Nat.reduceEqDiff, Nat.reduceAdd, Nat.reduceMul, Nat.reduceSub, Nat.reduceLT, Nat.reduceLeDiff, Nat.le_refl, Nat.zero_le, Nat.zero_add, Nat.add_zero, Nat.mul_one, splice_zero, Int.toNat_natCast, Int.natCast_nonneg, Int.reduceLE, Int.reduceLT, Int.reduceToNat, Int.reduceEq, Int.cast_ofNat_Int, ne_eq, not_true_eq_false, not_false_eq_true, imp_self, implies_true, true_implies, false_implies, and_self, List.length_map, List.length_drop]
  refine (sclone_at (by simpa using hl)).mono ?_
  rintro _ _ ⟨rfl, rfl⟩
  simp only [go_sem, r_block, set_same, set_ne hne, set_ne hne', x.len, x.put5, x.take, x.one, x.put0, reduceIte, Nat.reduceEqDiff, Nat.reduceAdd, Nat.reduceMul, Nat.reduceSub, Nat.reduceLT, Nat.reduceLeDiff, Nat.le_refl, Nat.zero_le, Nat.zero_add, Nat.add_zero, Nat.mul_one, splice_zero, Int.toNat_natCast, Int.natCast_nonneg, Int.reduceLE, Int.reduceLT, Int.reduceToNat, Int.reduceEq, Int.cast_ofNat_Int, ne_eq, not_true_eq_false, not_false_eq_true, imp_self, implies_true, true_implies, false_implies, and_self, List.length_map, List.length_drop]
  have hb2' : σ b2 = none := by rw [set_ne hne] at hb2; exact hb2
  exact aRet_cell σ _ rfl set_same tk32 rfl x.len.symm (view_drop (set_sub hb2' (set_sub hb (set_sub hb2' (set_sub hb fun _ _ h => h))))) ⟨rfl, rfl⟩
theorem item_at (n : Int) : AT Try.prog 11 [int n] σ fun r σ' => r = .agg (Itm.cs ⟨4, n, nost, nost, nost, [], List.replicate 32 0, rfl⟩) ∧ σ' = σ := by
  refine AT.of_body Try.func11 rfl (by decide) (by kernel_rfl) (by kernel_rfl) (Nat.le_of_ble_eq_true rfl) ?_
  simp only [go_sem, r_block, reduceIte, Nat.reduceEqDiff, Nat.reduceAdd, Nat.reduceMul, Nat.reduceSub, Nat.reduceLT, Nat.reduceLeDiff, Nat.le_refl, Nat.zero_le, Nat.zero_add, Nat.add_zero, Nat.mul_one, splice_zero, Int.toNat_natCast, Int.natCast_nonneg, Int.reduceLE, Int.reduceLT, Int.reduceToNat, Int.reduceEq, Int.cast_ofNat_Int, ne_eq, not_true_eq_false, not_false_eq_true, imp_self, implies_true, true_implies, false_implies, and_self, List.length_map, List.length_drop]
  refine aNew_intro fun b hb hbm => ?_
  simp only [go_sem, r_block, set_same, zl1, reduceIte, Nat.reduceEqDiff, Nat.reduceAdd, Nat.reduceMul, Nat.reduceSub, Nat.reduceLT, Nat.reduceLeDiff, Nat.le_refl, Nat.zero_le, Nat.zero_add, Nat.add_zero, Nat.mul_one, splice_zero, Int.toNat_natCast, Int.natCast_nonneg, Int.reduceLE, Int.reduceLT, Int.reduceToNat, Int.reduceEq, Int.cast_ofNat_Int, ne_eq, not_true_eq_false, not_false_eq_true, imp_self, implies_true, true_implies, false_implies, and_self, List.length_map, List.length_drop]
  refine aRet_cell σ (.agg (int 4 :: int n :: str nost :: str nost :: str nost :: .sl 3 [] :: u8s (List.replicate 32 0))) rfl set_same tk32 rfl rfl (View.trans (view_drop (set_sub hb fun _ _ h => h)) (view_of (sv_of fun _ _ h => .inl h) (.agg _ _ rfl ?_))) ⟨rfl, rfl⟩
  exact (vws_same (vws_same (vws_same (vws_same (vws_same (vws_cons (.nil 3) (vws_refl (u8s (List.replicate 32 0))))))))).2

theorem waiting_at (h : σ b = some (lO s m)) : AT Try.prog 14 [ptr b] σ fun r σ' => r = int s.wait.length ∧ σ' = σ := by
  refine AT.of_body Try.func14 rfl (by decide) (by kernel_rfl) (by kernel_rfl) (Nat.le_of_ble_eq_true rfl) ?_
  simp only [go_sem, r_block, reduceIte, Nat.reduceEqDiff, Nat.reduceAdd, Nat.reduceMul, Nat.reduceSub, Nat.reduceLT, Nat.reduceLeDiff, Nat.le_refl, Nat.zero_le, Nat.zero_add, Nat.add_zero, Nat.mul_one, splice_zero, Int.toNat_natCast, Int.natCast_nonneg, Int.reduceLE, Int.reduceLT, Int.reduceToNat, Int.reduceEq, Int.cast_ofNat_Int, ne_eq, not_true_eq_false, not_false_eq_true, imp_self, implies_true, true_implies, false_implies, and_self, List.length_map, List.length_drop]
  refine (none_at h).mono ?_
  rintro _ _ ⟨rfl, rfl⟩
  unfold lO at h
  simp only [go_sem, r_block, h, reduceIte, Nat.reduceEqDiff, Nat.reduceAdd, Nat.reduceMul, Nat.reduceSub, Nat.reduceLT, Nat.reduceLeDiff, Nat.le_refl, Nat.zero_le, Nat.zero_add, Nat.add_zero, Nat.mul_one, splice_zero, Int.toNat_natCast, Int.natCast_nonneg, Int.reduceLE, Int.reduceLT, Int.reduceToNat, Int.reduceEq, Int.cast_ofNat_Int, ne_eq, not_true_eq_false, not_false_eq_true, imp_self, implies_true, true_implies, false_implies, and_self, List.length_map, List.length_drop]
  exact aRet_as (r := int _) rfl ⟨by simp, rfl⟩
theorem came_at (h : σ b = some (lO s m)) : AT Try.prog 28 [ptr b] σ fun r σ' => r = int s.came ∧ σ' = σ := by
  refine AT.of_body Try.func28 rfl (by decide) (by kernel_rfl) (by kernel_rfl) (Nat.le_of_ble_eq_true rfl) ?_
  simp only [go_sem, r_block, reduceIte, Nat.reduceEqDiff, Nat.reduceAdd, Nat.reduceMul, Nat.reduceSub, Nat.reduceLT, Nat.reduceLeDiff, Nat.le_refl, Nat.zero_le, Nat.zero_add, Nat.add_zero, Nat.mul_one, splice_zero, Int.toNat_natCast, Int.natCast_nonneg, Int.reduceLE, Int.reduceLT, Int.reduceToNat, Int.reduceEq, Int.cast_ofNat_Int, ne_eq, not_true_eq_false, not_false_eq_true, imp_self, implies_true, true_implies, false_implies, and_self, List.length_map, List.length_drop]
  refine (none_at h).mono ?_
  rintro _ _ ⟨rfl, rfl⟩
  unfold lO at h
  simp only [go_sem, r_block, h, reduceIte, Nat.reduceEqDiff, Nat.reduceAdd, Nat.reduceMul, Nat.reduceSub, Nat.reduceLT, Nat.reduceLeDiff, Nat.le_refl, Nat.zero_le, Nat.zero_add, Nat.add_zero, Nat.mul_one, splice_zero, Int.toNat_natCast, Int.natCast_nonneg, Int.reduceLE, Int.reduceLT, Int.reduceToNat, Int.reduceEq, Int.cast_ofNat_Int, ne_eq, not_true_eq_false, not_false_eq_true, imp_self, implies_true, true_implies, false_implies, and_self, List.length_map, List.length_drop]
  exact aRet_as (r := int _) rfl ⟨rfl, rfl⟩
theorem owes_at (h : σ b = some (lO s m)) : AT Try.prog 20 [ptr b] σ fun r σ' => r = boo s.owes ∧ σ' = σ := by
  refine AT.of_body Try.func20 rfl (by decide) (by kernel_rfl) (by kernel_rfl) (Nat.le_of_ble_eq_true rfl) ?_
  simp only [go_sem, r_block, reduceIte, Nat.reduceEqDiff, Nat.reduceAdd, Nat.reduceMul, Nat.reduceSub, Nat.reduceLT, Nat.reduceLeDiff, Nat.le_refl, Nat.zero_le, Nat.zero_add, Nat.add_zero, Nat.mul_one, splice_zero, Int.toNat_natCast, Int.natCast_nonneg, Int.reduceLE, Int.reduceLT, Int.reduceToNat, Int.reduceEq, Int.cast_ofNat_Int, ne_eq, not_true_eq_false, not_false_eq_true, imp_self, implies_true, true_implies, false_implies, and_self, List.length_map, List.length_drop]
  refine (none_at h).mono ?_
  rintro _ _ ⟨rfl, rfl⟩
  unfold lO at h
  simp only [go_sem, r_block, h, reduceIte, Nat.reduceEqDiff, Nat.reduceAdd, Nat.reduceMul, Nat.reduceSub, Nat.reduceLT, Nat.reduceLeDiff, Nat.le_refl, Nat.zero_le, Nat.zero_add, Nat.add_zero, Nat.mul_one, splice_zero, Int.toNat_natCast, Int.natCast_nonneg, Int.reduceLE, Int.reduceLT, Int.reduceToNat, Int.reduceEq, Int.cast_ofNat_Int, ne_eq, not_true_eq_false, not_false_eq_true, imp_self, implies_true, true_implies, false_implies, and_self, List.length_map, List.length_drop]
  exact aRet_as (r := boo _) rfl ⟨rfl, rfl⟩
theorem pushed_at (h : σ b = some (lO s m)) : AT Try.prog 29 [ptr b] σ fun r σ' => r = int (IntKind.i64.wrap (s.gone + s.wait.length)) ∧ σ' = σ := by
  refine AT.of_body Try.func29 rfl (by decide) (by kernel_rfl) (by kernel_rfl) (Nat.le_of_ble_eq_true rfl) ?_
  simp only [go_sem, r_block, reduceIte, Nat.reduceEqDiff, Nat.reduceAdd, Nat.reduceMul, Nat.reduceSub, Nat.reduceLT, Nat.reduceLeDiff, Nat.le_refl, Nat.zero_le, Nat.zero_add, Nat.add_zero, Nat.mul_one, splice_zero, Int.toNat_natCast, Int.natCast_nonneg, Int.reduceLE, Int.reduceLT, Int.reduceToNat, Int.reduceEq, Int.cast_ofNat_Int, ne_eq, not_true_eq_false, not_false_eq_true, imp_self, implies_true, true_implies, false_implies, and_self, List.length_map, List.length_drop]
  refine (none_at h).mono ?_
  rintro _ _ ⟨rfl, rfl⟩
  unfold lO at h
  simp only [go_sem, r_block, h, reduceIte, Nat.reduceEqDiff, Nat.reduceAdd, Nat.reduceMul, Nat.reduceSub, Nat.reduceLT, Nat.reduceLeDiff, Nat.le_refl, Nat.zero_le, Nat.zero_add, Nat.add_zero, Nat.mul_one, splice_zero, Int.toNat_natCast, Int.natCast_nonneg, Int.reduceLE, Int.reduceLT, Int.reduceToNat, Int.reduceEq, Int.cast_ofNat_Int, ne_eq, not_true_eq_false, not_false_eq_true, imp_self, implies_true, true_implies, false_implies, and_self, List.length_map, List.length_drop]
  refine aDraw_plan [.rd 0 false, .rd 1 false, .rd 2 false, .rd 3 true, .rd 4 false, .rd 5 false, .rd 6 false, .rd 7 true, .rd 8 false, .rd 9 false, .rd 10 false] (by kernel_rfl) (by kernel_rfl) (by kernel_rfl) ?_
  simp only [go_sem, r_block, h, reduceIte, Nat.reduceEqDiff, Nat.reduceAdd, Nat.reduceMul, Nat.reduceSub, Nat.reduceLT, Nat.reduceLeDiff, Nat.le_refl, Nat.zero_le, Nat.zero_add, Nat.add_zero, Nat.mul_one, splice_zero, Int.toNat_natCast, Int.natCast_nonneg, Int.reduceLE, Int.reduceLT, Int.reduceToNat, Int.reduceEq, Int.cast_ofNat_Int, ne_eq, not_true_eq_false, not_false_eq_true, imp_self, implies_true, true_implies, false_implies, and_self, List.length_map, List.length_drop]
  exact aRet_as (r := int _) rfl ⟨by simp, rfl⟩
theorem mclone_at {kv : List (Value × AV)} (h : σ m = some (.map kv)) : AT Try.prog 38 [mapp m] σ fun r σ' => ∃ m', σ m' = none ∧ r = mapp m' ∧ σ' = σ.set m' (.map kv) := by
  refine AT.of_body Try.func38 rfl (by decide) (by kernel_rfl) (by kernel_rfl) (Nat.le_of_ble_eq_true rfl) ?_
  simp only [go_sem, r_block, Option.isNone, reduceIte, Nat.reduceEqDiff, Nat.reduceAdd, Nat.reduceMul, Nat.reduceSub, Nat.reduceLT, Nat.reduceLeDiff, Nat.le_refl, Nat.zero_le, Nat.zero_add, Nat.add_zero, Nat.mul_one, splice_zero, Int.toNat_natCast, Int.natCast_nonneg, Int.reduceLE, Int.reduceLT, Int.reduceToNat, Int.reduceEq, Int.cast_ofNat_Int, ne_eq, not_true_eq_false, not_false_eq_true, imp_self, implies_true, true_implies, false_implies, and_self, List.length_map, List.length_drop]
  refine .inr ⟨by kernel_rfl, ?_⟩
  simp only [aClone, h]
  intro b hb
  simp only [go_sem, r_block, reduceIte, Nat.reduceEqDiff, Nat.reduceAdd, Nat.reduceMul, Nat.reduceSub, Nat.reduceLT, Nat.reduceLeDiff, Nat.le_refl, Nat.zero_le, Nat.zero_add, Nat.add_zero, Nat.mul_one, splice_zero, Int.toNat_natCast, Int.natCast_nonneg, Int.reduceLE, Int.reduceLT, Int.reduceToNat, Int.reduceEq, Int.cast_ofNat_Int, ne_eq, not_true_eq_false, not_false_eq_true, imp_self, implies_true, true_implies, false_implies, and_self, List.length_map, List.length_drop]
  exact aRet_as (r := mapp b) rfl ⟨b, hb, rfl, rfl⟩
end
end Go.Proofs.Ytpdbmnogfanpmaa
