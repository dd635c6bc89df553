/-
  Messages on their way (package net): Send, Double.
  Conditions: none.
-/
import Derived.Test.YtebmjajdkhhhbaaNa
set_option linter.unusedVariables false
set_option linter.unusedSimpArgs false
namespace Go.Proofs.Ytebmjajdkhhhbaa
open Go Go.Av

/-- What is on its way, and the last number. -/
structure Ns where
  l : List Msg
  last : Nat
def Ns.O (s : Ns) : AObj := nO s.l s.last
/-- It is well: numbers rise up to the last; bytes are not too many. -/
structure Ns.Ok (s : Ns) : Prop where
  rise : Rise s.l
  le : ∀ m ∈ s.l, m.num ≤ s.last
  by_ : ∀ m ∈ s.l, m.b.length ≤ 65536
  ln : s.l.length ≤ 4096
  la : s.last ≤ 1000000000
def Ns.put (s : Ns) (to : ByteArray) (b : Byt) : (Int × Int) × Ns := if 4096 ≤ s.l.length then ((0, 150), s) else ((s.last + 1, 0), ⟨s.l ++ [⟨s.last + 1, to, b⟩], s.last + 1⟩)
def Ns.send (s : Ns) (to : ByteArray) (b : Byt) : (Int × Int) × Ns := if 65536 < b.length then ((0, 3), s) else s.put to b
def nFind (k : Int) : List Msg → Option Msg
  | [] => none
  | m :: l => if m.num = k then some m else nFind k l
def nDel (k : Int) : List Msg → List Msg
  | [] => []
  | m :: l => if m.num = k then l else m :: nDel k l
def Ns.double (s : Ns) (k : Int) : (Int × Int) × Ns := match nFind k s.l with
  | none => ((0, 220), s)
  | some m => s.put m.to m.b
theorem nfind_at {k : Int} : ∀ {l : List Msg} {i : Nat} (hi : i < l.length), Rise l → l[i].num = k → nFind k l = some l[i] ∧ nDel k l = l.take i ++ l.drop (i + 1)
  | m :: l, 0, hi, hr, e => by
    simp at e
    simp [nFind, nDel, e]
  | m :: l, i + 1, hi, hr, e => by
    have h0 := hr 0 (i + 1) (by omega) hi
    have : m.num ≠ k := by
      simp at h0 e
      omega
    obtain ⟨h1, h2⟩ := nfind_at (l := l) (i := i) (by simpa using hi) (fun a b hab hb => hr (a + 1) (b + 1) (by omega) (by simpa using hb)) (by simpa using e)
    simp only [nFind, nDel, if_neg this, h1, h2]
    simp
theorem nfind_none {k : Int} : ∀ {l : List Msg}, (∀ m ∈ l, m.num ≠ k) → nFind k l = none ∧ nDel k l = l
  | [], _ => ⟨rfl, rfl⟩
  | m :: l, h => by
    obtain ⟨h1, h2⟩ := nfind_none (l := l) fun x hx => h x (by simp [hx])
    simp only [nFind, nDel, if_neg (h m (by simp)), h1, h2]
    exact ⟨trivial, trivial⟩
theorem nfind_mem {k : Int} : ∀ {l : List Msg} {m : Msg}, nFind k l = some m → m ∈ l ∧ m.num = k
  | x :: l, m, h => by
    simp only [nFind] at h
    split at h
    · injection h with h; subst h; exact ⟨by simp, by assumption⟩
    · obtain ⟨h1, h2⟩ := nfind_mem h; exact ⟨by simp [h1], h2⟩

section
variable {σ σ' : St} {p : Nat} {s : Ns}
set_option maxRecDepth 100000
set_option maxHeartbeats 1000000

theorem find_at (h : σ p = some s.O) (ho : s.Ok) (k : Int) : AT Try.prog 29 [ptr p, int k] σ fun r σ' => σ' = σ ∧ ((∃ (i : Nat) (hi : i < s.l.length), r = .tup [int i, boo true] ∧ nFind k s.l = some s.l[i] ∧ nDel k s.l = s.l.take i ++ s.l.drop (i + 1)) ∨ ∃ i, r = .tup [int i, boo false] ∧ nFind k s.l = none) := by
  refine AT.of_body Try.func29 rfl (by decide) (by kernel_rfl) (by kernel_rfl) (Nat.le_of_ble_eq_true rfl) ?_
  have h' := h
  unfold Ns.O nO at h'
  simp only [go_sem, r_block, h', reduceIte, Nat.reduceEqDiff, Nat.reduceAdd, Nat.reduceMul, Nat.reduceSub, Nat.reduceLT, Nat.reduceLeDiff, Nat.le_refl, Nat.zero_le, Nat.zero_add, Nat.add_zero, Nat.mul_one, splice_zero, Int.toNat_natCast, Int.natCast_nonneg, Int.reduceLE, Int.reduceLT, Int.reduceToNat, Int.reduceEq, Int.cast_ofNat_Int, ne_eq, not_true_eq_false, not_false_eq_true, imp_self, implies_true, true_implies, false_implies, and_self, List.length_map, List.length_drop]
  refine (search_at s.l k ho.rise (by have := ho.ln; omega)).mono ?_
  rintro _ σ ⟨rfl, ⟨i, hi, rfl, e⟩ | ⟨i, rfl, e⟩⟩
  · simp only [go_sem, r_block, reduceIte, Nat.reduceEqDiff, Nat.reduceAdd, Nat.reduceMul, Nat.reduceSub, Nat.reduceLT, Nat.reduceLeDiff, Nat.le_refl, Nat.zero_le, Nat.zero_add, Nat.add_zero, Nat.mul_one, splice_zero, Int.toNat_natCast, Int.natCast_nonneg, Int.reduceLE, Int.reduceLT, Int.reduceToNat, Int.reduceEq, Int.cast_ofNat_Int, ne_eq, not_true_eq_false, not_false_eq_true, imp_self, implies_true, true_implies, false_implies, and_self, List.length_map, List.length_drop]
    exact aRet_as (r := .tup [int i, boo true]) rfl ⟨rfl, .inl ⟨i, hi, rfl, nfind_at hi ho.rise e⟩⟩
  · simp only [go_sem, r_block, reduceIte, Nat.reduceEqDiff, Nat.reduceAdd, Nat.reduceMul, Nat.reduceSub, Nat.reduceLT, Nat.reduceLeDiff, Nat.le_refl, Nat.zero_le, Nat.zero_add, Nat.add_zero, Nat.mul_one, splice_zero, Int.toNat_natCast, Int.natCast_nonneg, Int.reduceLE, Int.reduceLT, Int.reduceToNat, Int.reduceEq, Int.cast_ofNat_Int, ne_eq, not_true_eq_false, not_false_eq_true, imp_self, implies_true, true_implies, false_implies, and_self, List.length_map, List.length_drop]
    exact aRet_as (r := .tup [int i, boo false]) rfl ⟨rfl, .inr ⟨i, rfl, (nfind_none e).1⟩⟩

theorem put_at (h : σ p = some s.O) (ho : s.Ok) (to : ByteArray) {lv : AV} {b : Byt} (hb : Rd 1 σ lv (byC b)) (hl : b.length ≤ 65536) : AT Try.prog 28 [ptr p, str to, lv] σ fun r σ' => r = .tup [int (s.put to b).1.1, int (s.put to b).1.2] ∧ σ' = σ.set p (s.put to b).2.O := by
  refine AT.of_body Try.func28 rfl (by decide) (by kernel_rfl) (by kernel_rfl) (Nat.le_of_ble_eq_true rfl) ?_
  have h' := h
  unfold Ns.O nO at h'
  have hln := ho.ln
  have hla := ho.la
  simp only [go_sem, r_block, h', reduceIte, Nat.reduceEqDiff, Nat.reduceAdd, Nat.reduceMul, Nat.reduceSub, Nat.reduceLT, Nat.reduceLeDiff, Nat.le_refl, Nat.zero_le, Nat.zero_add, Nat.add_zero, Nat.mul_one, splice_zero, Int.toNat_natCast, Int.natCast_nonneg, Int.reduceLE, Int.reduceLT, Int.reduceToNat, Int.reduceEq, Int.cast_ofNat_Int, ne_eq, not_true_eq_false, not_false_eq_true, imp_self, implies_true, true_implies, false_implies, and_self, List.length_map, List.length_drop]
  refine aIf_by (fun k1 => ?_) (fun k1 => ?_)
  · simp only [go_sem, r_block, reduceIte, Nat.reduceEqDiff, Nat.reduceAdd, Nat.reduceMul, Nat.reduceSub, Nat.reduceLT, Nat.reduceLeDiff, Nat.le_refl, Nat.zero_le, Nat.zero_add, Nat.add_zero, Nat.mul_one, splice_zero, Int.toNat_natCast, Int.natCast_nonneg, Int.reduceLE, Int.reduceLT, Int.reduceToNat, Int.reduceEq, Int.cast_ofNat_Int, ne_eq, not_true_eq_false, not_false_eq_true, imp_self, implies_true, true_implies, false_implies, and_self, List.length_map, List.length_drop]
    have e : s.put to b = ((0, 150), s) := by unfold Ns.put; rw [if_pos (by omega)]
    exact aRet_as (r := .tup [int 0, int 150]) rfl (by rw [e]; exact ⟨rfl, (set_id h).symm⟩)
  · have e : s.put to b = (((s.last : Int) + 1, 0), Ns.mk (s.l ++ [⟨s.last + 1, to, b⟩]) (s.last + 1)) := by unfold Ns.put; rw [if_neg (by omega)]
    simp only [go_sem, r_block, h', reduceIte, Nat.reduceEqDiff, Nat.reduceAdd, Nat.reduceMul, Nat.reduceSub, Nat.reduceLT, Nat.reduceLeDiff, Nat.le_refl, Nat.zero_le, Nat.zero_add, Nat.add_zero, Nat.mul_one, splice_zero, Int.toNat_natCast, Int.natCast_nonneg, Int.reduceLE, Int.reduceLT, Int.reduceToNat, Int.reduceEq, Int.cast_ofNat_Int, ne_eq, not_true_eq_false, not_false_eq_true, imp_self, implies_true, true_implies, false_implies, and_self, List.length_map, List.length_drop]
    rw [next64 (by omega)]
    have g1 : (σ.set p (.cells [.sl 3 (s.l.map Msg.cs), int (s.last + 1 : Nat), .v (.bool true)])) p = some (.cells [.sl 3 (s.l.map Msg.cs), int (s.last + 1 : Nat), .v (.bool true)]) := set_same
    have g2 : ∀ x o, x ≠ p → σ x = some o → (σ.set p (.cells [.sl 3 (s.l.map Msg.cs), int (s.last + 1 : Nat), .v (.bool true)])) x = some o := fun x o hx ho => by rw [set_ne hx]; exact ho
    have g3 : ∀ x, x ≠ p → (σ.set p (.cells [.sl 3 (s.l.map Msg.cs), int (s.last + 1 : Nat), .v (.bool true)])) x = σ x := fun x hx => by rw [set_ne hx]
    have hb1 : Rd 1 (σ.set p (.cells [.sl 3 (s.l.map Msg.cs), int (s.last + 1 : Nat), .v (.bool true)])) lv (byC b) := hb.imp _root_.id fun hL => hL.keep fun x o hx hown => g2 x o (by rintro rfl; exact hL.not_own h' hown) hx
    revert g1 g2 g3 hb1
    generalize σ.set p (.cells [.sl 3 (s.l.map Msg.cs), int (s.last + 1 : Nat), .v (.bool true)]) = σ1
    intro g1 g2 g3 hb1
    refine aDraw_plan [.rd 0 false, .rd 1 false, .rd 2 false, .rd 3 false, .rd 4 true, .rd 5 false, .rd 6 false, .rd 7 false, .rd 8 true, .rd 9 false, .rd 10 false, .rd 11 false, .rd 12 false, .rd 13 true, .rd 14 false, .rd 15 true, .rd 16 false, .rd 17 false, .rd 18 false, .rd 19 true, .rd 20 false, .rd 21 false, .ef 22 [4, 8, 13, 15, 19], .rd 23 false, .rd 24 false, .ef 25 [], .rd 26 false, .rd 27 false, .ef 28 []] (by kernel_rfl) (by kernel_rfl) (by kernel_rfl) ?_
    simp only [go_sem, r_block, g1, reduceIte, Nat.reduceEqDiff, Nat.reduceAdd, Nat.reduceMul, Nat.reduceSub, Nat.reduceLT, Nat.reduceLeDiff, Nat.le_refl, Nat.zero_le, Nat.zero_add, Nat.add_zero, Nat.mul_one, splice_zero, Int.toNat_natCast, Int.natCast_nonneg, Int.reduceLE, Int.reduceLT, Int.reduceToNat, Int.reduceEq, Int.cast_ofNat_Int, ne_eq, not_true_eq_false, not_false_eq_true, imp_self, implies_true, true_implies, false_implies, and_self, List.length_map, List.length_drop]
    refine sli_full (by simp) ?_
    simp only [go_sem, r_block, g1, reduceIte, Nat.reduceEqDiff, Nat.reduceAdd, Nat.reduceMul, Nat.reduceSub, Nat.reduceLT, Nat.reduceLeDiff, Nat.le_refl, Nat.zero_le, Nat.zero_add, Nat.add_zero, Nat.mul_one, splice_zero, Int.toNat_natCast, Int.natCast_nonneg, Int.reduceLE, Int.reduceLT, Int.reduceToNat, Int.reduceEq, Int.cast_ofNat_Int, ne_eq, not_true_eq_false, not_false_eq_true, imp_self, implies_true, true_implies, false_implies, and_self, List.length_map, List.length_drop]
    refine (bclone_sl hb1 (by rw [byC_len]; omega)).mono ?_
    rintro _ σ2 ⟨rfl, rfl⟩
    simp only [go_sem, r_block, g1, reduceIte, Nat.reduceEqDiff, Nat.reduceAdd, Nat.reduceMul, Nat.reduceSub, Nat.reduceLT, Nat.reduceLeDiff, Nat.le_refl, Nat.zero_le, Nat.zero_add, Nat.add_zero, Nat.mul_one, splice_zero, Int.toNat_natCast, Int.natCast_nonneg, Int.reduceLE, Int.reduceLT, Int.reduceToNat, Int.reduceEq, Int.cast_ofNat_Int, ne_eq, not_true_eq_false, not_false_eq_true, imp_self, implies_true, true_implies, false_implies, and_self, List.length_map, List.length_drop]
    refine ⟨fun k hk => sli_full (by simp) hk, aApp_by (ys := [Msg.cs ⟨(s.last + 1 : Nat), to, b⟩]) rfl (by decide) (by decide) (by decide) (LAt.full.app (by simp; omega) fun lv' σ3 hL hs => ?_)⟩
    have hno : ∀ x, ¬ Own (.fsl 3 (s.l.map Msg.cs)) x := fun x ⟨n, c, e⟩ => by cases e
    have g4 := (hs _ _ g1 (hno p))
    simp only [go_sem, r_block, g4.1, hL.one, hL.cells, reduceIte, Nat.reduceEqDiff, Nat.reduceAdd, Nat.reduceMul, Nat.reduceSub, Nat.reduceLT, Nat.reduceLeDiff, Nat.le_refl, Nat.zero_le, Nat.zero_add, Nat.add_zero, Nat.mul_one, splice_zero, Int.toNat_natCast, Int.natCast_nonneg, Int.reduceLE, Int.reduceLT, Int.reduceToNat, Int.reduceEq, Int.cast_ofNat_Int, ne_eq, not_true_eq_false, not_false_eq_true, imp_self, implies_true, true_implies, false_implies, and_self, List.length_map, List.length_drop]
    refine aRet_view (r := .tup [int (s.last + 1 : Nat), int 0]) rfl _ (σ.set p (s.put to b).2.O) (view_of (a' := .tup [int (s.last + 1 : Nat), int 0]) (sv_set set_same ?_ fun x q hx hq => ?_) (.refl _)) ?_
    · rw [e]
      have hL' := hL.keep (σ' := σ3.set p (.cells [lv', int (s.last + 1 : Nat), .v (.bool true)])) fun x o hx ho => by rw [set_ne (by rintro rfl; exact g4.2 ho)]; exact hx
      have e3 : ((s.l ++ [Msg.mk ((s.last : Int) + 1) to b]).map Msg.cs) = s.l.map Msg.cs ++ [Msg.cs ⟨(s.last + 1 : Nat), to, b⟩] := by simp
      unfold Ns.O nO
      simp only [e3]
      refine vws_cons (hL'.vw_same fun x hx => ?_) (vws_refl _)
      have hxp : x ≠ p := by rintro rfl; exact g4.2 hx
      rw [set_ne hxp]
      cases hq : σ x with
      | none => rfl
      | some o => exact absurd hx (hs x o (g2 x o hxp hq) (hno x)).2
    · rw [set_ne hx]
      exact (hs x q (g2 x q hx hq) (hno x)).1
    · rw [e]; exact ⟨by simp, rfl⟩

theorem send_at (h : σ p = some s.O) (ho : s.Ok) (to : ByteArray) {lv : AV} {b : Byt} (hb : Rd 1 σ lv (byC b)) : AT Try.prog 11 [ptr p, str to, lv] σ fun r σ' => r = .tup [int (s.send to b).1.1, int (s.send to b).1.2] ∧ σ' = σ.set p (s.send to b).2.O := by
  refine AT.of_body Try.func11 rfl (by decide) (by kernel_rfl) (by kernel_rfl) (Nat.le_of_ble_eq_true rfl) ?_
  have hlen : ∀ {K : AV → Prop}, aLen (tk Try.prog 22) lv K = K (int b.length) := fun {K} => by
    rw [tk22]
    rcases hb with rfl | hb
    · rw [← byC_len b]; rfl
    · rw [hb.len, byC_len]
  rw [tk22] at hlen
  simp only [go_sem, r_block, reduceIte, Nat.reduceEqDiff, Nat.reduceAdd, Nat.reduceMul, Nat.reduceSub, Nat.reduceLT, Nat.reduceLeDiff, Nat.le_refl, Nat.zero_le, Nat.zero_add, Nat.add_zero, Nat.mul_one, splice_zero, Int.toNat_natCast, Int.natCast_nonneg, Int.reduceLE, Int.reduceLT, Int.reduceToNat, Int.reduceEq, Int.cast_ofNat_Int, ne_eq, not_true_eq_false, not_false_eq_true, imp_self, implies_true, true_implies, false_implies, and_self, List.length_map, List.length_drop]
  refine (none_at h).mono ?_
  rintro _ σ ⟨rfl, rfl⟩
  simp only [go_sem, r_block, hlen, reduceIte, Nat.reduceEqDiff, Nat.reduceAdd, Nat.reduceMul, Nat.reduceSub, Nat.reduceLT, Nat.reduceLeDiff, Nat.le_refl, Nat.zero_le, Nat.zero_add, Nat.add_zero, Nat.mul_one, splice_zero, Int.toNat_natCast, Int.natCast_nonneg, Int.reduceLE, Int.reduceLT, Int.reduceToNat, Int.reduceEq, Int.cast_ofNat_Int, ne_eq, not_true_eq_false, not_false_eq_true, imp_self, implies_true, true_implies, false_implies, and_self, List.length_map, List.length_drop]
  refine aIf_by (fun k1 => ?_) (fun k1 => ?_)
  · simp only [go_sem, r_block, reduceIte, Nat.reduceEqDiff, Nat.reduceAdd, Nat.reduceMul, Nat.reduceSub, Nat.reduceLT, Nat.reduceLeDiff, Nat.le_refl, Nat.zero_le, Nat.zero_add, Nat.add_zero, Nat.mul_one, splice_zero, Int.toNat_natCast, Int.natCast_nonneg, Int.reduceLE, Int.reduceLT, Int.reduceToNat, Int.reduceEq, Int.cast_ofNat_Int, ne_eq, not_true_eq_false, not_false_eq_true, imp_self, implies_true, true_implies, false_implies, and_self, List.length_map, List.length_drop]
    have e : s.send to b = ((0, 3), s) := by unfold Ns.send; rw [if_pos (by omega)]
    exact aRet_as (r := .tup [int 0, int 3]) rfl (by rw [e]; exact ⟨rfl, (set_id h).symm⟩)
  · simp only [go_sem, r_block, reduceIte, Nat.reduceEqDiff, Nat.reduceAdd, Nat.reduceMul, Nat.reduceSub, Nat.reduceLT, Nat.reduceLeDiff, Nat.le_refl, Nat.zero_le, Nat.zero_add, Nat.add_zero, Nat.mul_one, splice_zero, Int.toNat_natCast, Int.natCast_nonneg, Int.reduceLE, Int.reduceLT, Int.reduceToNat, Int.reduceEq, Int.cast_ofNat_Int, ne_eq, not_true_eq_false, not_false_eq_true, imp_self, implies_true, true_implies, false_implies, and_self, List.length_map, List.length_drop]
    have e : s.send to b = s.put to b := by unfold Ns.send; rw [if_neg (by omega)]
    refine (put_at h ho to hb (by omega)).mono ?_
    rintro _ σ2 ⟨rfl, rfl⟩
    simp only [go_sem, r_block, reduceIte, Nat.reduceEqDiff, Nat.reduceAdd, Nat.reduceMul, Nat.reduceSub, Nat.reduceLT, Nat.reduceLeDiff, Nat.le_refl, Nat.zero_le, Nat.zero_add, Nat.add_zero, Nat.mul_one, splice_zero, Int.toNat_natCast, Int.natCast_nonneg, Int.reduceLE, Int.reduceLT, Int.reduceToNat, Int.reduceEq, Int.cast_ofNat_Int, ne_eq, not_true_eq_false, not_false_eq_true, imp_self, implies_true, true_implies, false_implies, and_self, List.length_map, List.length_drop]
    exact aRet_as (r := .tup [int (s.put to b).1.1, int (s.put to b).1.2]) rfl (by rw [e]; exact ⟨rfl, rfl⟩)

theorem double_at (h : σ p = some s.O) (ho : s.Ok) (k : Int) : AT Try.prog 12 [ptr p, int k] σ fun r σ' => r = .tup [int (s.double k).1.1, int (s.double k).1.2] ∧ σ' = σ.set p (s.double k).2.O := by
  refine AT.of_body Try.func12 rfl (by decide) (by kernel_rfl) (by kernel_rfl) (Nat.le_of_ble_eq_true rfl) ?_
  simp only [go_sem, r_block, reduceIte, Nat.reduceEqDiff, Nat.reduceAdd, Nat.reduceMul, Nat.reduceSub, Nat.reduceLT, Nat.reduceLeDiff, Nat.le_refl, Nat.zero_le, Nat.zero_add, Nat.add_zero, Nat.mul_one, splice_zero, Int.toNat_natCast, Int.natCast_nonneg, Int.reduceLE, Int.reduceLT, Int.reduceToNat, Int.reduceEq, Int.cast_ofNat_Int, ne_eq, not_true_eq_false, not_false_eq_true, imp_self, implies_true, true_implies, false_implies, and_self, List.length_map, List.length_drop]
  refine (none_at h).mono ?_
  rintro _ σ ⟨rfl, rfl⟩
  simp only [go_sem, r_block, reduceIte, Nat.reduceEqDiff, Nat.reduceAdd, Nat.reduceMul, Nat.reduceSub, Nat.reduceLT, Nat.reduceLeDiff, Nat.le_refl, Nat.zero_le, Nat.zero_add, Nat.add_zero, Nat.mul_one, splice_zero, Int.toNat_natCast, Int.natCast_nonneg, Int.reduceLE, Int.reduceLT, Int.reduceToNat, Int.reduceEq, Int.cast_ofNat_Int, ne_eq, not_true_eq_false, not_false_eq_true, imp_self, implies_true, true_implies, false_implies, and_self, List.length_map, List.length_drop]
  refine (find_at h ho k).mono ?_
  rintro _ σ ⟨rfl, ⟨i, hi, rfl, e, _⟩ | ⟨i, rfl, e⟩⟩
  · have ed : s.double k = s.put s.l[i].to s.l[i].b := by unfold Ns.double; rw [e]
    have h' := h
    unfold Ns.O nO at h'
    have eg := msgs_get hi
    simp only [go_sem, r_block, reduceIte, Nat.reduceEqDiff, Nat.reduceAdd, Nat.reduceMul, Nat.reduceSub, Nat.reduceLT, Nat.reduceLeDiff, Nat.le_refl, Nat.zero_le, Nat.zero_add, Nat.add_zero, Nat.mul_one, splice_zero, Int.toNat_natCast, Int.natCast_nonneg, Int.reduceLE, Int.reduceLT, Int.reduceToNat, Int.reduceEq, Int.cast_ofNat_Int, ne_eq, not_true_eq_false, not_false_eq_true, imp_self, implies_true, true_implies, false_implies, and_self, List.length_map, List.length_drop]
    refine aDraw_plan [.rd 0 false, .rd 1 false, .rd 2 false, .rd 3 false, .rd 4 true, .rd 5 false, .rd 6 false, .rd 7 false, .rd 8 true, .rd 9 false, .rd 10 false, .rd 11 false, .rd 12 true, .rd 13 false, .rd 14 false, .rd 15 false, .rd 16 true, .ef 17 [], .rd 18 false, .rd 19 false, .rd 20 false, .rd 21 false] (by kernel_rfl) (by kernel_rfl) (by kernel_rfl) ?_
    simp only [go_sem, r_block, h', eg, Msg.len, Msg.dr1, Msg.dr2, reduceIte, Nat.reduceEqDiff, Nat.reduceAdd, Nat.reduceMul, Nat.reduceSub, Nat.reduceLT, Nat.reduceLeDiff, Nat.le_refl, Nat.zero_le, Nat.zero_add, Nat.add_zero, Nat.mul_one, splice_zero, Int.toNat_natCast, Int.natCast_nonneg, Int.reduceLE, Int.reduceLT, Int.reduceToNat, Int.reduceEq, Int.cast_ofNat_Int, ne_eq, not_true_eq_false, not_false_eq_true, imp_self, implies_true, true_implies, false_implies, and_self, List.length_map, List.length_drop]
    have hm : s.l[i] ∈ s.l := List.getElem_mem hi
    refine ⟨by omega, by omega, (put_at h ho _ .sl (ho.by_ _ hm)).mono ?_⟩
    rintro _ σ2 ⟨rfl, rfl⟩
    simp only [go_sem, r_block, reduceIte, Nat.reduceEqDiff, Nat.reduceAdd, Nat.reduceMul, Nat.reduceSub, Nat.reduceLT, Nat.reduceLeDiff, Nat.le_refl, Nat.zero_le, Nat.zero_add, Nat.add_zero, Nat.mul_one, splice_zero, Int.toNat_natCast, Int.natCast_nonneg, Int.reduceLE, Int.reduceLT, Int.reduceToNat, Int.reduceEq, Int.cast_ofNat_Int, ne_eq, not_true_eq_false, not_false_eq_true, imp_self, implies_true, true_implies, false_implies, and_self, List.length_map, List.length_drop]
    exact aRet_as (r := .tup [int (s.put s.l[i].to s.l[i].b).1.1, int (s.put s.l[i].to s.l[i].b).1.2]) rfl (by rw [ed]; exact ⟨rfl, rfl⟩)
  · simp only [go_sem, r_block, reduceIte, Nat.reduceEqDiff, Nat.reduceAdd, Nat.reduceMul, Nat.reduceSub, Nat.reduceLT, Nat.reduceLeDiff, Nat.le_refl, Nat.zero_le, Nat.zero_add, Nat.add_zero, Nat.mul_one, splice_zero, Int.toNat_natCast, Int.natCast_nonneg, Int.reduceLE, Int.reduceLT, Int.reduceToNat, Int.reduceEq, Int.cast_ofNat_Int, ne_eq, not_true_eq_false, not_false_eq_true, imp_self, implies_true, true_implies, false_implies, and_self, List.length_map, List.length_drop]
    have ed : s.double k = ((0, 220), s) := by unfold Ns.double; rw [e]
    exact aRet_as (r := .tup [int 0, int 220]) rfl (by rw [ed]; exact ⟨rfl, (set_id h).symm⟩)
end
end Go.Proofs.Ytebmjajdkhhhbaa
