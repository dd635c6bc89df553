/-
  The program logic, part 24: runs that are reckoned: numbers, texts, comparisons, slices, conversions.
  Conditions: none (a library of definitions and lemmas).
-/
import Derived.Test.YthdfpankebjleaaAvRunD
set_option linter.unusedVariables false
set_option linter.unusedSimpArgs false
namespace Go.Av
open Go Go.RowKit

/-! ### Numbers -/
def lim : IntKind → Nat
  | .i8 | .u8 => 256
  | .i16 | .u16 => 65536
  | .i32 | .u32 => 4294967296
  | .i64 | .u64 => 18446744073709551616
def half : IntKind → Nat
  | .i8 => 128
  | .u8 => 256
  | .i16 => 32768
  | .u16 => 65536
  | .i32 => 2147483648
  | .u32 => 4294967296
  | .i64 => 9223372036854775808
  | .u64 => 18446744073709551616
def wr (k : IntKind) (r : Nat) : Int := match Nat.blt r (half k) with
  | true => .ofNat r
  | false => Int.subNatNat r (lim k)
def ewrap (k : IntKind) : Int → Int
  | .ofNat m => wr k (m % lim k)
  | .negSucc m => wr k (lim k - 1 - m % lim k)
theorem wr_eq (k : IntKind) (r : Nat) (n : Int) (h : (r : Int) = n % (lim k : Int)) : wr k r = k.wrap n := by
  unfold wr
  rw [IntKind.wrap]
  cases hb : Nat.blt r (half k) with
  | true =>
    rw [blt_iff] at hb
    simp only
    cases k <;> simp only [half, lim, IntKind.bits, IntKind.signed, Int.ofNat_eq_natCast] at hb h ⊢ <;> simp <;> omega
  | false =>
    have hb' : ¬ r < half k := fun h => by rw [← blt_iff, hb] at h; cases h
    simp only [Int.subNatNat_eq_coe]
    cases k <;> simp only [half, lim, IntKind.bits, IntKind.signed] at hb' h ⊢ <;> simp <;> omega
theorem ewrap_eq (k : IntKind) (n : Int) : ewrap k n = k.wrap n := by
  cases n with
  | ofNat m =>
    refine wr_eq k _ _ ?_
    simp
  | negSucc m =>
    refine wr_eq k _ _ ?_
    have : 0 < lim k := by cases k <;> decide
    have h2 : m % lim k < lim k := Nat.mod_lt _ this
    have e : (Int.negSucc m) % (lim k : Int) = (lim k : Int) - 1 - ((m % lim k : Nat) : Int) := by
      rw [Int.negSucc_emod _ (by omega)]
      simp
    rw [e]
    omega
def ieq : Int → Int → Bool
  | .ofNat a, .ofNat b => Nat.beq a b
  | .negSucc a, .negSucc b => Nat.beq a b
  | _, _ => false
def ilt : Int → Int → Bool
  | .ofNat a, .ofNat b => Nat.blt a b
  | .negSucc a, .negSucc b => Nat.blt b a
  | .negSucc _, .ofNat _ => true
  | .ofNat _, .negSucc _ => false
theorem bool_dec {b : Bool} {p : Prop} [Decidable p] (h : b = true ↔ p) : b = decide p := by
  cases b with
  | true => exact (decide_eq_true (h.1 rfl)).symm
  | false => exact (decide_eq_false fun hp => by have := h.2 hp; cases this).symm
theorem ieq_eq (a b : Int) : ieq a b = decide (a = b) := bool_dec (by
  cases a <;> cases b <;> simp only [ieq, beq_iff, Int.ofNat_eq_natCast, Bool.false_eq_true, false_iff, true_iff] <;> omega)
theorem ilt_eq (a b : Int) : ilt a b = decide (a < b) := bool_dec (by
  cases a <;> cases b <;> simp only [ilt, blt_iff, Int.ofNat_eq_natCast, Bool.false_eq_true, false_iff, true_iff] <;> omega)
theorem not_ilt (a b : Int) : (!ilt a b) = decide (b ≤ a) := by
  rw [ilt_eq]
  by_cases h : a < b
  · rw [decide_eq_true h, decide_eq_false (by omega)]; rfl
  · rw [decide_eq_false h, decide_eq_true (by omega)]; rfl
def eInt (op : BinOp) (k : IntKind) (x y : Int) : Option Value := match op with
  | .add => some (.int k (ewrap k (x + y)))
  | .sub => some (.int k (ewrap k (x - y)))
  | .mul => some (.int k (ewrap k (x * y)))
  | .quo => gd (!ieq y 0) (some (.int k (ewrap k (x.tdiv y))))
  | .rem => gd (!ieq y 0) (some (.int k (x.tmod y)))
  | .eql => some (.bool (ieq x y))
  | .neq => some (.bool (!ieq x y))
  | .lss => some (.bool (ilt x y))
  | .leq => some (.bool (!ilt y x))
  | .gtr => some (.bool (ilt y x))
  | .geq => some (.bool (!ilt x y))
  | .shl => match y with
    | .ofNat m => some (.int k (ewrap k (x * ((2 ^ min m k.bits : Nat) : Int))))
    | .negSucc _ => none
  | .shr => match y with
    | .ofNat m => some (.int k (x.fdiv ((2 ^ min m k.bits : Nat) : Int)))
    | .negSucc _ => none
  | _ => none
section
variable {K : AV → Prop}
theorem eInt_ok {op : BinOp} {k : IntKind} {x y : Int} {v : Value} (he : eInt op k x y = some v) (hk : K (.v v)) : aInt op k x y K := by
  cases op with
  | add => simp only [eInt, Option.some.injEq] at he; subst he; rw [ewrap_eq] at hk; exact hk
  | sub => simp only [eInt, Option.some.injEq] at he; subst he; rw [ewrap_eq] at hk; exact hk
  | mul => simp only [eInt, Option.some.injEq] at he; subst he; rw [ewrap_eq] at hk; exact hk
  | quo =>
    simp only [eInt, gd_some, ieq_eq, Option.some.injEq] at he
    obtain ⟨h1, rfl⟩ := he
    rw [ewrap_eq] at hk
    exact ⟨by simpa using h1, hk⟩
  | rem =>
    simp only [eInt, gd_some, ieq_eq, Option.some.injEq] at he
    obtain ⟨h1, rfl⟩ := he
    exact ⟨by simpa using h1, hk⟩
  | eql => simp only [eInt, Option.some.injEq] at he; subst he; rw [ieq_eq] at hk; exact hk
  | neq => simp only [eInt, Option.some.injEq] at he; subst he; rw [ieq_eq] at hk; simpa only [aInt, ne_eq, decide_not] using hk
  | lss => simp only [eInt, Option.some.injEq] at he; subst he; rw [ilt_eq] at hk; exact hk
  | leq => simp only [eInt, Option.some.injEq] at he; subst he; rw [not_ilt] at hk; exact hk
  | gtr => simp only [eInt, Option.some.injEq] at he; subst he; rw [ilt_eq] at hk; exact hk
  | geq => simp only [eInt, Option.some.injEq] at he; subst he; rw [not_ilt] at hk; exact hk
  | shl =>
    simp only [eInt] at he
    cases y with
    | ofNat m =>
      simp only [Option.some.injEq] at he; subst he; rw [ewrap_eq] at hk
      simp only [aInt, Int.ofNat_eq_natCast, Int.toNat_natCast]
      refine ⟨by omega, ?_⟩
      simpa using hk
    | negSucc m => cases he
  | shr =>
    simp only [eInt] at he
    cases y with
    | ofNat m =>
      simp only [Option.some.injEq] at he; subst he
      simp only [aInt, Int.ofNat_eq_natCast, Int.toNat_natCast]
      refine ⟨by omega, ?_⟩
      simpa using hk
    | negSucc m => cases he
  | _ => cases he
/-! ### Texts -/
def beqB : List UInt8 → List UInt8 → Bool
  | [], [] => true
  | a :: x, b :: y => match Nat.beq a.toNat b.toNat with
    | true => beqB x y
    | false => false
  | _, _ => false
def bltB : List UInt8 → List UInt8 → Bool
  | _, [] => false
  | [], _ :: _ => true
  | a :: x, b :: y => match Nat.blt a.toNat b.toNat with
    | true => true
    | false => match Nat.beq a.toNat b.toNat with
      | true => bltB x y
      | false => false
theorem beqB_iff : ∀ {x y : List UInt8}, beqB x y = true ↔ x = y
  | [], [] => by simp [beqB]
  | [], _ :: _ => by simp [beqB]
  | _ :: _, [] => by simp [beqB]
  | a :: x, b :: y => by
    simp only [beqB]
    cases hb : Nat.beq a.toNat b.toNat with
    | true =>
      rw [beq_iff] at hb
      have hab : a = b := UInt8.toNat_inj.1 hb
      simp only [beqB_iff (x := x), hab, List.cons.injEq, true_and]
    | false =>
      have hab : a ≠ b := fun e => by subst e; rw [Nat.beq_refl] at hb; cases hb
      simp [hab]
theorem bltB_eq : ∀ (x y : List UInt8), bltB x y = Op.bytesLess x y
  | [], [] => by simp only [bltB, Op.bytesLess]
  | _ :: _, [] => by simp only [bltB, Op.bytesLess]
  | [], _ :: _ => by simp only [bltB, Op.bytesLess]
  | a :: x, b :: y => by
    simp only [bltB, Op.bytesLess]
    cases hl : Nat.blt a.toNat b.toNat with
    | true =>
      rw [blt_iff] at hl
      have : a < b := UInt8.lt_iff_toNat_lt.2 hl
      simp [this]
    | false =>
      have hl' : ¬ a < b := fun h => by
        have := blt_iff.2 (UInt8.lt_iff_toNat_lt.1 h)
        rw [hl] at this; cases this
      cases hb : Nat.beq a.toNat b.toNat with
      | true =>
        rw [beq_iff] at hb
        have hab : a = b := UInt8.toNat_inj.1 hb
        simp [hl', hab, bltB_eq x y]
      | false =>
        have hab : a ≠ b := fun e => by subst e; rw [Nat.beq_refl] at hb; cases hb
        simp [hl', hab]
theorem ba_eq {x y : ByteArray} : x = y ↔ x.data.toList = y.data.toList := by
  cases x; cases y
  simp [ByteArray.mk.injEq, Array.toList_inj]
theorem ba_list (x : ByteArray) : x.toList = x.data.toList := by
  exact ByteArray.toList_eq x
def eStr (op : BinOp) (x y : List UInt8) : Option Value := match op with
  | .add => gd (Nat.ble (x.length + y.length) 9223372036854775807) (some (.string ⟨(x ++ y).toArray⟩))
  | .eql => some (.bool (beqB x y))
  | .neq => some (.bool (!beqB x y))
  | .lss => some (.bool (bltB x y))
  | .leq => some (.bool (bltB x y || beqB x y))
  | .gtr => some (.bool (!(bltB x y || beqB x y)))
  | .geq => some (.bool (!bltB x y))
  | _ => none
theorem beqB_dec (x y : ByteArray) : beqB x.data.toList y.data.toList = decide (x = y) := bool_dec (by rw [beqB_iff, ← ba_eq])
theorem ba_app (x y : ByteArray) : (⟨(x.data.toList ++ y.data.toList).toArray⟩ : ByteArray) = x ++ y := ba_eq.2 (by simp)
theorem eStr_ok {op : BinOp} {x y : ByteArray} {v : Value} (he : eStr op x.data.toList y.data.toList = some v) (hk : K (.v v)) : aStr op x y K := by
  cases op with
  | add =>
    simp only [eStr, gd_some, ble_iff, Option.some.injEq] at he
    obtain ⟨h1, rfl⟩ := he
    rw [ba_app] at hk
    exact ⟨by simpa only [Array.length_toList, ByteArray.size] using h1, hk⟩
  | eql => simp only [eStr, Option.some.injEq] at he; subst he; rw [beqB_dec] at hk; exact hk
  | neq => simp only [eStr, Option.some.injEq] at he; subst he; rw [beqB_dec] at hk; simpa only [aStr, ne_eq, decide_not] using hk
  | lss => simp only [eStr, Option.some.injEq] at he; subst he; rw [bltB_eq] at hk; simpa only [aStr, ba_list] using hk
  | leq => simp only [eStr, Option.some.injEq] at he; subst he; rw [bltB_eq, beqB_dec] at hk; simpa only [aStr, ba_list] using hk
  | gtr => simp only [eStr, Option.some.injEq] at he; subst he; rw [bltB_eq, beqB_dec] at hk; simpa only [aStr, ba_list] using hk
  | geq => simp only [eStr, Option.some.injEq] at he; subst he; rw [bltB_eq] at hk; simpa only [aStr, ba_list] using hk
  | _ => cases he
end

/-! ### Types -/
structure TE where
  k : TK
  sl : Bool
  ptr : Bool
  fn : Bool
  mp : Bool
  bl : Bool
  cc : Bool
  lv : Option (List Leaf)
structure TeOk (P : Program) (t : TypeId) (e : TE) : Prop where
  k : tk P t = some e.k
  sl : isSl P t = e.sl
  ptr : isPtr P t = e.ptr
  fn : isFn P t = e.fn
  mp : isMapT P t = e.mp
  bl : isBool P t = e.bl
  cc : isConc P t = e.cc
  lv : ∀ ls, e.lv = some ls → aggT P t = true ∧ P.eqGuardType P.depth t = false ∧ leaves P 9 t = some ls

/-! ### Comparisons -/
def valsR : List RS → Option (List Value)
  | [] => some []
  | .v x :: l => match valsR l with
    | some vs => some (x :: vs)
    | none => none
  | _ => none
def eqLeafF : Value → Value → Bool
  | .bool a, .bool b => match a with
    | true => b
    | false => !b
  | .int _ a, .int _ b => ieq a b
  | .string a, .string b => beqB a.data.toList b.data.toList
  | _, _ => true
def eqLF : List Value → List Value → Bool
  | x :: xs, y :: ys => match eqLeafF x y with
    | true => eqLF xs ys
    | false => false
  | _, _ => true
def fitF : List Leaf → List Value → Bool
  | [], [] => true
  | .b :: ls, .bool _ :: vs => fitF ls vs
  | .s :: ls, .string _ :: vs => fitF ls vs
  | .i k :: ls, .int k' _ :: vs => match decide (k = k') with
    | true => fitF ls vs
    | false => false
  | _, _ => false
theorem eqLeafF_eq (x y : Value) : eqLeafF x y = eqLeaf x y := by
  cases x <;> cases y <;> try rfl
  · rename_i a b; cases a <;> cases b <;> rfl
  · simp only [eqLeafF, eqLeaf, ieq_eq]
  · simp only [eqLeafF, eqLeaf, beqB_dec]
theorem eqLF_eq : ∀ (xs ys : List Value), eqLF xs ys = eqL xs ys
  | [], [] => rfl
  | [], _ :: _ => rfl
  | _ :: _, [] => rfl
  | x :: xs, y :: ys => by
    simp only [eqLF, eqL, eqLeafF_eq, eqLF_eq xs ys]
    cases eqLeaf x y <;> rfl
theorem fitF_ok : ∀ {ls : List Leaf} {vs : List Value}, fitF ls vs = true → Fit ls vs = true
  | [], [], _ => rfl
  | .b :: ls, .bool _ :: vs, h => by simp only [fitF] at h; simp [Fit, Leaf.ok, fitF_ok h]
  | .s :: ls, .string _ :: vs, h => by simp only [fitF] at h; simp [Fit, Leaf.ok, fitF_ok h]
  | .i k :: ls, .int k' _ :: vs, h => by
    simp only [fitF] at h
    split at h
    · rename_i hk; simp [Fit, Leaf.ok, fitF_ok h, hk]
    · cases h
  | [], _ :: _, h => by simp [fitF] at h
  | l :: _, [], h => by cases l <;> simp [fitF] at h
  | .b :: _, .int _ _ :: _, h => by simp [fitF] at h
  | .b :: _, .string _ :: _, h => by simp [fitF] at h
  | .s :: _, .bool _ :: _, h => by simp [fitF] at h
  | .s :: _, .int _ _ :: _, h => by simp [fitF] at h
  | .i _ :: _, .bool _ :: _, h => by simp [fitF] at h
  | .i _ :: _, .string _ :: _, h => by simp [fitF] at h
section
variable {P : Program} {σ0 σ : St} {c c' : Cx} {h h' : Sto} {n : Nat} {fr : Tr RS} {v : RS} {K : AV → Prop} {k : AV → St → Prop}
theorem valsR_ok : ∀ {l : List RS} {vs : List Value}, valsR l = some vs → vals (RS.ivs c l) = some vs
  | [], vs, he => by simp only [valsR, Option.some.injEq] at he; subst he; rfl
  | .v x :: l, vs, he => by
    simp only [valsR] at he
    split at he
    · rename_i vs' hv
      injection he with he; subst he
      simp only [RS.ivs, RS.iv, RS.vv, vals, valsR_ok hv, Option.map_some]
    · cases he
def eEqv (neg : Bool) (te : TE) : RS → RS → Option Bool
  | .v (.bool a), .v (.bool b) => gd te.bl (some (match neg, a with | true, true => !b | true, false => b | false, true => b | false, false => !b))
  | .v (.pointer p), .v (.pointer none) => gd te.ptr (some (match neg with | true => p.isSome | false => p.isNone))
  | .ptr _ _, .v (.pointer none) => gd te.ptr (some neg)
  | .v (.pointer none), .ptr _ _ => gd te.ptr (some neg)
  | .fp _, .v (.pointer none) => gd te.ptr (some neg)
  | .rp _ _ _ _, .v (.pointer none) => gd te.ptr (some neg)
  | .v (.slice a _ _), .v (.slice none 0 0) => gd te.sl (some (match neg with | true => a.isSome | false => a.isNone))
  | .row _ _, .v (.slice none 0 0) => gd te.sl (some neg)
  | .part _ _ _ _, .v (.slice none 0 0) => gd te.sl (some neg)
  | .mt _ _ _, .v (.slice none 0 0) => gd te.sl (some neg)
  | .sl _ (_ :: _), .v (.slice none 0 0) => gd te.sl (some neg)
  | .fsl _ (_ :: _), .v (.slice none 0 0) => gd te.sl (some neg)
  | .v (.map m), .v (.map none) => gd te.mp (some (match neg with | true => m.isSome | false => m.isNone))
  | .mp _, .v (.map none) => gd te.mp (some neg)
  | .fn _ _ _, .v .nilFunc => gd te.fn (some neg)
  | .yld _, .v .nilFunc => gd te.fn (some neg)
  | .v .nilFunc, .v .nilFunc => gd te.fn (some (!neg))
  | _, _ => none
def eAgg (neg : Bool) (te : TE) (xs ys : List RS) : Option Bool := match te.lv with
  | some ls => match valsR xs with
    | some vs => match valsR ys with
      | some ws => gd (fitF ls vs && fitF ls ws) (some (match neg with | true => !eqLF vs ws | false => eqLF vs ws))
      | none => none
    | none => none
  | none => none
def eEq2 (neg : Bool) (te : TE) : RS → RS → Option Bool
  | .agg xs, .agg ys => eAgg neg te xs ys
  | x, y => eEqv neg te x y
def eBin (op : BinOp) (te : TE) : RS → RS → Option RS
  | .v (.int k a), .v (.int k' b) => match decide (k = k') with
    | true => match eInt op k a b with
      | some v => some (.v v)
      | none => none
    | false => none
  | .v (.string a), .v (.string b) => match eStr op a.data.toList b.data.toList with
    | some v => some (.v v)
    | none => none
  | x, y => match op with
    | .eql => match eEq2 false te x y with
      | some b => some (.v (.bool b))
      | none => none
    | .neq => match eEq2 true te x y with
      | some b => some (.v (.bool b))
      | none => none
    | _ => none
theorem eEqv_ok {t : TypeId} {te : TE} (ht : TeOk P t te) {neg : Bool} {x y : RS} {b : Bool} (he : eEqv neg te x y = some b) (hk : K (.v (.bool b))) :
    (∀ op, op = (if neg then BinOp.neq else .eql) → aBin P op t (x.iv c) (y.iv c) K) := by
  rintro op rfl
  unfold eEqv at he
  split at he <;> first
    | (cases he; done)
    | (rw [gd_some] at he
       obtain ⟨hf, he⟩ := he
       injection he with he
       subst he
       cases neg <;> first
         | (refine ⟨ht.bl.trans hf, ?_⟩; rename_i a b; cases a <;> cases b <;> exact hk)
         | exact ⟨ht.ptr.trans hf, hk⟩
         | exact ⟨ht.sl.trans hf, hk⟩
         | exact ⟨ht.mp.trans hf, hk⟩
         | exact ⟨ht.fn.trans hf, hk⟩
         | (refine ⟨ht.sl.trans hf, fun _ => hk, fun h => ?_⟩; simp only [RS.ivss] at h; cases h))
theorem eAgg_ok {t : TypeId} {te : TE} (ht : TeOk P t te) {neg : Bool} {xs ys : List RS} {b : Bool} (he : eAgg neg te xs ys = some b) (hk : K (.v (.bool b))) : aAgg P neg t (.agg (RS.ivs c xs)) (.agg (RS.ivs c ys)) K := by
  unfold eAgg at he
  split at he
  · rename_i ls hls
    split at he
    · rename_i vs hvs
      split at he
      · rename_i ws hws
        rw [gd_some, Bool.and_eq_true] at he
        obtain ⟨hf, he⟩ := he
        injection he with he
        subst he
        obtain ⟨h1, h2, h3⟩ := ht.lv ls hls
        refine ⟨h1, h2, _, _, vs, ws, ls, rfl, rfl, valsR_ok hvs, valsR_ok hws, h3, fitF_ok hf.1, fitF_ok hf.2, ?_⟩
        rw [eqLF_eq] at hk
        cases neg <;> exact hk
      · cases he
    · cases he
  · cases he
theorem eEq2_ok {t : TypeId} {te : TE} (ht : TeOk P t te) {neg : Bool} {x y : RS} {b : Bool} (he : eEq2 neg te x y = some b) (hk : K (.v (.bool b))) :
    (∀ op, op = (if neg then BinOp.neq else .eql) → aBin P op t (x.iv c) (y.iv c) K) := by
  unfold eEq2 at he
  split at he
  · rintro op rfl
    have := eAgg_ok (c := c) ht he hk
    cases neg <;> exact this
  · exact eEqv_ok ht he hk
theorem eBin_ok {op : BinOp} {t : TypeId} {te : TE} (ht : TeOk P t te) {x y : RS} (he : eBin op te x y = some v) (hk : K (v.iv c)) : aBin P op t (x.iv c) (y.iv c) K := by
  unfold eBin at he
  split at he
  · rename_i k a k' b
    split at he
    · rename_i hkk
      have hkk := of_decide_eq_true hkk
      subst hkk
      split at he
      · rename_i w hw
        injection he with he; subst he
        simp only [RS.iv, RS.vv] at hk ⊢
        exact ⟨rfl, eInt_ok hw hk⟩
      · cases he
    · cases he
  · rename_i a b
    split at he
    · rename_i w hw
      injection he with he; subst he
      simp only [RS.iv, RS.vv] at hk ⊢
      exact eStr_ok hw hk
    · cases he
  · split at he
    · split at he
      · rename_i b hb
        injection he with he; subst he
        simp only [RS.iv, RS.vv] at hk
        exact eEq2_ok ht hb hk _ rfl
      · cases he
    · split at he
      · rename_i b hb
        injection he with he; subst he
        simp only [RS.iv, RS.vv] at hk
        exact eEq2_ok ht hb hk _ rfl
      · cases he
    · cases he
theorem eBin_wf {op : BinOp} {te : TE} {x y : RS} (he : eBin op te x y = some v) : v.wf n := by
  unfold eBin at he
  split at he
  · split at he
    · split at he
      · injection he with he; subst he; simp only [RS.wf]
      · cases he
    · cases he
  · split at he
    · injection he with he; subst he; simp only [RS.wf]
    · cases he
  · split at he
    · split at he
      · injection he with he; subst he; simp only [RS.wf]
      · cases he
    · split at he
      · injection he with he; subst he; simp only [RS.wf]
      · cases he
    · cases he
def eUn (op : UnOp) (x : RS) : Option RS := match op, x with
  | .not, .v (.bool b) => some (.v (.bool (!b)))
  | .neg, .v (.int ik m) => some (.v (.int ik (ewrap ik (0 - m))))
  | _, _ => none
theorem eUn_ok {op : UnOp} {x : RS} (he : eUn op x = some v) (hk : K (v.iv c)) : aUn op (x.iv c) K := by
  unfold eUn at he
  split at he
  · injection he with he; subst he; simpa only [RS.iv, RS.vv, aUn] using hk
  · injection he with he; subst he; rw [ewrap_eq] at hk; simpa only [RS.iv, RS.vv, aUn] using hk
  · cases he
theorem eUn_wf {op : UnOp} {x : RS} (he : eUn op x = some v) : v.wf n := by
  unfold eUn at he
  split at he
  · injection he with he; subst he; simp only [RS.wf]
  · injection he with he; subst he; simp only [RS.wf]
  · cases he
end
end Go.Av
