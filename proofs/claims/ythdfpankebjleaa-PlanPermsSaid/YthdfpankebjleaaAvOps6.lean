/-
  The program logic, part 7: arithmetic, comparisons, conversions.
  Conditions: none (a library of definitions and lemmas over any program).
-/
import Derived.Test.YthdfpankebjleaaAvFlat
set_option linter.unusedVariables false
set_option linter.unusedSimpArgs false
namespace Go.Av
open Go Go.RowKit

def isPtr (P : Program) (t : TypeId) : Bool := match P.underlying t with | some (.pointer _) => true | _ => false
def isFn (P : Program) (t : TypeId) : Bool := match P.underlying t with | some (.func _ _ _) => true | _ => false
def isSl (P : Program) (t : TypeId) : Bool := match P.underlying t with | some (.slice _) => true | _ => false
def isMapT (P : Program) (t : TypeId) : Bool := match P.underlying t with | some (.map _ _) => true | _ => false
def isBool (P : Program) (t : TypeId) : Bool := match P.underlying t with | some .bool => true | _ => false

/-- Two whole numbers of one kind. -/
def aInt (op : BinOp) (k : IntKind) (x y : Int) (K : AV → Prop) : Prop :=
  match op with
  | .add => K (.v (.int k (k.wrap (x + y))))
  | .sub => K (.v (.int k (k.wrap (x - y))))
  | .mul => K (.v (.int k (k.wrap (x * y))))
  | .quo => y ≠ 0 ∧ K (.v (.int k (k.wrap (x.tdiv y))))
  | .rem => y ≠ 0 ∧ K (.v (.int k (x.tmod y)))
  | .eql => K (.v (.bool (decide (x = y))))
  | .neq => K (.v (.bool (decide (x ≠ y))))
  | .lss => K (.v (.bool (decide (x < y))))
  | .leq => K (.v (.bool (decide (x ≤ y))))
  | .gtr => K (.v (.bool (decide (y < x))))
  | .geq => K (.v (.bool (decide (y ≤ x))))
  | .shl => 0 ≤ y ∧ K (.v (.int k (k.wrap (x * 2 ^ min y.toNat k.bits))))
  | .shr => 0 ≤ y ∧ K (.v (.int k (x.fdiv (2 ^ min y.toNat k.bits))))
  | _ => False
/-- Two texts. -/
def aStr (op : BinOp) (x y : ByteArray) (K : AV → Prop) : Prop :=
  match op with
  | .add => x.size + y.size ≤ 9223372036854775807 ∧ K (.v (.string (x ++ y)))
  | .eql => K (.v (.bool (decide (x = y))))
  | .neq => K (.v (.bool (decide (x ≠ y))))
  | .lss => K (.v (.bool (Op.bytesLess x.toList y.toList)))
  | .leq => K (.v (.bool (Op.bytesLess x.toList y.toList || decide (x = y))))
  | .gtr => K (.v (.bool (!(Op.bytesLess x.toList y.toList || decide (x = y)))))
  | .geq => K (.v (.bool (!Op.bytesLess x.toList y.toList)))
  | _ => False
/-- A struct or an array, by its cells. -/
def aggV : AV → Option (List AV)
  | .agg cs => some cs
  | .v (.agg q) => some (q.toList.map .v)
  | _ => none
def vals : List AV → Option (List Value)
  | [] => some []
  | .v x :: l => (vals l).map (x :: ·)
  | _ => none
/-- Two structs or arrays of bools, numbers and texts. -/
def aAgg (P : Program) (neg : Bool) (t : TypeId) (x y : AV) (K : AV → Prop) : Prop :=
  aggT P t = true ∧ P.eqGuardType P.depth t = false ∧ ∃ xs ys vs ws ls, aggV x = some xs ∧ aggV y = some ys ∧ vals xs = some vs ∧ vals ys = some ws ∧ leaves P 9 t = some ls ∧ Fit ls vs = true ∧ Fit ls ws = true ∧ K (.v (.bool (if neg then !eqL vs ws else eqL vs ws)))
/-- Two yes-or-nos; two pointers of which one is nil. -/
def aEqv (P : Program) (neg : Bool) (t : TypeId) (x y : AV) (K : AV → Prop) : Prop :=
  match x, y with
  | .v (.bool a), .v (.bool b) => isBool P t = true ∧ K (.v (.bool (if neg then decide (a ≠ b) else decide (a = b))))
  | .v (.pointer p), .v (.pointer none) => isPtr P t = true ∧ K (.v (.bool (if neg then p.isSome else p.isNone)))
  | .v (.pointer none), .v (.pointer p) => isPtr P t = true ∧ K (.v (.bool (if neg then p.isSome else p.isNone)))
  | .fp _, .v (.pointer none) => isPtr P t = true ∧ K (.v (.bool neg))
  | .rp _ _ _ _, .v (.pointer none) => isPtr P t = true ∧ K (.v (.bool neg))
  | .v (.slice a _ _), .v (.slice none 0 0) => isSl P t = true ∧ K (.v (.bool (if neg then a.isSome else a.isNone)))
  | .sl _ es, .v (.slice none 0 0) => isSl P t = true ∧ (es ≠ [] → K (.v (.bool neg))) ∧ (es = [] → ∀ b, K (.v (.bool b)))
  | .fsl _ es, .v (.slice none 0 0) => isSl P t = true ∧ (es ≠ [] → K (.v (.bool neg))) ∧ (es = [] → ∀ b, K (.v (.bool b)))
  | .v (.map m), .v (.map none) => isMapT P t = true ∧ K (.v (.bool (if neg then m.isSome else m.isNone)))
  | .v (.func _ _ _), .v .nilFunc => isFn P t = true ∧ K (.v (.bool neg))
  | .v .nilFunc, .v .nilFunc => isFn P t = true ∧ K (.v (.bool !neg))
  | _, _ => False
def aEq2 (P : Program) (neg : Bool) (t : TypeId) (x y : AV) (K : AV → Prop) : Prop :=
  match aggV x with
  | some _ => aAgg P neg t x y K
  | none => aEqv P neg t x y K
def aBin (P : Program) (op : BinOp) (t : TypeId) (x y : AV) (K : AV → Prop) : Prop :=
  match x, y with
  | .v (.int k a), .v (.int k' b) => k = k' ∧ aInt op k a b K
  | .v (.string a), .v (.string b) => aStr op a b K
  | x, y => match op with
    | .eql => aEq2 P false t x y K
    | .neq => aEq2 P true t x y K
    | _ => False

theorem toList_beq (x y : ByteArray) : (x.toList == y.toList) = decide (x = y) := by
  by_cases h : x = y
  · subst h; simp
  · rw [decide_eq_false h]
    refine beq_eq_false_iff_ne.2 fun h' => h ?_
    have : x.data.toList = y.data.toList := by
      have e : ∀ z : ByteArray, z.toList = z.data.toList := fun z => ByteArray.toList_eq z
      rw [← e x, ← e y, h']
    cases x; cases y
    simp at this
    simp [this]

section
variable {P : Program} {o : Oper} {n : Nat} {fr : Fr} {a : Act} {F : Froz} {w : World} {σ : St} {k : AV → Prop}

theorem run_int {op : BinOp} (t : TypeId) {ik : IntKind} {x y : Int} (h : aInt op ik x y k) : ∃ v, (binOp op t (.int ik x) (.int ik y)).run P w = .ok v w ∧ k (.v v) := by
  cases op <;> simp only [aInt] at h
  case add => refine ⟨_, ?_, h⟩; simp [binOp, Op.intArith]
  case sub => refine ⟨_, ?_, h⟩; simp [binOp, Op.intArith]
  case mul => refine ⟨_, ?_, h⟩; simp [binOp, Op.intArith]
  case quo => refine ⟨_, ?_, h.2⟩; simp [binOp, Op.intDiv, h.1]
  case rem => refine ⟨_, ?_, h.2⟩; simp [binOp, Op.intDiv, h.1]
  case shl => refine ⟨_, ?_, h.2⟩; simp [binOp, Op.shift, Int.not_lt.2 h.1]
  case shr => refine ⟨_, ?_, h.2⟩; simp [binOp, Op.shift, Int.not_lt.2 h.1]
  case neq => refine ⟨_, ?_, h⟩; simp only [binOp, ne_eq, not_true_eq_false, if_false, Op.intCmp, bne, decide_not]; rfl
  all_goals (refine ⟨_, ?_, h⟩; simp only [binOp, ne_eq, not_true_eq_false, if_false, Op.intCmp]; rfl)

theorem run_str {op : BinOp} (t : TypeId) {x y : ByteArray} (h : aStr op x y k) : ∃ v, (binOp op t (.string x) (.string y)).run P w = .ok v w ∧ k (.v v) := by
  have hb := toList_beq x y
  cases op <;> simp only [aStr] at h
  case add =>
    refine ⟨_, ?_, h.2⟩
    have hle : ¬ (((x.size + y.size : Nat) : Int) > IntKind.i64.max) := by
      have := h.1
      simp [IntKind.max, IntKind.signed, IntKind.bits]
      omega
    simp only [binOp, Op.stringOp, hle, if_false]
    rfl
  case neq => refine ⟨_, ?_, h⟩; simp only [binOp, Op.stringOp, hb, decide_not]; rfl
  all_goals (refine ⟨_, ?_, h⟩; simp only [binOp, Op.stringOp, hb]; rfl)

theorem eqIn_bool {t : TypeId} (hu : P.underlying t = some .bool) (p q : Bool) : (Op.equal t (.bool p) (.bool q)).run P w = .ok (p == q) w := by
  have : ∀ d, (Op.equalIn (d + 1) t (.bool p) (.bool q)).run P w = .ok (p == q) w := fun d => by
    simp [Op.equalIn, run_underlying hu]
  exact this 9999
theorem eqIn_nil {t e : TypeId} (hu : P.underlying t = some (.pointer e)) (p : Option Addr) : (Op.equal t (.pointer p) (.pointer none)).run P w = .ok p.isNone w := by
  have : ∀ d, (Op.equalIn (d + 1) t (.pointer p) (.pointer none)).run P w = .ok p.isNone w := fun d => by
    cases p <;> simp [Op.equalIn, run_underlying hu]
  exact this 9999
theorem eqIn_nil' {t e : TypeId} (hu : P.underlying t = some (.pointer e)) (p : Option Addr) : (Op.equal t (.pointer none) (.pointer p)).run P w = .ok p.isNone w := by
  have : ∀ d, (Op.equalIn (d + 1) t (.pointer none) (.pointer p)).run P w = .ok p.isNone w := fun d => by
    simp [Op.equalIn, run_underlying hu]
  exact this 9999

theorem eqIn_slnil {t e : TypeId} (hu : P.underlying t = some (.slice e)) (p : Option Addr) (n c : Nat) : (Op.equal t (.slice p n c) (.slice none 0 0)).run P w = .ok p.isNone w := by
  have : ∀ d, (Op.equalIn (d + 1) t (.slice p n c) (.slice none 0 0)).run P w = .ok p.isNone w := fun d => by
    cases p <;> simp [Op.equalIn, run_underlying hu]
  exact this 9999
theorem eqIn_mapnil {t e f : TypeId} (hu : P.underlying t = some (.map e f)) (p : Option Nat) : (Op.equal t (.map p) (.map none)).run P w = .ok p.isNone w := by
  have : ∀ d, (Op.equalIn (d + 1) t (.map p) (.map none)).run P w = .ok p.isNone w := fun d => by
    cases p <;> simp [Op.equalIn, run_underlying hu]
  exact this 9999

theorem eqIn_fnil {t : TypeId} {a b c : _} (hu : P.underlying t = some (.func a b c)) (f : Fn) (x y : Array Value) : (Op.equal t (.func f x y) .nilFunc).run P w = .ok false w := by
  have : ∀ d, (Op.equalIn (d + 1) t (.func f x y) .nilFunc).run P w = .ok false w := fun d => by
    simp [Op.equalIn, run_underlying hu]
  exact this 9999
theorem eqIn_fnn {t : TypeId} {a b c : _} (hu : P.underlying t = some (.func a b c)) : (Op.equal t .nilFunc .nilFunc).run P w = .ok true w := by
  have : ∀ d, (Op.equalIn (d + 1) t .nilFunc .nilFunc).run P w = .ok true w := fun d => by
    simp [Op.equalIn, run_underlying hu]
  exact this 9999
theorem run_eqv {neg : Bool} {t : TypeId} {x y : AV} {X Y : Value} (hx : RV F w x X) (hy : RV F w y Y) (h : aEqv P neg t x y k) : ∃ b : Bool, (Op.equal t X Y).run P w = .ok b w ∧ k (.v (.bool (if neg then !b else b))) ∧ (∀ q, X ≠ .agg q) ∧ X ≠ .nilIface ∧ (∀ q r, X ≠ .int q r) ∧ (∀ q, X ≠ .string q) ∧ (∀ q r, X ≠ .float q r) ∧ (∀ q r s, X ≠ .complex q r s) := by
  unfold aEqv at h
  split at h
  · have ex := hx.eq
    have ey := hy.eq
    subst ex
    subst ey
    rename_i p q
    obtain ⟨h1, h2⟩ := h
    unfold isBool at h1
    split at h1
    · rename_i hu
      refine ⟨p == q, eqIn_bool hu p q, ?_, by simp, by simp, by simp, by simp, by simp, by simp⟩
      cases neg <;> cases p <;> cases q <;> exact h2
    · cases h1
  · have ex := hx.eq
    have ey := hy.eq
    subst ex
    subst ey
    rename_i p
    obtain ⟨h1, h2⟩ := h
    unfold isPtr at h1
    split at h1
    · rename_i e hu
      refine ⟨p.isNone, eqIn_nil hu p, ?_, by simp, by simp, by simp, by simp, by simp, by simp⟩
      · cases neg <;> cases p <;> exact h2
    · cases h1
  · have ex := hx.eq
    have ey := hy.eq
    subst ex
    subst ey
    rename_i p _
    obtain ⟨h1, h2⟩ := h
    unfold isPtr at h1
    split at h1
    · rename_i e hu
      refine ⟨p.isNone, eqIn_nil' hu p, ?_, by simp, by simp, by simp, by simp, by simp, by simp⟩
      · cases neg <;> cases p <;> exact h2
    · cases h1
  · have ey := hy.eq
    subst ey
    obtain ⟨h1, h2⟩ := h
    unfold isPtr at h1
    split at h1
    · rename_i e hu
      cases hx with
      | fp _ b p c _ hF hc hr =>
        exact ⟨false, eqIn_nil hu _, by cases neg <;> exact h2, by simp, by simp, by simp, by simp, by simp, by simp⟩
    · cases h1
  · have ey := hy.eq
    subst ey
    obtain ⟨h1, h2⟩ := h
    unfold isPtr at h1
    split at h1
    · rename_i e hu
      cases hx
      exact ⟨false, eqIn_nil hu _, by cases neg <;> exact h2, by simp, by simp, by simp, by simp, by simp, by simp⟩
    · cases h1
  · have ex := hx.eq
    have ey := hy.eq
    subst ex
    subst ey
    obtain ⟨h1, h2⟩ := h
    unfold isSl at h1
    split at h1
    · rename_i p _ _ _ e hu
      refine ⟨_, eqIn_slnil hu _ _ _, ?_, by simp, by simp, by simp, by simp, by simp, by simp⟩
      cases neg
      · exact h2
      · simpa using h2
    · cases h1
  · rename_i q es
    have ey := hy.eq
    subst ey
    obtain ⟨h1, h2, h3⟩ := h
    unfold isSl at h1
    split at h1
    · rename_i e hu
      cases hx with
      | sl0 _ ad cap => exact ⟨_, eqIn_slnil hu _ _ _, h3 rfl _, by simp, by simp, by simp, by simp, by simp, by simp⟩
      | sl _ _ b p c nn cap hn hk hcap hF hc hr =>
        refine ⟨false, eqIn_slnil hu _ _ _, ?_, by simp, by simp, by simp, by simp, by simp, by simp⟩
        by_cases he : es = []
        · exact h3 he _
        · have := h2 he
          cases neg <;> exact this
    · cases h1
  · rename_i q es
    have ey := hy.eq
    subst ey
    obtain ⟨h1, h2, h3⟩ := h
    unfold isSl at h1
    split at h1
    · rename_i e hu
      cases hx with
      | fsl0 _ ad => exact ⟨_, eqIn_slnil hu _ _ _, h3 rfl _, by simp, by simp, by simp, by simp, by simp, by simp⟩
      | fsl _ _ b p c nn hn hk hF hc hr =>
        refine ⟨false, eqIn_slnil hu _ _ _, ?_, by simp, by simp, by simp, by simp, by simp, by simp⟩
        by_cases he : es = []
        · exact h3 he _
        · have := h2 he
          cases neg <;> exact this
    · cases h1
  · have ex := hx.eq
    have ey := hy.eq
    subst ex
    subst ey
    obtain ⟨h1, h2⟩ := h
    unfold isMapT at h1
    split at h1
    · rename_i e f hu
      refine ⟨_, eqIn_mapnil hu _, ?_, by simp, by simp, by simp, by simp, by simp, by simp⟩
      cases neg
      · exact h2
      · simpa using h2
    · cases h1
  · have ex := hx.eq
    have ey := hy.eq
    subst ex
    subst ey
    obtain ⟨h1, h2⟩ := h
    unfold isFn at h1
    split at h1
    · rename_i hu
      refine ⟨_, eqIn_fnil hu _ _ _, ?_, by simp, by simp, by simp, by simp, by simp, by simp⟩
      cases neg <;> exact h2
    · cases h1
  · have ex := hx.eq
    have ey := hy.eq
    subst ex
    subst ey
    obtain ⟨h1, h2⟩ := h
    unfold isFn at h1
    split at h1
    · rename_i hu
      refine ⟨_, eqIn_fnn hu, ?_, by simp, by simp, by simp, by simp, by simp, by simp⟩
      cases neg <;> exact h2
    · cases h1
  · exact h.elim

theorem vals_rv {F : Froz} {w : World} : ∀ {xs : List AV} {vs : List Value} {l : List Value}, vals xs = some vs → l.length = xs.length → (∀ j, j < xs.length → RV F w (xs.getD j (.v undef)) (l.getD j undef)) → l = vs
  | [], vs, [], h, _, _ => by injection h
  | .v x :: xs, vs, y :: l, h, hl, hr => by
    simp only [vals, Option.map_eq_some_iff] at h
    obtain ⟨vs', h1, rfl⟩ := h
    have h0 := (hr 0 (by simp)).eq
    have := vals_rv h1 (by simpa using hl) (fun j hj => by simpa using hr (j + 1) (by simpa using hj))
    simp at h0
    rw [h0, this]
  | [], vs, y :: l, h, hl, _ => by simp at hl
  | x :: xs, vs, [], h, hl, _ => by simp at hl
  | .sl _ _ :: xs, vs, y :: l, h, hl, _ => by cases h
  | .fsl _ _ :: xs, vs, y :: l, h, hl, _ => by cases h
  | .fp _ :: xs, vs, y :: l, h, hl, _ => by cases h
  | .rp _ _ _ _ :: xs, vs, y :: l, h, hl, _ => by cases h
  | .agg _ :: xs, vs, y :: l, h, hl, _ => by cases h
  | .tup _ :: xs, vs, y :: l, h, hl, _ => by cases h
theorem vals_v : ∀ (l : List Value), vals (l.map .v) = some l
  | [] => rfl
  | x :: l => by simp [vals, vals_v l]
theorem agg_rv {F : Froz} {w : World} {x : AV} {X : Value} {xs : List AV} {vs : List Value} (hx : RV F w x X) (ha : aggV x = some xs) (hv : vals xs = some vs) : X = .agg vs.toArray := by
  unfold aggV at ha
  split at ha
  · injection ha with ha
    subst ha
    cases hx with
    | agg _ q hl h =>
      have := vals_rv (l := q.toList) hv (by simpa using hl) (fun j hj => by
        have := h j hj
        simpa [Array.getD_eq_getD_getElem?, List.getD_eq_getElem?_getD] using this)
      rw [← this]
  · injection ha with ha
    subst ha
    rw [hx.eq]
    rw [vals_v] at hv
    injection hv with hv
    rw [← hv]
  · cases ha
theorem sound_agg {op : BinOp} {neg : Bool} {t ty : TypeId} {x y : Operand} (ho : o.op = .binOp op t x y ty) (hop : op = if neg then .neq else .eql) {p q : AV} (hvx : RV F w p (a.eval x)) (hvy : RV F w q (a.eval y)) (h : aAgg P neg t p q k) : Quiet P o a F w k := by
  obtain ⟨h1, h2, xs, ys, vs, ws, ls, e1, e2, e3, e4, e5, e6, e7, hk⟩ := h
  have hX := agg_rv hvx e1 e3
  have hY := agg_rv hvy e2 e4
  have hr := run_equal_flat e5 (by decide) h1 w e6 e7
  have hg : (eqGuard op t x y (a.eval x) (a.eval y)).run P w = .ok () w := by rw [hX, hY]; exact run_eqGuard_agg w op t x y _ _ h2
  cases neg
  · simp only [Bool.false_eq_true, if_false] at hop hk
    subst hop
    exact ⟨_, _, by simp only [execOp, ho, Sem.run_bind, hg, Result.andThen_ok]; rw [hX, hY]; simp only [run_eql_struct, hr, Result.andThen_ok, Sem.run_pure], .v _, hk⟩
  · simp only [if_true] at hop hk
    subst hop
    exact ⟨_, _, by simp only [execOp, ho, Sem.run_bind, hg, Result.andThen_ok]; rw [hX, hY]; simp only [run_neq_struct, hr, Result.andThen_ok, Sem.run_pure], .v _, hk⟩

theorem sound_bin {op : BinOp} {t ty : TypeId} {x y : Operand} (ho : o.op = .binOp op t x y ty) (hx : opdIn n x = true) (hy : opdIn n y = true) (hf : FrRel F w n fr a) (h : aBin P op t (fr.ev x) (fr.ev y) k) : Quiet P o a F w k := by
  have hvx := hf.ev x hx
  have hvy := hf.ev y hy
  have hgo : ∀ v, (∀ q, a.eval x ≠ .agg q) → a.eval x ≠ .nilIface → (binOp op t (a.eval x) (a.eval y)).run P w = .ok v w → (execOp a.eval o).run P w = .ok (.value v) w := fun v n1 n2 hv => by
    have hg : (eqGuard op t x y (a.eval x) (a.eval y)).run P w = .ok () w := by
      unfold eqGuard
      cases hX : a.eval x with
      | nilIface => exact absurd hX n2
      | agg q => exact absurd hX (n1 q)
      | _ => by_cases hop : (op matches .eql | .neq) = true <;> simp [hop]
    simp [execOp, ho, hg, hv]
  revert h hvx hvy
  generalize fr.ev x = p
  generalize fr.ev y = q
  intro h hvx hvy
  unfold aBin at h
  split at h
  · have ex := hvx.eq
    have ey := hvy.eq
    obtain ⟨rfl, h⟩ := h
    obtain ⟨v, hr, hk⟩ := run_int (P := P) (w := w) t h
    exact ⟨v, _, hgo v (by simp [ex]) (by simp [ex]) (by rw [ex, ey]; exact hr), .v _, hk⟩
  · have ex := hvx.eq
    have ey := hvy.eq
    obtain ⟨v, hr, hk⟩ := run_str (P := P) (w := w) t h
    exact ⟨v, _, hgo v (by simp [ex]) (by simp [ex]) (by rw [ex, ey]; exact hr), .v _, hk⟩
  · split at h
    · unfold aEq2 at h
      split at h
      · exact sound_agg (neg := false) ho rfl hvx hvy h
      obtain ⟨b, hr, hk, n1, n2, n3, n4, n5, n6⟩ := run_eqv hvx hvy h
      refine ⟨.bool b, _, hgo _ n1 n2 ?_, .v _, by simpa using hk⟩
      cases hX : a.eval x with
      | int => exact absurd hX (n3 _ _)
      | string => exact absurd hX (n4 _)
      | float => exact absurd hX (n5 _ _)
      | complex => exact absurd hX (n6 _ _ _)
      | _ => rw [hX] at hr; simp [binOp, hr]
    · unfold aEq2 at h
      split at h
      · exact sound_agg (neg := true) ho rfl hvx hvy h
      obtain ⟨b, hr, hk, n1, n2, n3, n4, n5, n6⟩ := run_eqv hvx hvy h
      refine ⟨.bool !b, _, hgo _ n1 n2 ?_, .v _, by simpa using hk⟩
      cases hX : a.eval x with
      | int => exact absurd hX (n3 _ _)
      | string => exact absurd hX (n4 _)
      | float => exact absurd hX (n5 _ _)
      | complex => exact absurd hX (n6 _ _ _)
      | _ => rw [hX] at hr; simp [binOp, hr]
    · exact h.elim

/-! ### not, minus -/
def aUn (op : UnOp) (x : AV) (k : AV → Prop) : Prop :=
  match op, x with
  | .not, .v (.bool b) => k (.v (.bool (!b)))
  | .neg, .v (.int ik m) => k (.v (.int ik (ik.wrap (0 - m))))
  | _, _ => False
theorem sound_un {op : UnOp} {t : TypeId} {x : Operand} (ho : o.op = .unOp op t x) (hx : opdIn n x = true) (hf : FrRel F w n fr a) (h : aUn op (fr.ev x) k) : Quiet P o a F w k := by
  have hv := hf.ev x hx
  revert h hv
  generalize fr.ev x = p
  intro h hv
  unfold aUn at h
  split at h
  · have ex := hv.eq
    exact ⟨_, _, by simp [execOp, ho, ex, Op.unary], .v _, h⟩
  · have ex := hv.eq
    exact ⟨_, _, by simp [execOp, ho, ex, Op.unary, Op.intArith], .v _, h⟩
  · exact h.elim

/-! ### conversions: of numbers; of a text to bytes (a row of one's own); of bytes to a text -/
def byteEl (b : UInt8) : List AV := [.v (.int .u8 (b.toNat : Int))]
theorem bytes_getD (l : List UInt8) (i : Nat) (hi : i < l.length) : ((l.map byteEl).getD i []).getD 0 (.v undef) = .v (.int .u8 ((l.getD i 0).toNat : Int)) := by
  have e : (l.map byteEl)[i]? = some (byteEl l[i]) := by rw [List.getElem?_map, List.getElem?_eq_getElem hi]; rfl
  have e2 : l[i]? = some l[i] := List.getElem?_eq_getElem hi
  simp only [List.getD_eq_getElem?_getD, e, e2]
  rfl
theorem vals_getD (l : List UInt8) (i : Nat) (hi : i < l.length) : (l.map fun b => Value.int .u8 (b.toNat : Int)).getD i undef = .int .u8 ((l.getD i 0).toNat : Int) := by
  have e : (l.map fun b => Value.int .u8 (b.toNat : Int))[i]? = some (.int .u8 (l[i].toNat : Int)) := by rw [List.getElem?_map, List.getElem?_eq_getElem hi]; rfl
  have e2 : l[i]? = some l[i] := List.getElem?_eq_getElem hi
  simp only [List.getD_eq_getElem?_getD, e, e2]
  rfl
def byteOf : List AV → UInt8
  | [.v (.int .u8 m)] => UInt8.ofNat m.toNat
  | _ => 0
def isByte : List AV → Bool
  | [.v (.int .u8 _)] => true
  | _ => false
def strOf (es : List (List AV)) : ByteArray := ⟨(es.map byteOf).toArray⟩

def aConv (i j : Option TK) (σ : St) (x : AV) (k : AV → St → Prop) : Prop :=
  match i, j with
  | some i, some j => match i.td, j.td, x with
    | .int _, .int ik, .v (.int _ m) => k (.v (.int ik (ik.wrap m))) σ
    | .str, .str, .v (.string s) => k (.v (.string s)) σ
    | .str, .sl 1 _ _ true, .v (.string s) => ∀ b cap, σ b = none → s.size ≤ cap → k (.v (.slice (some ⟨b, 0, none⟩) s.size cap)) (σ.set b (.rows 1 (s.data.toList.map byteEl) false cap))
    | .sl 1 _ _ true, .str, x => ∃ es, vlook 1 σ x = some es ∧ es.all isByte = true ∧ k (.v (.string (strOf es))) σ
    | _, _, _ => False
  | _, _ => False

end
end Go.Av
