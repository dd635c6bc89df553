/-
  The program logic, part 4b: two structs or arrays of bools, numbers and texts are held together.
  Conditions: none (a library of lemmas over any program).
-/
import Derived.Test.YthdfpankebjleaaAvOps5
import Derived.Laws.StructEq
import Derived.ChangeKeysEq
set_option linter.unusedVariables false
set_option linter.unusedSimpArgs false
namespace Go.Av
open Go Go.RowKit

inductive Leaf where
  | b
  | i (k : IntKind)
  | s
def Leaf.ok : Leaf → Value → Bool
  | .b, .bool _ => true
  | .i k, .int k' _ => decide (k = k')
  | .s, .string _ => true
  | _, _ => false
def eqLeaf : Value → Value → Bool
  | .bool a, .bool b => a == b
  | .int _ a, .int _ b => decide (a = b)
  | .string a, .string b => decide (a = b)
  | _, _ => true
def Fit : List Leaf → List Value → Bool
  | [], [] => true
  | l :: ls, v :: vs => l.ok v && Fit ls vs
  | _, _ => false
def eqL : List Value → List Value → Bool
  | x :: xs, y :: ys => eqLeaf x y && eqL xs ys
  | _, _ => true
def leavesF (P : Program) (g : TypeId → Option (List Leaf)) : List Field → Nat → Option (List Leaf)
  | [], _ => some []
  | f :: fs, off => if f.name ≠ "_" ∧ f.offset = off then (match g f.type, P.info? f.type with
      | some ls, some i => if i.size = ls.length then (leavesF P g fs (off + ls.length)).map (ls ++ ·) else none
      | _, _ => none) else none
/-- The leaves of a type of bools, numbers and texts. -/
def leaves (P : Program) : Nat → TypeId → Option (List Leaf)
  | 0, _ => none
  | n + 1, t => match P.underlying t with
    | some .bool => some [.b]
    | some (.int k) => some [.i k]
    | some .string => some [.s]
    | some (.struct fs) => if P.stoodInHeld t then none else leavesF P (leaves P n) fs.toList 0
    | some (.array m e) => (match leaves P n e, P.info? e with
      | some ls, some i => if i.size = ls.length then some (List.replicate m ls).flatten else none
      | _, _ => none)
    | _ => none
def aggT (P : Program) (t : TypeId) : Bool := match P.underlying t with | some (.struct _) | some (.array _ _) => true | _ => false

theorem fit_length : ∀ {ls : List Leaf} {vs : List Value}, Fit ls vs = true → vs.length = ls.length
  | [], [], _ => rfl
  | l :: ls, v :: vs, h => by
    simp only [Fit, Bool.and_eq_true] at h
    simp [fit_length h.2]
  | [], v :: vs, h => by cases h
  | l :: ls, [], h => by cases h
theorem fit_split : ∀ {ls ls' : List Leaf} {vs : List Value}, Fit (ls ++ ls') vs = true → Fit ls (vs.take ls.length) = true ∧ Fit ls' (vs.drop ls.length) = true
  | [], ls', vs, h => ⟨by simp [Fit], by simpa using h⟩
  | l :: ls, ls', v :: vs, h => by
    simp only [List.cons_append, Fit, Bool.and_eq_true] at h
    obtain ⟨h1, h2⟩ := fit_split h.2
    exact ⟨by simp only [List.length_cons, List.take_succ_cons, Fit, h.1, h1, Bool.and_self], by simpa using h2⟩
  | l :: ls, ls', [], h => by cases h
theorem eqL_split : ∀ (k : Nat) (xs ys : List Value), xs.length = ys.length → eqL xs ys = (eqL (xs.take k) (ys.take k) && eqL (xs.drop k) (ys.drop k))
  | 0, xs, ys, h => by simp [eqL]
  | k + 1, [], [], h => by simp [eqL]
  | k + 1, x :: xs, y :: ys, h => by
    simp only [List.take_succ_cons, List.drop_succ_cons, eqL, eqL_split k xs ys (by simpa using h), Bool.and_assoc]
  | k + 1, [], y :: ys, h => by cases h
  | k + 1, x :: xs, [], h => by cases h

section
variable {P : Program}

/-- A value of a type, by its cells. -/
def IsV (P : Program) (t : TypeId) (X : Value) (xs : List Value) : Prop := if aggT P t then X = .agg xs.toArray else xs = [X]

theorem run_part_flat {t : TypeId} {d : TypeDesc} {i : TypeInfo} (hd : P.underlying t = some d) (hi : P.info? t = some i) {ls : List Leaf} (hs : i.size = ls.length) {cs : List Value} {off : Nat} (w : World)
    (h1 : aggT P t = false → ls.length = 1) (hf : Fit ls ((cs.drop off).take ls.length) = true) : ∃ X, (part t cs.toArray off).run P w = .ok X w ∧ IsV P t X ((cs.drop off).take ls.length) := by
  have hl := (fit_length hf)
  by_cases ha : aggT P t = true
  · have hag : (isAgg t).run P w = .ok true w := by
      unfold aggT at ha
      simp only [isAgg, Sem.run_bind, run_underlying hd, Result.andThen_ok]
      rw [hd] at ha
      cases d <;> first | rfl | (simp at ha; done)
    refine ⟨.agg (cs.toArray.extract off (off + ls.length)), ?_, ?_⟩
    · simp only [part, Sem.run_bind, hag, Result.andThen_ok, if_true, run_sizeOf' hi, Sem.run_pure, hs]
    · unfold IsV
      rw [if_pos ha]
      simp [List.take_drop, Nat.add_comm]
  · have ha' : aggT P t = false := by simpa using ha
    have hag : (isAgg t).run P w = .ok false w := by
      unfold aggT at ha'
      simp only [isAgg, Sem.run_bind, run_underlying hd, Result.andThen_ok]
      rw [hd] at ha'
      cases d <;> first | rfl | (simp at ha'; done)
    have hl1 := h1 ha'
    rw [hl1] at hl ⊢
    have hlt : off < cs.length := by
      simp at hl; omega
    refine ⟨cs[off], ?_, ?_⟩
    · have : cs.toArray[off]? = some cs[off] := by simp [hlt]
      simp only [part, Sem.run_bind, hag, Result.andThen_ok, Bool.false_eq_true, if_false, this, Sem.run_pure]
    · unfold IsV
      rw [if_neg ha, List.drop_eq_getElem_cons hlt]
      rfl

/-- Two values of a type of leaves are equal where their leaves are. -/
def EqT (P : Program) (d : Nat) (t : TypeId) (ls : List Leaf) : Prop :=
  ∀ (w : World) (X Y : Value) (xs ys : List Value), IsV P t X xs → IsV P t Y ys → Fit ls xs = true → Fit ls ys = true → (Op.equalIn d t X Y).run P w = .ok (eqL xs ys) w

theorem leaf_len {n : Nat} {t : TypeId} {ls : List Leaf} (h : leaves P n t = some ls) (ha : aggT P t = false) : ls.length = 1 := by
  cases n with
  | zero => cases h
  | succ n =>
    unfold leaves at h
    unfold aggT at ha
    split at h <;> first
      | (injection h with h; rw [← h]; rfl)
      | (rename_i hu; rw [hu] at ha; cases ha)
      | cases h
theorem leaf_und {n : Nat} {t : TypeId} {ls : List Leaf} (h : leaves P n t = some ls) : ∃ d, P.underlying t = some d := by
  cases n with
  | zero => cases h
  | succ n =>
    unfold leaves at h
    cases hu : P.underlying t with
    | none => rw [hu] at h; cases h
    | some d => exact ⟨d, rfl⟩

theorem run_fields_flat {n d : Nat} (ih : ∀ t ls, leaves P n t = some ls → EqT P d t ls) (xs ys : List Value) (w : World) : ∀ (fs : List Field) (off : Nat) (ls : List Leaf), leavesF P (leaves P n) fs off = some ls →
    Fit ls (xs.drop off) = true → Fit ls (ys.drop off) = true → (Op.eqFields d xs.toArray ys.toArray fs).run P w = .ok (eqL (xs.drop off) (ys.drop off)) w
  | [], off, ls, h, hx, hy => by
    simp only [leavesF, Option.some.injEq] at h
    subst h
    have h1 := (fit_length hx)
    have : xs.drop off = [] := List.eq_nil_of_length_eq_zero h1
    simp [Op.eqFields, this, eqL]
  | f :: fs, off, ls, h, hx, hy => by
    simp only [leavesF] at h
    split at h
    · rename_i hno
      obtain ⟨hno, rfl⟩ := hno
      split at h
      · rename_i l1 i hl hi
        split at h
        · rename_i hsz
          simp only [Option.map_eq_some_iff] at h
          obtain ⟨l2, h2, rfl⟩ := h
          obtain ⟨a1, a2⟩ := fit_split hx
          obtain ⟨b1, b2⟩ := fit_split hy
          obtain ⟨dd, hdd⟩ := leaf_und hl
          obtain ⟨X, p1, q1⟩ := run_part_flat hdd hi hsz w (leaf_len hl) a1
          obtain ⟨Y, p2, q2⟩ := run_part_flat hdd hi hsz w (leaf_len hl) b1
          have he := ih _ _ hl w X Y _ _ q1 q2 a1 b1
          rw [List.drop_drop] at a2 b2
          have hr := run_fields_flat ih xs ys w fs _ l2 h2 a2 b2
          simp only [Op.eqFields, hno, ne_eq, not_false_eq_true, if_true, Sem.run_bind, p1, p2, he, Result.andThen_ok]
          rw [eqL_split l1.length (xs.drop f.offset) (ys.drop f.offset) (by rw [(fit_length hx), (fit_length hy)]), List.drop_drop, List.drop_drop]
          cases eqL ((xs.drop f.offset).take l1.length) ((ys.drop f.offset).take l1.length)
          · simp
          · simpa using hr
        · cases h
      · cases h
    · cases h

theorem run_items_flat {d m : Nat} {e : TypeId} {ls : List Leaf} {dd : TypeDesc} {i : TypeInfo} (ih : EqT P d e ls) (h1 : aggT P e = false → ls.length = 1) (hdd : P.underlying e = some dd) (hi : P.info? e = some i) (hsz : i.size = ls.length) (xs ys : List Value) (w : World) : ∀ (k s : Nat), k + s = m →
    Fit (List.replicate k ls).flatten (xs.drop (s * ls.length)) = true → Fit (List.replicate k ls).flatten (ys.drop (s * ls.length)) = true → (Op.eqItems d e ls.length xs.toArray ys.toArray (List.range' s k)).run P w = .ok (eqL (xs.drop (s * ls.length)) (ys.drop (s * ls.length))) w
  | 0, s, hm, hx, hy => by
    have h1 := (fit_length hx)
    have : xs.drop (s * ls.length) = [] := List.eq_nil_of_length_eq_zero h1
    simp [Op.eqItems, this, eqL]
  | k + 1, s, hm, hx, hy => by
    rw [List.replicate_succ, List.flatten_cons] at hx hy
    obtain ⟨a1, a2⟩ := fit_split hx
    obtain ⟨b1, b2⟩ := fit_split hy
    obtain ⟨X, p1, q1⟩ := run_part_flat hdd hi hsz w h1 a1
    obtain ⟨Y, p2, q2⟩ := run_part_flat hdd hi hsz w h1 b1
    have he := ih w X Y _ _ q1 q2 a1 b1
    rw [List.drop_drop, show s * ls.length + ls.length = (s + 1) * ls.length by rw [Nat.add_mul]; omega] at a2 b2
    have hr := run_items_flat (m := m) ih h1 hdd hi hsz xs ys w k (s + 1) (by omega) a2 b2
    rw [List.range'_succ]
    simp only [Op.eqItems, Sem.run_bind, p1, p2, he, Result.andThen_ok]
    rw [eqL_split ls.length (xs.drop (s * ls.length)) (ys.drop (s * ls.length)) (by rw [(fit_length hx), (fit_length hy)]), List.drop_drop, List.drop_drop, show s * ls.length + ls.length = (s + 1) * ls.length by rw [Nat.add_mul]; omega]
    cases eqL ((xs.drop (s * ls.length)).take ls.length) ((ys.drop (s * ls.length)).take ls.length)
    · simp
    · simpa using hr

theorem run_flat : ∀ (n : Nat) (t : TypeId) (ls : List Leaf), leaves P n t = some ls → ∀ d, EqT P (d + n) t ls
  | 0, t, ls, h, d => by cases h
  | n + 1, t, ls, h, d => by
    intro w X Y xs ys hx hy fx fy
    unfold leaves at h
    unfold IsV aggT at hx hy
    rw [show d + (n + 1) = (d + n) + 1 from rfl]
    split at h
    · rename_i hu
      injection h with h
      subst h
      rw [hu] at hx hy
      simp only [Bool.false_eq_true, if_false] at hx hy
      subst hx; subst hy
      simp only [Fit, Bool.and_true] at fx fy
      cases X <;> first | (simp [Leaf.ok] at fx; done) | skip
      cases Y <;> first | (simp [Leaf.ok] at fy; done) | skip
      rw [run_equalIn_bool w _ _ _ _ hu]
      simp [eqL, eqLeaf]
    · rename_i k hu
      injection h with h
      subst h
      rw [hu] at hx hy
      simp only [Bool.false_eq_true, if_false] at hx hy
      subst hx; subst hy
      simp only [Fit, Bool.and_true] at fx fy
      cases X <;> first | (simp [Leaf.ok] at fx; done) | skip
      cases Y <;> first | (simp [Leaf.ok] at fy; done) | skip
      simp only [Leaf.ok, decide_eq_true_eq] at fx fy
      subst fx
      subst fy
      rw [run_equalIn_int w _ _ _ _ _ _ hu]
      simp [eqL, eqLeaf]
      rfl
    · rename_i hu
      injection h with h
      subst h
      rw [hu] at hx hy
      simp only [Bool.false_eq_true, if_false] at hx hy
      subst hx; subst hy
      simp only [Fit, Bool.and_true] at fx fy
      cases X <;> first | (simp [Leaf.ok] at fx; done) | skip
      cases Y <;> first | (simp [Leaf.ok] at fy; done) | skip
      rename_i a b
      rw [run_equalIn_string w _ _ _ _ hu]
      simp only [eqL, eqLeaf, Bool.and_true]
      by_cases hab : a = b
      · subst hab; simp
      · rw [decide_eq_false hab]
        refine congrArg (fun b => Result.ok b w) (beq_eq_false_iff_ne.2 fun h' => hab ?_)
        have e : ∀ z : ByteArray, z.toList = z.data.toList := fun z => ByteArray.toList_eq z
        rw [e, e] at h'
        cases a; cases b
        simp at h'
        simp [h']
    · rename_i fs hu
      split at h
      · cases h
      · rename_i hst
        rw [hu] at hx hy
        simp only [if_true] at hx hy
        subst hx; subst hy
        have hfs : P.fieldsOf t = fs := by simp [Program.fieldsOf, hu]
        rw [run_equalIn_struct w (d + n) t _ _ (by rw [hfs]; exact hu) (by simpa using hst), hfs]
        have := run_fields_flat (fun t ls h => run_flat n t ls h d) xs ys w fs.toList 0 ls h (by simpa using fx) (by simpa using fy)
        simpa using this
    · rename_i m e hu
      split at h
      · rename_i l1 i hl hi
        split at h
        · rename_i hsz
          injection h with h
          subst h
          rw [hu] at hx hy
          simp only [if_true] at hx hy
          subst hx; subst hy
          obtain ⟨dd, hdd⟩ := leaf_und hl
          have hce : P.cellsOf e = l1.length := by simp [Program.cellsOf, hi, hsz]
          rw [run_equalIn_array w (d + n) _ _ hu hi, hce, List.range_eq_range']
          have := run_items_flat (m := m) (run_flat n e l1 hl d) (leaf_len hl) hdd hi hsz xs ys w m 0 rfl (by simpa using fx) (by simpa using fy)
          simpa using this
        · cases h
      · cases h
    · cases h
theorem run_equal_flat {n : Nat} {t : TypeId} {ls : List Leaf} (h : leaves P n t = some ls) (hn : n ≤ 10000) (ha : aggT P t = true) (w : World) {xs ys : List Value} (fx : Fit ls xs = true) (fy : Fit ls ys = true) : (Op.equalIn 10000 t (.agg xs.toArray) (.agg ys.toArray)).run P w = .ok (eqL xs ys) w := by
  have := run_flat n t ls h (10000 - n) w (.agg xs.toArray) (.agg ys.toArray) xs ys (by unfold IsV; rw [if_pos ha]) (by unfold IsV; rw [if_pos ha]) fx fy
  rwa [Nat.sub_add_cancel hn] at this
end
end Go.Av
