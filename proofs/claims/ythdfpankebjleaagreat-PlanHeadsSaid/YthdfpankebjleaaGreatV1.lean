/-
  The program logic: definitions and lemmas over any program.
  Conditions: none.
-/
import Derived.WalkKit
import Derived.KernelRfl
import Derived.Deep.MidRow
import Derived.RangeFuncRecord
import Derived.Maps.AppendAt
import Derived.Laws.BytesArg
import Derived.Laws.Slices
import Derived.Laws.MakeOwn
import Derived.Lib.ConvBytes
import Derived.RangeFuncLeaves
import Derived.Laws.StructEq
import Derived.ChangeKeysEq
import Derived.MapKept
import Derived.Laws.Externs
import Derived.Lib.MinMax
set_option linter.unusedVariables false
set_option linter.unusedSimpArgs false
set_option linter.unusedSectionVars false
set_option maxRecDepth 100000
/-
  The program logic, part 1: values as trees, tracked blocks, and what holds of them in a world.
  Conditions: none (a library of definitions and plain lemmas).
-/
namespace Go.Av
open Go Go.RowKit

/-- A value, seen as a tree: `v` a value as it is; `sl` a slice over frozen cells (k cells an element), seen as its elements; `fsl` the same, its capacity being its length; `fp` a pointer to frozen cells; `rp` a pointer into a tracked row; `agg` a struct or an array by its cells; `tup` several results. -/
inductive AV where
  | v (x : Value)
  | sl (k : Nat) (es : List (List AV))
  | fsl (k : Nat) (es : List (List AV))
  | fp (cs : List AV)
  | rp (b k i f : Nat)
  | agg (cs : List AV)
  | tup (vs : List AV)
instance : Inhabited AV := ⟨.v undef⟩

def AV.cells : AV → List AV
  | .agg cs => cs
  | .v (.agg cs) => cs.toList.map .v
  | x => [x]

/-- Is it the value of one cell? -/
def AV.one : AV → Bool
  | .v x => x.oneCell'
  | .agg _ | .tup _ => false
  | _ => true

/-- A frame: what each slot holds. -/
abbrev Fr := Nat → AV

/-! ### What lies in a frame of n slots -/
/-- Operands that lie in the frame. -/
def opdIn (n : Nat) : Operand → Bool
  | .tmp t => t < n
  | _ => true
/-- Operands and result of an operation lie in the frame. -/
def okOper (n : Nat) (ops : Array Oper) (o : Oper) : Bool :=
  (o.op.operands.all (opdIn n)) && (match o.dst with | some d => decide (d < n) | none => true) && (match o.guard with | some (j, _) => (match (ops[j]?).bind (·.dst) with | some d => decide (d < n) | none => true) | none => true)
/-- Slots and operands lie in the frame. -/
def okCode (n : Nat) : Code → Bool
  | .region _ ops _ => ops.all (okOper n ops)
  | .seq x y => okCode n x && okCode n y
  | .cond c x y => opdIn n c && okCode n x && okCode n y
  | .block _ x | .loop x | .scope x => okCode n x
  | .rangeFunc g ps x y => opdIn n g && ps.all (fun t => decide (t < n)) && okCode n x && okCode n y
  | _ => true
def notDefer : Op → Bool
  | .defer _ => false
  | _ => true
/-- No loop over a function, no scope, no deferred call within. -/
def flat : Code → Bool
  | .region _ ops _ => ops.toList.all fun o => notDefer o.op
  | .seq x y | .cond _ x y => flat x && flat y
  | .block _ x | .loop x => flat x
  | .scope _ | .rangeFunc .. => false
  | _ => true

/-- What is tracked of a block: `cells`: its first cells; `rows`: a row of elements of k cells each, in a block with room for `cap` elements; frz: are these cells frozen? -/
inductive AObj where
  | cells (cs : List AV)
  | rows (k : Nat) (es : List (List AV)) (frz : Bool) (cap : Nat)
  | map (kv : List (Value × AV))
  | loop (fr : Fr) (n : Nat) (ps : List Nat) (assign body : Code) (st : LoopState) (pend : Option Code)

abbrev St := Nat → Option AObj
def St.set (σ : St) (b : Nat) (o : AObj) : St := fun x => if x = b then some o else σ x
def St.del (σ : St) (b : Nat) : St := fun x => if x = b then none else σ x

abbrev Froz := Nat → Nat

/-- The value x, in the world w, reads as the tree. F b: how many of block b's first cells are frozen. -/
inductive RV (F : Froz) (w : World) : AV → Value → Prop
  | v (x : Value) : RV F w (.v x) x
  | sl0 (k : Nat) (a : Option Addr) (cap : Nat) : RV F w (.sl k []) (.slice a 0 cap)
  | sl (k : Nat) (es : List (List AV)) (b o : Nat) (c : Nat → Value) (n cap : Nat) (hn : n = es.length) (hk : ∀ e ∈ es, e.length = k ∧ e.all AV.one = true) (hcap : n ≤ cap)
      (hF : o + es.length * k ≤ F b) (hc : ∀ j, j < es.length * k → w.cell? ⟨b, o + j, none⟩ = some (c j))
      (hr : ∀ i j, i < es.length → j < k → RV F w ((es.getD i []).getD j (.v undef)) (c (i * k + j))) : RV F w (.sl k es) (.slice (some ⟨b, o, none⟩) n cap)
  | fsl0 (k : Nat) (a : Option Addr) : RV F w (.fsl k []) (.slice a 0 0)
  | fsl (k : Nat) (es : List (List AV)) (b o : Nat) (c : Nat → Value) (n : Nat) (hn : n = es.length) (hk : ∀ e ∈ es, e.length = k ∧ e.all AV.one = true)
      (hF : o + es.length * k ≤ F b) (hc : ∀ j, j < es.length * k → w.cell? ⟨b, o + j, none⟩ = some (c j))
      (hr : ∀ i j, i < es.length → j < k → RV F w ((es.getD i []).getD j (.v undef)) (c (i * k + j))) : RV F w (.fsl k es) (.slice (some ⟨b, o, none⟩) n n)
  | fp (cs : List AV) (b o : Nat) (c : Nat → Value) (h1 : cs.all AV.one = true) (hF : o + cs.length ≤ F b) (hc : ∀ j, j < cs.length → w.cell? ⟨b, o + j, none⟩ = some (c j))
      (hr : ∀ j, j < cs.length → RV F w (cs.getD j (.v undef)) (c j)) : RV F w (.fp cs) (.pointer (some ⟨b, o, none⟩))
  | rp (b k i f : Nat) : RV F w (.rp b k i f) (.pointer (some ⟨b, i * k + f, none⟩))
  | agg (cs : List AV) (vs : Array Value) (hl : vs.size = cs.length) (h : ∀ j, j < cs.length → RV F w (cs.getD j (.v undef)) (vs.getD j undef)) : RV F w (.agg cs) (.agg vs)
  | tup (cs : List AV) (vs : Array Value) (hl : vs.size = cs.length) (h : ∀ j, j < cs.length → RV F w (cs.getD j (.v undef)) (vs.getD j undef)) : RV F w (.tup cs) (.tuple vs)

theorem RV.eq {F : Froz} {w : World} {q x : Value} (h : RV F w (.v q) x) : x = q := by cases h; rfl

/-- What was frozen is as it was, and is still frozen. -/
structure Keeps (F : Froz) (w : World) (F' : Froz) (w' : World) : Prop where
  le : ∀ b, F b ≤ F' b
  cell : ∀ b o, o < F b → w'.cell? ⟨b, o, none⟩ = w.cell? ⟨b, o, none⟩

theorem Keeps.refl (F : Froz) (w : World) : Keeps F w F w := ⟨fun _ => Nat.le_refl _, fun _ _ _ => rfl⟩
theorem Keeps.trans {F1 F2 F3 : Froz} {w1 w2 w3 : World} (h : Keeps F1 w1 F2 w2) (h' : Keeps F2 w2 F3 w3) : Keeps F1 w1 F3 w3 :=
  ⟨fun b => Nat.le_trans (h.le b) (h'.le b), fun b o ho => (h'.cell b o (Nat.lt_of_lt_of_le ho (h.le b))).trans (h.cell b o ho)⟩

theorem RV.mono {F F' : Froz} {w w' : World} (hk : Keeps F w F' w') {a : AV} {x : Value} (h : RV F w a x) : RV F' w' a x := by
  induction h with
  | v x => exact .v x
  | sl0 k a cap => exact .sl0 k a cap
  | sl k es b o c n cap hn hk' hcap hF hc hr ih =>
    exact .sl k es b o c n cap hn hk' hcap (Nat.le_trans hF (hk.le b)) (fun j hj => (hk.cell b (o + j) (by omega)).trans (hc j hj)) ih
  | fsl0 k a => exact .fsl0 k a
  | fsl k es b o c n hn hk' hF hc hr ih =>
    exact .fsl k es b o c n hn hk' (Nat.le_trans hF (hk.le b)) (fun j hj => (hk.cell b (o + j) (by omega)).trans (hc j hj)) ih
  | fp cs b o c h1 hF hc hr ih =>
    exact .fp cs b o c h1 (Nat.le_trans hF (hk.le b)) (fun j hj => (hk.cell b (o + j) (by omega)).trans (hc j hj)) ih
  | rp b k i f => exact .rp b k i f
  | agg cs vs hl h ih => exact .agg cs vs hl ih
  | tup cs vs hl h ih => exact .tup cs vs hl ih

/-- The cells of what is read, one by one. -/
def RVs (F : Froz) (w : World) (cs : List AV) (vs : List Value) : Prop := vs.length = cs.length ∧ ∀ j, j < cs.length → RV F w (cs.getD j (.v undef)) (vs.getD j undef)

theorem RVs.mono {F F' : Froz} {w w' : World} (hk : Keeps F w F' w') {cs : List AV} {vs : List Value} (h : RVs F w cs vs) : RVs F' w' cs vs := ⟨h.1, fun j hj => (h.2 j hj).mono hk⟩

theorem RV.cells {F : Froz} {w : World} {a : AV} {x : Value} (h : RV F w a x) : RVs F w a.cells x.cells.toList := by
  cases h with
  | v x =>
    cases x with
    | agg cs =>
      refine ⟨by simp [AV.cells, Value.cells], fun j hj => ?_⟩
      simp [AV.cells] at hj
      simp [AV.cells, Value.cells, List.getD_eq_getElem?_getD, hj]
      exact .v _
    | _ =>
      refine ⟨by simp [AV.cells, Value.cells], fun j hj => ?_⟩
      simp [AV.cells] at hj
      subst hj
      exact .v _
  | agg cs vs hl h =>
    refine ⟨by simpa [AV.cells, Value.cells] using hl, fun j hj => ?_⟩
    simp only [AV.cells] at hj
    have := h j hj
    simpa [AV.cells, Value.cells] using this
  | sl0 k a cap => exact ⟨rfl, fun j hj => by obtain rfl : j = 0 := by simpa [AV.cells] using hj
                                              exact .sl0 k a cap⟩
  | sl k es b o c n cap hn hk hcap hF hc hr => exact ⟨rfl, fun j hj => by obtain rfl : j = 0 := by simpa [AV.cells] using hj
                                                                          exact .sl k es b o c n cap hn hk hcap hF hc hr⟩
  | fsl0 k a => exact ⟨rfl, fun j hj => by obtain rfl : j = 0 := by simpa [AV.cells] using hj
                                           exact .fsl0 k a⟩
  | fsl k es b o c n hn hk hF hc hr => exact ⟨rfl, fun j hj => by obtain rfl : j = 0 := by simpa [AV.cells] using hj
                                                                  exact .fsl k es b o c n hn hk hF hc hr⟩
  | fp cs b o c h1 hF hc hr => exact ⟨rfl, fun j hj => by obtain rfl : j = 0 := by simpa [AV.cells] using hj
                                                          exact .fp cs b o c h1 hF hc hr⟩
  | rp b k i f => exact ⟨rfl, fun j hj => by obtain rfl : j = 0 := by simpa [AV.cells] using hj
                                             exact .rp b k i f⟩
  | tup cs vs hl h => exact ⟨rfl, fun j hj => by obtain rfl : j = 0 := by simpa [AV.cells] using hj
                                                 exact .tup cs vs hl h⟩

theorem RV.one {F : Froz} {w : World} {a : AV} {x : Value} (h : RV F w a x) (h1 : a.one = true) : x.oneCell' = true := by
  cases h <;> first | exact h1 | rfl | (simp [AV.one] at h1)

/-- A map's entries, one by one. -/
def KVs (F : Froz) (w : World) : List (Value × AV) → List MapEntry → Prop
  | [], [] => True
  | (x, v) :: l, e :: es => e.key = x ∧ RV F w v e.val ∧ KVs F w l es
  | _, _ => False
theorem KVs.mono {F F' : Froz} {w w' : World} (hk : Keeps F w F' w') : ∀ {kv : List (Value × AV)} {es : List MapEntry}, KVs F w kv es → KVs F' w' kv es
  | [], [], h => h
  | (x, v) :: l, e :: es, h => ⟨h.1, h.2.1.mono hk, h.2.2.mono hk⟩
  | [], _ :: _, h => h.elim
  | _ :: _, [], h => h.elim

/-- What is tracked of block b holds in the world. -/
def Holds (F : Froz) (w : World) (b : Nat) : AObj → Prop
  | .cells cs => ∃ c e m, w.heap[b]? = some (.cells c e m) ∧ c.size = cs.length ∧ (∀ i, i < c.size → ¬ (m.1 ≤ i ∧ i < m.2)) ∧ F b = 0 ∧ cs.all AV.one = true ∧ ∀ j, j < cs.length → RV F w (cs.getD j (.v undef)) (c.getD j undef)
  | .rows k es frz cap => ∃ c e m, w.heap[b]? = some (.cells c e m) ∧ cap * k ≤ c.size ∧ es.length ≤ cap ∧ (∀ e ∈ es, e.length = k ∧ e.all AV.one = true) ∧ (∀ i, i < c.size → ¬ (m.1 ≤ i ∧ i < m.2)) ∧ F b = (if frz then es.length * k else 0) ∧
      ∀ i j, i < es.length → j < k → RV F w ((es.getD i []).getD j (.v undef)) (c.getD (i * k + j) undef)
  | .map kv => ∃ es clk, w.heap[b]? = some (.map es clk) ∧ F b = 0 ∧ KVs F w kv es.toList
  | .loop fr n ps assign body st pend => ∃ r, w.heap[b]? = some (.loop r) ∧ F b = 0 ∧ r.params.toList = ps ∧ r.assign = assign ∧ r.body = body ∧ r.state = st ∧ r.pending = pend ∧ r.tmps.size = n ∧ (okCode n assign = true ∧ okCode n body = true ∧ ∀ t ∈ ps, t < n) ∧ ∀ t, t < n → RV F w (fr t) (r.tmps.getD t undef)

/-- Of each block what is tracked holds; of no block more cells are frozen than there are. -/
structure Rel (F : Froz) (w : World) (σ : St) : Prop where
  obj : ∀ b o, σ b = some o → Holds F w b o
  lt : ∀ b, w.heap.size ≤ b → F b = 0

theorem Rel.lt_size {F : Froz} {w : World} {σ : St} (h : Rel F w σ) {b : Nat} {o : AObj} (hb : σ b = some o) : b < w.heap.size := by
  have := h.obj b o hb
  rcases Nat.lt_or_ge b w.heap.size with h' | h'
  · exact h'
  · cases o <;> simp [Holds, Array.getElem?_eq_none h'] at this

/-- From (F, w), of which σ is tracked, to (F', w'), of which σ' is: what was frozen is kept; what was there and was not tracked is as it was, and is not tracked. -/
structure Ext (F : Froz) (w : World) (σ : St) (F' : Froz) (w' : World) (σ' : St) : Prop where
  keeps : Keeps F w F' w'
  os : w'.os = w.os
  tape : w'.tape = w.tape
  output : w'.output = w.output
  size : w.heap.size ≤ w'.heap.size
  old : ∀ b, b < w.heap.size → σ b = none → w'.heap[b]? = w.heap[b]? ∧ σ' b = none ∧ F' b = F b

theorem Ext.refl (F : Froz) (w : World) (σ : St) : Ext F w σ F w σ := ⟨.refl F w, rfl, rfl, rfl, Nat.le_refl _, fun b _ h => ⟨rfl, h, rfl⟩⟩
theorem Ext.trans {F1 F2 F3 : Froz} {w1 w2 w3 : World} {σ1 σ2 σ3 : St} (h : Ext F1 w1 σ1 F2 w2 σ2) (h' : Ext F2 w2 σ2 F3 w3 σ3) : Ext F1 w1 σ1 F3 w3 σ3 :=
  ⟨h.keeps.trans h'.keeps, h'.os.trans h.os, h'.tape.trans h.tape, h'.output.trans h.output, Nat.le_trans h.size h'.size, fun b hb hs => by
    obtain ⟨h1, h2, h3⟩ := h.old b hb hs
    obtain ⟨k1, k2, k3⟩ := h'.old b (Nat.lt_of_lt_of_le hb h.size) h2
    exact ⟨k1.trans h1, k2, k3.trans h3⟩⟩

theorem Keeps.drew (F : Froz) (w : World) : Keeps F w F w.drew := ⟨fun _ => Nat.le_refl _, fun _ _ _ => rfl⟩
theorem Ext.drew {F F' : Froz} {w w' : World} {σ σ' : St} (h : Ext F w σ F' w' σ') : Ext F w σ F' w'.drew σ' :=
  h.trans ⟨.drew _ _, rfl, rfl, rfl, Nat.le_refl _, fun b _ h => ⟨rfl, h, rfl⟩⟩

theorem Holds.mono {F F' : Froz} {w w' : World} (hk : Keeps F w F' w') {b : Nat} {o : AObj} (h : Holds F w b o) (hb : w'.heap[b]? = w.heap[b]?) (hF : F' b = F b) : Holds F' w' b o := by
  cases o with
  | cells cs =>
    obtain ⟨c, e, m, h1, h2, h3, h4, h4', h5⟩ := h
    exact ⟨c, e, m, hb.trans h1, h2, h3, hF.trans h4, h4', fun j hj => (h5 j hj).mono hk⟩
  | rows k es frz cap =>
    obtain ⟨c, e, m, h1, h2, h3, h4, h5, h6, h7⟩ := h
    exact ⟨c, e, m, hb.trans h1, h2, h3, h4, h5, hF.trans h6, fun i j hi hj => (h7 i j hi hj).mono hk⟩
  | map kv =>
    obtain ⟨es, clk, h1, h2, h3⟩ := h
    exact ⟨es, clk, hb.trans h1, hF.trans h2, h3.mono hk⟩
  | loop fr n ps assign body st pend =>
    obtain ⟨r, h1, h2, h3, h4, h5, h6, h7, h8, h9, h10⟩ := h
    exact ⟨r, hb.trans h1, hF.trans h2, h3, h4, h5, h6, h7, h8, h9, fun t ht => (h10 t ht).mono hk⟩

theorem Rel.drew {F : Froz} {w : World} {σ : St} (h : Rel F w σ) : Rel F w.drew σ :=
  ⟨fun b o hb => (h.obj b o hb).mono (.drew F w) rfl rfl, h.lt⟩

def Fr.up (fr : Fr) (t : Nat) (v : AV) : Fr := fun x => if x = t then v else fr x
def Fr.put (fr : Fr) : Option Nat → AV → Fr
  | some t, v => fr.up t v
  | none, _ => fr

structure FrRel (F : Froz) (w : World) (n : Nat) (fr : Fr) (a : Act) : Prop where
  size : a.tmps.size = n
  slot : ∀ t, t < n → RV F w (fr t) (a.tmps.getD t undef)

theorem FrRel.mono {F F' : Froz} {w w' : World} {n : Nat} {fr : Fr} {a : Act} (hk : Keeps F w F' w') (h : FrRel F w n fr a) : FrRel F' w' n fr a :=
  ⟨h.size, fun t ht => (h.slot t ht).mono hk⟩

theorem FrRel.put {F : Froz} {w : World} {n : Nat} {fr : Fr} {a : Act} (h : FrRel F w n fr a) (d : Option Nat) (hd : ∀ t, d = some t → t < n) {v : AV} {x : Value} (hv : RV F w v x) : FrRel F w n (fr.put d v) (a.put d x) := by
  cases d with
  | none => exact h
  | some t =>
    have ht := hd t rfl
    refine ⟨by simpa [Act.put] using h.size, fun s hs => ?_⟩
    simp only [Fr.put, Fr.up, Act.put]
    by_cases hst : s = t
    · subst hst
      rw [if_pos rfl]
      simp [Array.getElem?_setIfInBounds, h.size, ht]
      exact hv
    · rw [if_neg hst]
      have := h.slot s hs
      simp only [Array.getD_eq_getD_getElem?, Array.getElem?_setIfInBounds] at this ⊢
      rw [if_neg (by omega)]
      exact this

/-- A constant as a tree. -/
def ofConst : Value → AV
  | .agg cs => .agg (cs.toList.map .v)
  | .tuple cs => .tup (cs.toList.map .v)
  | x => .v x

theorem RV.ofConst (F : Froz) (w : World) (x : Value) : RV F w (ofConst x) x := by
  cases x <;> first
    | exact .v _
    | (refine .agg _ _ (by simp) (fun j hj => ?_); simp at hj; simp [List.getD_eq_getElem?_getD, hj]; exact .v _)
    | (refine .tup _ _ (by simp) (fun j hj => ?_); simp at hj; simp [List.getD_eq_getElem?_getD, hj]; exact .v _)

def Fr.ev (fr : Fr) : Operand → AV
  | .tmp t => fr t
  | .const v => ofConst v
  | .global g => .v (.pointer (some ⟨g, 0, none⟩))
  | .func f => .v (.func (.func f) #[] #[])

theorem FrRel.ev {F : Froz} {w : World} {n : Nat} {fr : Fr} {a : Act} (h : FrRel F w n fr a) (x : Operand) (hx : opdIn n x = true) : RV F w (fr.ev x) (a.eval x) := by
  cases x with
  | tmp t => exact h.slot t (by simpa [opdIn] using hx)
  | const v => exact .ofConst F w v
  | global g => exact .v _
  | func f => exact .v _

end Go.Av

/-
  The program logic, part 2: what each operation does to trees and tracked blocks; and that it does so.
  Conditions: none (a library of definitions and lemmas over any program).
-/
namespace Go.Av
open Go Go.RowKit

/-- The kind of a type. `sl`: the element's cells, bytes and zero cells, is it a byte?; `arr`: how many, the element's cells, is the element a struct or an array?; `st`: of each field its offset, its cells, is it a struct or an array? -/
inductive TD where
  | int (k : IntKind)
  | bool
  | str
  | ptr (e : TypeId)
  | sl (esz eby : Nat) (ez : List Value) (byt : Bool)
  | arr (n esz : Nat) (eag : Bool)
  | st (fs : List (Nat × Nat × Bool))
  | map (k e : TypeId)
  | iface
  | other

/-- What the operations ask of a type. -/
structure TK where
  ag : Bool
  sz : Nat
  zr : List Value
  td : TD

def tdOf (P : Program) : TypeDesc → TD
  | .int k => .int k
  | .bool => .bool
  | .string => .str
  | .pointer e => .ptr e
  | .slice e => match P.info? e with
    | some i => match i.zero with
      | some z => if z.cells.size = i.size then .sl i.size i.bytes z.cells.toList (match P.underlying e with | some (.int .u8) => true | _ => false) else .other
      | none => .other
    | none => .other
  | .array n e => match P.info? e with
    | some i => match P.underlying e with
      | some d => .arr n i.size d.isRow
      | none => .other
    | none => .other
  | .struct fs => if fs.toList.all (fun f => (P.info? f.type).isSome && (P.underlying f.type).isSome) then .st (fs.toList.map fun f => (f.offset, P.cellsOf f.type, match P.underlying f.type with | some d => d.isRow | none => false)) else .other
  | .map k e => .map k e
  | .interface _ => .iface
  | _ => .other

def isAggV : Value → Bool
  | .agg _ => true
  | _ => false
/-- The zero value, as a tree. -/
def TK.zav (k : TK) : AV := if k.ag then .agg (k.zr.map .v) else .v (k.zr.headD undef)
def tk (P : Program) (t : TypeId) : Option TK :=
  match P.info? t with
  | some i => match P.underlying t with
    | some d => match i.zero with
      | some z => if z.cells.toList.all Value.oneCell' && (isAggV z == d.isRow) then some { ag := d.isRow, sz := i.size, zr := z.cells.toList, td := tdOf P d } else none
      | none => none
    | none => none
  | none => none

section
variable {P : Program}
theorem tk_info {t : TypeId} {k : TK} (h : tk P t = some k) : ∃ i d z, P.info? t = some i ∧ P.underlying t = some d ∧ i.zero = some z ∧ k.ag = d.isRow ∧ k.sz = i.size ∧ k.zr = z.cells.toList ∧ k.td = tdOf P d ∧ k.zr.all Value.oneCell' = true := by
  unfold tk at h
  cases hi : P.info? t with
  | none => simp [hi] at h
  | some i =>
    cases hd : P.underlying t with
    | none => simp [hi, hd] at h
    | some d =>
      cases hz : i.zero with
      | none => simp [hi, hd, hz] at h
      | some z =>
        simp only [hi, hd, hz] at h
        split at h
        · rename_i hone
          replace hone := (Bool.and_eq_true _ _ ▸ hone : _ ∧ _).1
          simp only [Option.some.injEq] at h
          subst h
          exact ⟨i, d, z, rfl, rfl, hz, rfl, rfl, rfl, rfl, hone⟩
        · cases h

theorem tk_zero {t : TypeId} {k : TK} (h : tk P t = some k) (F : Froz) (w : World) : ∃ i z, P.info? t = some i ∧ i.zero = some z ∧ RV F w k.zav z := by
  unfold tk at h
  cases hi : P.info? t with
  | none => simp [hi] at h
  | some i =>
    cases hd : P.underlying t with
    | none => simp [hi, hd] at h
    | some d =>
      cases hz : i.zero with
      | none => simp [hi, hd, hz] at h
      | some z =>
        simp only [hi, hd, hz] at h
        split at h
        · rename_i hone
          have hag := (Bool.and_eq_true _ _ ▸ hone : _ ∧ _).2
          simp only [Option.some.injEq] at h
          subst h
          refine ⟨i, z, rfl, hz, ?_⟩
          unfold TK.zav
          simp only
          rw [beq_iff_eq] at hag
          rw [← hag]
          cases z with
          | agg cs => exact RV.ofConst F w (.agg cs)
          | _ => exact RV.v _
        · cases h

theorem run_isAgg {t : TypeId} {d : TypeDesc} (h : P.underlying t = some d) (w : World) : (isAgg t).run P w = .ok d.isRow w := by
  unfold isAgg
  rw [Sem.run_bind, run_underlying h w]
  cases d <;> simp [TypeDesc.isRow]

theorem run_sizeOf' {t : TypeId} {i : TypeInfo} (h : P.info? t = some i) (w : World) : (sizeOf t).run P w = .ok i.size w := by
  simp [sizeOf, typeInfo, h]
theorem run_zero' {t : TypeId} {i : TypeInfo} {z : Value} (h : P.info? t = some i) (hz : i.zero = some z) (w : World) : (zeroValue t).run P w = .ok z w := by
  simp [zeroValue, typeInfo, h, hz]
end

/-! ### The operation is carried out -/
/-- The fence that lets all in, within a round or not. -/
def wd (ro : Option Nat) : Fence := { Fence.wide with round := ro }
theorem semAt_of {P : Program} {o : Oper} {ρ : Operand → Value} {w w' : World} {y : Next} (ro : Option Nat) (hr : (execOp ρ o).run P w = .ok y w') (hy : ∀ d, y ≠ .defer d) : o.semAt ro ρ = execOp ρ o :=
  Oper.semAt_eq _ _ _ fun c hc => by
    simp only [execOp, hc, Sem.run_bind] at hr
    cases hq : (resolve ρ c o.type).run P w with
    | ok d w2 =>
      rw [hq] at hr
      simp only [Result.andThen_ok, Sem.run_pure] at hr
      injection hr with hr _
      exact hy _ hr.symm
    | _ => rw [hq] at hr; cases hr
/-- Called as a deferred call where nothing panics, the function does nothing. -/
def IdleF (P : Program) (f : FuncId) (vs : Array Value) : Prop :=
  ∀ w, CallsDIn Fence.wide 0 P f vs .returning w fun e u' w' => (∃ v, e = .returned v) ∧ u' = .returning ∧ w' = w
def IdleD (P : Program) (d : Deferred) : Prop :=
  ∃ fv cap f args, d.target = .fn fv cap ∧ (∀ w, (invoke d.target d.args).run P w = .ok (.enter f args) w) ∧ IdleF P f args
/-- Wherever what is tracked holds, the operation comes to a value, and on to k. -/
def OpOk (P : Program) (o : Oper) (a : Act) (F : Froz) (w : World) (σ : St) (k : AV → St → Prop) : Prop :=
  ∀ (ro : Option Nat) (next : Act → World → Prop) (Q : Exit → Act → World → Prop), (ro = none ∨ notDefer o.op = true) →
    (∀ F' w' x v σ' ds, Ext F w σ F' w' σ' → Rel F' w' σ' → RV F' w' v x → k v σ' → (∀ d ∈ ds, IdleD P d) → next { (a.put o.dst x) with defers := ds ++ a.defers } w') → o.wpIn (wd ro) 0 P a w next Q
theorem put_none (a : Act) (d : Option Nat) (x : Value) : ({ (a.put d x) with defers := [] ++ a.defers } : Act) = a.put d x := by cases d <;> rfl
theorem put_some (a : Act) (d : Option Nat) (x : Value) (l : List Deferred) : ({ a with defers := l ++ a.defers } : Act).put d x = { (a.put d x) with defers := l ++ a.defers } := by cases d <;> rfl

section
variable {P : Program} {o : Oper} {a : Act} {F : Froz} {w : World} {σ : St} {k : AV → St → Prop}
theorem next0 {next : Act → World → Prop} (hn : ∀ F' w' x v σ' ds, Ext F w σ F' w' σ' → Rel F' w' σ' → RV F' w' v x → k v σ' → (∀ d ∈ ds, IdleD P d) → next { (a.put o.dst x) with defers := ds ++ a.defers } w') :
    ∀ F' w' x v σ', Ext F w σ F' w' σ' → Rel F' w' σ' → RV F' w' v x → k v σ' → next (a.put o.dst x) w' := fun F' w' x v σ' h1 h2 h3 h4 => by
  have := hn F' w' x v σ' [] h1 h2 h3 h4 (fun d hd => by cases hd)
  rw [put_none] at this
  exact this
theorem opOk_value {x : Value} {v : AV} {F' : Froz} {w' : World} {σ' : St} (hr : (execOp a.eval o).run P w = .ok (.value x) w') (he : Ext F w σ F' w' σ') (hs : Rel F' w' σ') (hv : RV F' w' v x) (hk : k v σ') : OpOk P o a F w σ k := by
  intro ro next Q _ hn
  refine ⟨fun _ _ => trivial, ?_⟩
  rw [semAt_of _ hr (fun d h => by cases h), hr]
  have := hn F' w' x v σ' [] he hs hv hk (fun d hd => by cases hd)
  rw [put_none] at this
  exact this
theorem opOk_pure {x : Value} {v : AV} (hs : Rel F w σ) (hr : (execOp a.eval o).run P w = .ok (.value x) w) (hv : RV F w v x) (hk : k v σ) : OpOk P o a F w σ k :=
  opOk_value hr (.refl F w σ) hs hv hk
theorem opOk_skip {F' : Froz} {w' : World} {σ' : St} (hr : (execOp a.eval o).run P w = .ok .skip w') (he : Ext F w σ F' w' σ') (hs : Rel F' w' σ') (hk : k (.v undef) σ') : OpOk P o a F w σ k := by
  intro ro next Q _ hn
  refine ⟨fun _ _ => trivial, ?_⟩
  rw [semAt_of _ hr (fun d h => by cases h), hr]
  have := hn F' w' undef (.v undef) σ' [] he hs (.v _) hk (fun d hd => by cases hd)
  rw [put_none] at this
  exact this
end

/-! ### New blocks -/
section
variable {F : Froz} {w : World} {σ : St}
theorem fresh_none (h : Rel F w σ) {b : Nat} (hb : w.heap.size ≤ b) : σ b = none := by
  cases hs : σ b with
  | none => rfl
  | some o => exact absurd (h.lt_size hs) (by omega)

theorem Keeps.alloc (h : Rel F w σ) (o : Obj) : Keeps F w F (w.alloc o) :=
  ⟨fun _ => Nat.le_refl _, fun b off ho => by
    have : b < w.heap.size := by
      rcases Nat.lt_or_ge b w.heap.size with h' | h'
      · exact h'
      · have := h.lt b h'; omega
    exact World.cell?_alloc_lt w o _ this⟩

/-- A new block, tracked. -/
theorem rel_alloc (h : Rel F w σ) (o : Obj) (t : AObj) (ht : Holds F (w.alloc o) w.heap.size t) : Rel F (w.alloc o) (σ.set w.heap.size t) ∧ Ext F w σ F (w.alloc o) (σ.set w.heap.size t) := by
  have hkp := Keeps.alloc h o
  refine ⟨⟨fun b x hb => ?_, fun b hb => h.lt b (by simp at hb; omega)⟩, ⟨hkp, rfl, rfl, rfl, by simp, fun b hb hs => ⟨Below.heap_alloc w o b hb, ?_, rfl⟩⟩⟩
  · simp only [St.set] at hb
    by_cases hbb : b = w.heap.size
    · rw [if_pos hbb] at hb
      injection hb with hb
      subst hb
      subst hbb
      exact ht
    · rw [if_neg hbb] at hb
      exact (h.obj b x hb).mono hkp (Below.heap_alloc w o b (h.lt_size hb)) rfl
  · simp only [St.set]
    rw [if_neg (by omega)]
    exact hs

/-- A new block of cells, frozen at once, not tracked. -/
def frzAt (F : Froz) (b n : Nat) : Froz := fun x => if x = b then n else F x
theorem keeps_frz (h : Rel F w σ) (o : Obj) (n : Nat) : Keeps F w (frzAt F w.heap.size n) (w.alloc o) :=
  ⟨fun b => by
      unfold frzAt
      split
      · rename_i hb; rw [hb, h.lt _ (Nat.le_refl _)]; exact Nat.zero_le _
      · exact Nat.le_refl _, (Keeps.alloc h o).cell⟩
theorem rel_frz (h : Rel F w σ) (o : Obj) (n : Nat) : Rel (frzAt F w.heap.size n) (w.alloc o) σ ∧ Ext F w σ (frzAt F w.heap.size n) (w.alloc o) σ := by
  have hkp := keeps_frz h o n
  refine ⟨⟨fun b x hb => ?_, fun b hb => ?_⟩, ⟨hkp, rfl, rfl, rfl, by simp, fun b hb hs => ⟨Below.heap_alloc w o b hb, hs, ?_⟩⟩⟩
  · have hlt := h.lt_size hb
    exact (h.obj b x hb).mono hkp (Below.heap_alloc w o b hlt) (by unfold frzAt; rw [if_neg (by omega)])
  · simp at hb
    unfold frzAt
    rw [if_neg (by omega)]
    exact h.lt b (by omega)
  · unfold frzAt
    rw [if_neg (by omega)]
end

theorem getD_map_v (l : List Value) (j : Nat) (hj : j < l.length) : (l.map AV.v).getD j (.v undef) = .v (l.getD j undef) := by
  simp [List.getD_eq_getElem?_getD, hj]
theorem RVs.ofVals (F : Froz) (w : World) (l : List Value) : RVs F w (l.map .v) l := ⟨by simp, fun j hj => by
  simp at hj
  rw [getD_map_v l j hj]
  exact .v _⟩

/-! ### alloc, box -/
def aAlloc (i : Option TK) (σ : St) (k : AV → St → Prop) : Prop :=
  match i with
  | some i => ∀ b, σ b = none → k (.v (.pointer (some ⟨b, 0, none⟩))) (σ.set b (.cells (i.zr.map .v)))
  | none => False
def aBox (x : AV) (σ : St) (k : AV → St → Prop) : Prop := x.cells.all AV.one = true ∧ ∀ b, σ b = none → k (.v (.pointer (some ⟨b, 0, none⟩))) (σ.set b (.cells x.cells))

theorem holds_new {F : Froz} {w : World} {σ : St} (h : Rel F w σ) {cs : List AV} {vs : Array Value} (e : TypeId) (hv : RVs F w cs vs.toList) (h1 : cs.all AV.one = true) : Holds F (w.alloc (.cells vs e)) w.heap.size (.cells cs) := by
  have hkp := Keeps.alloc h (.cells vs e)
  have hl : vs.size = cs.length := by have := hv.1; simpa using this
  refine ⟨vs, e, (0, 0), heap_alloc_new w _, hl, fun i _ hi => by simp at hi, h.lt _ (Nat.le_refl _), h1, fun j hj => ?_⟩
  have := (hv.2 j hj).mono hkp
  simpa using this

section
variable {P : Program} {o : Oper} {n : Nat} {fr : Fr} {a : Act} {F : Froz} {w : World} {σ : St} {k : AV → St → Prop}
theorem sound_alloc {e : TypeId} (ho : o.op = .alloc e) (hs : Rel F w σ) (h : aAlloc (tk P e) σ k) : OpOk P o a F w σ k := by
  cases ht : tk P e with
  | none => simp [ht, aAlloc] at h
  | some i =>
    obtain ⟨inf, d, z, h1, h2, h3, h4, h5, h6, h7, h8⟩ := tk_info ht
    simp only [ht, aAlloc] at h
    obtain ⟨r1, r2⟩ := rel_alloc hs (.cells z.cells e) (.cells (i.zr.map .v)) (holds_new hs e (by rw [h6]; exact RVs.ofVals F w _) (by rw [List.all_map]; exact h8))
    refine opOk_value (x := .pointer (some ⟨w.heap.size, 0, none⟩)) ?_ r2 r1 (.v _) (h _ (fresh_none hs (Nat.le_refl _)))
    simp [execOp, ho, Instr.alloc, run_zero' h1 h3, newVar, newRow]
theorem sound_box {e : TypeId} {x : Operand} (ho : o.op = .box e x) (hx : opdIn n x = true) (hf : FrRel F w n fr a) (hs : Rel F w σ) (h : aBox (fr.ev x) σ k) : OpOk P o a F w σ k := by
  have hv := (hf.ev x hx).cells
  obtain ⟨r1, r2⟩ := rel_alloc hs (.cells (a.eval x).cells e) (.cells (fr.ev x).cells) (holds_new hs e hv h.1)
  refine opOk_value (x := .pointer (some ⟨w.heap.size, 0, none⟩)) ?_ r2 r1 (.v _) (h.2 _ (fresh_none hs (Nat.le_refl _)))
  simp [execOp, ho, Instr.box, newVar, newRow]
end

/-! ### load, store, addresses -/
def aLoad (i : Option TK) (σ : St) (p : AV) (k : AV → Prop) : Prop :=
  match i with
  | none => False
  | some i => match p with
    | .fp cs => if i.ag then i.sz ≤ cs.length ∧ k (.agg (cs.take i.sz)) else 0 < cs.length ∧ k (cs.getD 0 (.v undef))
    | .v (.pointer (some ⟨b, o, none⟩)) => match σ b with
      | some (.cells cs) => if i.ag then o + i.sz ≤ cs.length ∧ k (.agg ((cs.drop o).take i.sz)) else o < cs.length ∧ k (cs.getD o (.v undef))
      | _ => False
    | .rp b q j f => match σ b with
      | some (.rows q' es _ _) => q' = q ∧ j < es.length ∧ (if i.ag then f + i.sz ≤ q ∧ k (.agg (((es.getD j []).drop f).take i.sz)) else f < q ∧ k ((es.getD j []).getD f (.v undef)))
      | _ => False
    | _ => False

/-- The cells o, o + 1, .. of cs lie in block b from offset p on. -/
theorem run_load_of {P : Program} {w : World} {t : TypeId} {i : TK} (ht : tk P t = some i) {F : Froz} {cs : List AV} {b p o : Nat} {c : Nat → Value}
    (hc : ∀ j, j < cs.length → w.cell? ⟨b, p + j, none⟩ = some (c j)) (hr : ∀ j, j < cs.length → RV F w (cs.getD j (.v undef)) (c j))
    (hag : i.ag = true → o + i.sz ≤ cs.length) (hna : i.ag = false → o < cs.length) :
    ∃ x, (Instr.loadAt t (.pointer (some ⟨b, p + o, none⟩))).run P w = .ok x w ∧ RV F w (if i.ag then .agg ((cs.drop o).take i.sz) else cs.getD o (.v undef)) x := by
  obtain ⟨inf, d, z, h1, h2, h3, h4, h5, h6, h7, h8⟩ := tk_info ht
  cases hg : i.ag with
  | true =>
    have hl := hag hg
    have hvl : (((List.range i.sz).map fun j => c (o + j)) : List Value).length = i.sz := by simp
    refine ⟨.agg ((List.range i.sz).map fun j => c (o + j)).toArray, ?_, ?_⟩
    · refine run_loadAt_mid w b (p + o) t _ d (fun j v hv => ?_) h2 (by rw [← h4, hg]) (by rw [h1, hvl]; simp [h5])
      simp only [List.getElem?_map, List.getElem?_range] at hv
      have hj : j < i.sz := by
        rcases Nat.lt_or_ge j i.sz with h | h
        · exact h
        · rw [List.getElem?_eq_none (by simpa using h)] at hv; simp at hv
      simp [List.getElem?_range, hj] at hv
      subst hv
      have := hc (o + j) (by omega)
      rwa [← Nat.add_assoc] at this
    · rw [if_pos rfl]
      refine .agg _ _ (by simp; omega) (fun j hj => ?_)
      have hj' : j < i.sz := by simp at hj; omega
      have e1 : ((cs.drop o).take i.sz).getD j (.v undef) = cs.getD (o + j) (.v undef) := by
        simp [List.getD_eq_getElem?_getD, List.getElem?_take, hj', List.getElem?_drop]
      have e2 : (((List.range i.sz).map fun j => c (o + j)).toArray).getD j undef = c (o + j) := by
        simp [hj']
      rw [e1, e2]
      exact hr (o + j) (by omega)
  | false =>
    have hl := hna hg
    refine ⟨c o, ?_, by simpa using hr o hl⟩
    have ha := run_isAgg (P := P) h2 w
    rw [← h4, hg] at ha
    simp [Instr.loadAt, Instr.sureAddr, loadVar, ha, hc o hl]

section
variable {P : Program} {o : Oper} {n : Nat} {fr : Fr} {a : Act} {F : Froz} {w : World} {σ : St} {k : AV → Prop}
theorem sound_load {t : TypeId} {x : Operand} (ho : o.op = .load t x) (hx : opdIn n x = true) (hf : FrRel F w n fr a) (hs : Rel F w σ) (h : aLoad (tk P t) σ (fr.ev x) k) : OpOk P o a F w σ fun v σ' => σ' = σ ∧ k v := by
  cases ht : tk P t with
  | none => simp [ht, aLoad] at h
  | some i =>
    have hv := hf.ev x hx
    have fin : ∀ y v, (Instr.loadAt t (a.eval x)).run P w = .ok y w → RV F w v y → k v → OpOk P o a F w σ fun v σ' => σ' = σ ∧ k v := by
      intro y v hr hv hk
      refine opOk_pure hs (x := y) ?_ hv ⟨rfl, hk⟩
      simp [execOp, ho, hr]
    simp only [ht, aLoad] at h
    cases hq : fr.ev x with
    | fp cs =>
      rw [hq] at hv h
      simp only at h
      cases hv' : a.eval x with
      | pointer q =>
        rw [hv'] at hv
        cases hv with
        | fp _ b off c hone hF hc hr =>
          have hag : i.ag = true → 0 + i.sz ≤ cs.length := fun hg => by rw [if_pos hg] at h; omega
          have hna : i.ag = false → 0 < cs.length := fun hg => by rw [if_neg (by simp [hg])] at h; exact h.1
          obtain ⟨y, hy, hyv⟩ := run_load_of ht (o := 0) hc hr hag hna
          refine fin y _ (by rw [hv']; exact hy) hyv ?_
          cases hg : i.ag with
          | true => rw [if_pos hg] at h; simpa using h.2
          | false => rw [if_neg (by simp [hg])] at h; simpa using h.2
      | _ => rw [hv'] at hv; cases hv
    | v q =>
      rw [hq] at hv h
      have hv' := hv.eq
      cases q with
      | pointer ad =>
        cases ad with
        | none => simp at h
        | some ad =>
          obtain ⟨b, off, sp⟩ := ad
          cases sp with
          | some _ => simp at h
          | none =>
            simp only at h
            cases hb : σ b with
            | none => simp [hb] at h
            | some ob =>
              cases ob with
              | rows _ _ _ _ => simp [hb] at h
              | map _ => simp [hb] at h
              | loop _ _ _ _ _ _ _ => simp [hb] at h
              | cells cs =>
                simp only [hb] at h
                obtain ⟨c, e, m, g1, g2, g3, g4, g4', g5⟩ := hs.obj b _ hb
                have hcell : ∀ j, j < cs.length → w.cell? ⟨b, 0 + j, none⟩ = some (c.getD j undef) := fun j hj => by
                  simp [World.cell?, g1, Array.getD_eq_getD_getElem?, g2, hj]
                have hag : i.ag = true → off + i.sz ≤ cs.length := fun hg => by rw [if_pos hg] at h; exact h.1
                have hna : i.ag = false → off < cs.length := fun hg => by rw [if_neg (by simp [hg])] at h; exact h.1
                obtain ⟨y, hy, hyv⟩ := run_load_of ht (o := off) hcell g5 hag hna
                rw [Nat.zero_add] at hy
                refine fin y _ (by rw [hv']; exact hy) hyv ?_
                cases hg : i.ag with
                | true => rw [if_pos hg] at h; simpa using h.2
                | false => rw [if_neg (by simp [hg])] at h; simpa using h.2
      | _ => simp at h
    | rp b q j f =>
      rw [hq] at hv h
      cases hv' : a.eval x with
      | pointer ad =>
        rw [hv'] at hv
        cases hv
        simp only at h
        cases hb : σ b with
        | none => simp [hb] at h
        | some ob =>
          cases ob with
          | cells _ => simp [hb] at h
          | map _ => simp [hb] at h
          | loop _ _ _ _ _ _ _ => simp [hb] at h
          | rows q' es frz cap =>
            simp only [hb] at h
            obtain ⟨rfl, hj, h⟩ := h
            obtain ⟨c, e, m, g1, g2, g3, g4, g5, g6, g7⟩ := hs.obj b _ hb
            have hlen : (es.getD j []).length = q' := by
              rw [List.getD_eq_getElem?_getD, List.getElem?_eq_getElem hj]
              exact (g4 _ (List.getElem_mem hj)).1
            have hjq : j * q' + q' ≤ c.size := by
              have : (j + 1) * q' ≤ cap * q' := Nat.mul_le_mul_right _ (by omega)
              rw [Nat.succ_mul] at this
              omega
            have hcell : ∀ x, x < (es.getD j []).length → w.cell? ⟨b, j * q' + x, none⟩ = some (c.getD (j * q' + x) undef) := fun x hx => by
              have hlt : j * q' + x < c.size := by omega
              simp [World.cell?, g1, Array.getD_eq_getD_getElem?, hlt]
            have hag : i.ag = true → f + i.sz ≤ (es.getD j []).length := fun hg => by rw [if_pos hg] at h; omega
            have hna : i.ag = false → f < (es.getD j []).length := fun hg => by rw [if_neg (by simp [hg])] at h; omega
            obtain ⟨y, hy, hyv⟩ := run_load_of ht (o := f) hcell (fun x hx => g7 j x hj (by omega)) hag hna
            refine fin y _ (by rw [hv']; exact hy) hyv ?_
            cases hg : i.ag with
            | true => rw [if_pos hg] at h; simpa using h.2
            | false => rw [if_neg (by simp [hg])] at h; simpa using h.2
      | _ => rw [hv'] at hv; cases hv
    | _ => rw [hq] at h; simp at h
end

end Go.Av

/-
  The program logic, part 3: stores, addresses, indexes, slices.
  Conditions: none (a library of definitions and lemmas over any program).
-/
namespace Go.Av
open Go Go.RowKit

/-! ### store -/
theorem heap_setCells_other (b : Nat) : ∀ (vs : List Value) (o : Nat) (w : World) (x : Nat), x ≠ b → (w.setCells b o vs).heap[x]? = w.heap[x]?
  | [], _, _, _, _ => rfl
  | v :: r, o, w, x, h => by rw [World.setCells, heap_setCells_other b r _ _ x h, Below.heap_setCell _ _ _ _ h]

theorem heap_setCells (b : Nat) (e : TypeId) (m : Nat × Nat) : ∀ (vs : List Value) (o : Nat) (w : World) (c : Array Value), w.heap[b]? = some (.cells c e m) →
    ∃ c', (w.setCells b o vs).heap[b]? = some (.cells c' e m) ∧ c'.size = c.size ∧ ∀ j, c'.getD j undef = if o ≤ j ∧ j < o + vs.length ∧ j < c.size then vs.getD (j - o) undef else c.getD j undef
  | [], o, w, c, h => ⟨c, h, rfl, fun j => by rw [if_neg (by simp; omega)]⟩
  | v :: r, o, w, c, h => by
    have h1 : (w.setCell ⟨b, o, none⟩ v).heap[b]? = some (.cells (c.setIfInBounds o v) e m) := by
      simp [World.setCell, Array.getElem?_modify, h]
    obtain ⟨c', g1, g2, g3⟩ := heap_setCells b e m r (o + 1) _ _ h1
    refine ⟨c', g1, by rw [g2]; simp, fun j => ?_⟩
    rw [g3 j]
    simp only [Array.size_setIfInBounds, List.length_cons]
    by_cases h1 : o + 1 ≤ j ∧ j < o + 1 + r.length ∧ j < c.size
    · rw [if_pos h1, if_pos (by omega)]
      rw [show j - o = (j - (o + 1)) + 1 by omega]
      simp
    · rw [if_neg h1]
      by_cases hj : j = o
      · subst hj
        by_cases hlt : j < c.size
        · rw [if_pos (by omega)]
          simp [Array.getD_eq_getD_getElem?, Array.getElem?_setIfInBounds, hlt]
        · rw [if_neg (by omega)]
          simp [Array.getD_eq_getD_getElem?, Array.getElem?_setIfInBounds, hlt, Array.getElem?_eq_none (Nat.le_of_not_lt hlt)]
      · rw [if_neg (by omega)]
        simp only [Array.getD_eq_getD_getElem?, Array.getElem?_setIfInBounds]
        rw [if_neg (by omega)]

theorem size_setCells (b : Nat) : ∀ (vs : List Value) (o : Nat) (w : World), (w.setCells b o vs).heap.size = w.heap.size
  | [], _, _ => rfl
  | v :: r, o, w => by rw [World.setCells, size_setCells b r]; simp
theorem rest_setCells (b : Nat) : ∀ (vs : List Value) (o : Nat) (w : World), (w.setCells b o vs).os = w.os ∧ (w.setCells b o vs).tape = w.tape ∧ (w.setCells b o vs).output = w.output
  | [], _, _ => ⟨rfl, rfl, rfl⟩
  | v :: r, o, w => by rw [World.setCells]; exact rest_setCells b r _ _

def splice (cs : List AV) (o : Nat) (xs : List AV) : List AV := cs.take o ++ xs ++ cs.drop (o + xs.length)
theorem splice_length (cs : List AV) (o : Nat) (xs : List AV) (h : o + xs.length ≤ cs.length) : (splice cs o xs).length = cs.length := by
  simp [splice]; omega
theorem splice_getD (cs : List AV) (o : Nat) (xs : List AV) (h : o + xs.length ≤ cs.length) (j : Nat) (d : AV) :
    (splice cs o xs).getD j d = if o ≤ j ∧ j < o + xs.length then xs.getD (j - o) d else cs.getD j d := by
  simp only [splice, List.getD_eq_getElem?_getD]
  by_cases h1 : j < o
  · rw [if_neg (by omega), List.append_assoc, List.getElem?_append_left (by simp; omega), List.getElem?_take_of_lt h1]
  · by_cases h2 : j < o + xs.length
    · rw [if_pos (by omega), List.append_assoc, List.getElem?_append_right (by simp; omega)]
      have : (cs.take o).length = o := by simp; omega
      rw [this, List.getElem?_append_left (by omega)]
    · rw [if_neg (by omega), List.getElem?_append_right (by simp; omega)]
      have : (cs.take o ++ xs).length = o + xs.length := by simp; omega
      rw [this, List.getElem?_drop]
      congr 2
      omega

theorem splice_one (cs : List AV) (o : Nat) (xs : List AV) (h1 : cs.all AV.one = true) (h2 : xs.all AV.one = true) : (splice cs o xs).all AV.one = true := by
  simp only [splice, List.all_append, Bool.and_eq_true]
  exact ⟨⟨List.all_eq_true.2 fun x hx => List.all_eq_true.1 h1 x (List.mem_of_mem_take hx), h2⟩, List.all_eq_true.2 fun x hx => List.all_eq_true.1 h1 x (List.mem_of_mem_drop hx)⟩

def aStore (i : Option TK) (σ : St) (p x : AV) (k : St → Prop) : Prop :=
  match i with
  | none => False
  | some i => x.cells.length = i.sz ∧ x.cells.all AV.one = true ∧ match p with
    | .v (.pointer (some ⟨b, o, none⟩)) => match σ b with
      | some (.cells cs) => o + i.sz ≤ cs.length ∧ k (σ.set b (.cells (splice cs o x.cells)))
      | _ => False
    | .rp b q j f => match σ b with
      | some (.rows q' es false cap) => q' = q ∧ j < es.length ∧ f + i.sz ≤ q ∧ k (σ.set b (.rows q (es.set j (splice (es.getD j []) f x.cells)) false cap))
      | _ => False
    | _ => False

section
variable {P : Program} {o : Oper} {n : Nat} {fr : Fr} {a : Act} {F : Froz} {w : World} {σ : St} {k : St → Prop}

/-- A store into an unfrozen block b that is tracked. -/
theorem store_ext (hs : Rel F w σ) {b : Nat} {t : AObj} (hb : σ b = some t) (hF : F b = 0) (p : Nat) (vs : List Value) (t' : AObj) (ht : Keeps F w F (w.setCells b p vs) → Holds F (w.setCells b p vs) b t') :
    Rel F (w.setCells b p vs) (σ.set b t') ∧ Ext F w σ F (w.setCells b p vs) (σ.set b t') := by
  have hkp : Keeps F w F (w.setCells b p vs) := ⟨fun _ => Nat.le_refl _, fun x off ho => by
    have hne : x ≠ b := fun e => by subst e; omega
    exact World.cell?_of_block (w := w) (heap_setCells_other b vs p w x hne)⟩
  obtain ⟨e1, e2, e3⟩ := rest_setCells b vs p w
  refine ⟨⟨fun x y hx => ?_, fun x hx => hs.lt x (by rw [size_setCells] at hx; exact hx)⟩, ⟨hkp, e1, e2, e3, by rw [size_setCells]; exact Nat.le_refl _, fun x hx hn => ?_⟩⟩
  · simp only [St.set] at hx
    by_cases hxb : x = b
    · rw [if_pos hxb] at hx
      injection hx with hx
      subst hx
      subst hxb
      exact ht hkp
    · rw [if_neg hxb] at hx
      exact (hs.obj x y hx).mono hkp (heap_setCells_other b vs p w x hxb) rfl
  · have hne : x ≠ b := fun e => by subst e; simp [hb] at hn
    exact ⟨heap_setCells_other b vs p w x hne, by simp [St.set, hne, hn], rfl⟩

theorem run_store_of {t : TypeId} {i : TK} (ht : tk P t = some i) {b p : Nat} {x : Value} (hl : x.cells.size = i.sz) (hone : ∀ v ∈ x.cells.toList, v.oneCell' = true) (hth : w.there b p i.sz) :
    (Instr.storeAt t (.pointer (some ⟨b, p, none⟩)) x).run P w = .ok () (w.setCells b p x.cells.toList) := by
  obtain ⟨inf, d, z, h1, h2, h3, h4, h5, h6, h7, h8⟩ := tk_info ht
  have := run_storeCells_cells (P := P) b p x.cells.toList 0 w (fun j hj => by simpa using (hth j (by simp at hj; omega)).1) (fun j hj => by simpa using (hth j (by simp at hj; omega)).2) hone
  simp only [Nat.add_zero] at this
  simp [Instr.storeAt, Instr.sureAddr, storeVar, run_sizeOf' h1, hl, h5, this]

theorem one_of_RVs {cs : List AV} {vs : List Value} (h : RVs F w cs vs) (h1 : cs.all AV.one = true) : ∀ v ∈ vs, v.oneCell' = true := by
  intro v hv
  obtain ⟨j, hj, rfl⟩ := List.getElem_of_mem hv
  have hj' : j < cs.length := by rw [← h.1]; exact hj
  have h2 := h.2 j hj'
  have e : vs.getD j undef = vs[j] := by simp [List.getD_eq_getElem?_getD, hj]
  rw [e] at h2
  refine h2.one ?_
  have : cs.getD j (.v undef) = cs[j] := by simp [List.getD_eq_getElem?_getD, hj']
  rw [this]
  exact (List.all_eq_true.1 h1) _ (List.getElem_mem hj')

theorem sound_store {t : TypeId} {x y : Operand} (ho : o.op = .store t x y) (hx : opdIn n x = true) (hy : opdIn n y = true) (hf : FrRel F w n fr a) (hs : Rel F w σ) (h : aStore (tk P t) σ (fr.ev x) (fr.ev y) k) : OpOk P o a F w σ fun v σ' => v = .v undef ∧ k σ' := by
  cases ht : tk P t with
  | none => simp [ht, aStore] at h
  | some i =>
    have hv := hf.ev x hx
    have hyc := (hf.ev y hy).cells
    simp only [ht, aStore] at h
    obtain ⟨hl, hone, h⟩ := h
    have hl' : (a.eval y).cells.size = i.sz := by have := hyc.1; simp at this; omega
    have hone' := one_of_RVs hyc hone
    cases hq : fr.ev x with
    | v q =>
      rw [hq] at hv h
      have hv' := hv.eq
      cases q with
      | pointer ad =>
        cases ad with
        | none => simp at h
        | some ad =>
          obtain ⟨b, off, sp⟩ := ad
          cases sp with
          | some _ => simp at h
          | none =>
            simp only at h
            cases hb : σ b with
            | none => simp [hb] at h
            | some ob =>
              cases ob with
              | rows _ _ _ _ => simp [hb] at h
              | map _ => simp [hb] at h
              | loop _ _ _ _ _ _ _ => simp [hb] at h
              | cells cs =>
                simp only [hb] at h
                obtain ⟨c, e, m, g1, g2, g3, g4, g4', g5⟩ := hs.obj b _ hb
                have hth : w.there b off i.sz := fun j hj => by
                  have hlt : off + j < c.size := by omega
                  refine ⟨by simp [World.cell?, g1, hlt], ?_⟩
                  have := g3 (off + j) hlt
                  simp only [World.frozen?, g1]
                  simpa using this
                have hr := run_store_of ht (x := a.eval y) hl' hone' hth
                obtain ⟨c', k1, k2, k3⟩ := heap_setCells b e m (a.eval y).cells.toList off w c g1
                obtain ⟨r1, r2⟩ := store_ext hs hb g4 off (a.eval y).cells.toList (.cells (splice cs off (fr.ev y).cells)) (fun hkp =>
                  ⟨c', e, m, k1, by rw [k2, g2, splice_length _ _ _ (by omega)], by rw [k2]; exact g3, g4, splice_one _ _ _ g4' hone, fun j hj => by
                    rw [splice_length _ _ _ (by omega)] at hj
                    rw [splice_getD _ _ _ (by omega), k3 j]
                    by_cases hin : off ≤ j ∧ j < off + (fr.ev y).cells.length
                    · rw [if_pos hin, if_pos (by rw [hyc.1]; omega)]
                      exact (hyc.2 (j - off) (by omega)).mono hkp
                    · rw [if_neg hin, if_neg (by rw [hyc.1]; omega)]
                      exact (g5 j hj).mono hkp⟩)
                refine opOk_skip ?_ r2 r1 ⟨rfl, h.2⟩
                simp [execOp, ho, hv', hr]
      | _ => simp at h
    | rp b q j f =>
      rw [hq] at hv h
      cases hv' : a.eval x with
      | pointer ad =>
        rw [hv'] at hv
        cases hv
        simp only at h
        cases hb : σ b with
        | none => simp [hb] at h
        | some ob =>
          cases ob with
          | cells _ => simp [hb] at h
          | map _ => simp [hb] at h
          | loop _ _ _ _ _ _ _ => simp [hb] at h
          | rows q' es frz cap =>
            cases frz with
            | true => simp [hb] at h
            | false =>
              simp only [hb] at h
              obtain ⟨rfl, hj, hfq, h⟩ := h
              obtain ⟨c, e, m, g1, g2, g3, g4, g5, g6, g7⟩ := hs.obj b _ hb
              have hlen : (es.getD j []).length = q' := by
                rw [List.getD_eq_getElem?_getD, List.getElem?_eq_getElem hj]
                exact (g4 _ (List.getElem_mem hj)).1
              have hjq : j * q' + q' ≤ c.size := by
                have : (j + 1) * q' ≤ cap * q' := Nat.mul_le_mul_right _ (by omega)
                rw [Nat.succ_mul] at this
                omega
              have hF0 : F b = 0 := by rw [g6]; rfl
              have hone1 : (es.getD j []).all AV.one = true := by
                rw [List.getD_eq_getElem?_getD, List.getElem?_eq_getElem hj]
                exact (g4 _ (List.getElem_mem hj)).2
              have hth : w.there b (j * q' + f) i.sz := fun x hx => by
                have hlt : j * q' + f + x < c.size := by omega
                refine ⟨by simp [World.cell?, g1, hlt], ?_⟩
                have := g5 (j * q' + f + x) hlt
                simp only [World.frozen?, g1]
                simpa using this
              have hr := run_store_of ht (x := a.eval y) hl' hone' hth
              obtain ⟨c', k1, k2, k3⟩ := heap_setCells b e m (a.eval y).cells.toList (j * q' + f) w c g1
              obtain ⟨r1, r2⟩ := store_ext hs hb hF0 (j * q' + f) (a.eval y).cells.toList (.rows q' (es.set j (splice (es.getD j []) f (fr.ev y).cells)) false cap) (fun hkp =>
                ⟨c', e, m, k1, by rw [k2]; exact g2, by simpa using g3, fun e' he' => by
                    rcases List.mem_or_eq_of_mem_set he' with h' | rfl
                    · exact g4 e' h'
                    · exact ⟨by rw [splice_length _ _ _ (by omega), hlen], splice_one _ _ _ hone1 hone⟩, by rw [k2]; exact g5, by rw [g6]; rfl, fun x y' hx hy' => by
                    simp only [List.length_set] at hx
                    rw [k3]
                    by_cases hxj : x = j
                    · subst hxj
                      have e1 : (es.set x (splice (es.getD x []) f (fr.ev y).cells)).getD x [] = splice (es.getD x []) f (fr.ev y).cells := by
                        simp [List.getD_eq_getElem?_getD, hj]
                      rw [e1, splice_getD _ _ _ (by omega)]
                      by_cases hin : f ≤ y' ∧ y' < f + (fr.ev y).cells.length
                      · rw [if_pos hin, if_pos (by rw [hyc.1]; omega)]
                        rw [show x * q' + y' - (x * q' + f) = y' - f by omega]
                        exact (hyc.2 (y' - f) (by omega)).mono hkp
                      · rw [if_neg hin, if_neg (by rw [hyc.1]; omega)]
                        exact (g7 x y' hx hy').mono hkp
                    · have e1 : (es.set j (splice (es.getD j []) f (fr.ev y).cells)).getD x [] = es.getD x [] := by
                        simp [List.getD_eq_getElem?_getD, List.getElem?_set, Ne.symm hxj]
                      rw [e1, if_neg ?_]
                      · exact (g7 x y' hx hy').mono hkp
                      · rw [hyc.1]
                        intro hcon
                        rcases Nat.lt_or_gt_of_ne hxj with hlt | hgt
                        · have : (x + 1) * q' ≤ j * q' := Nat.mul_le_mul_right _ (by omega)
                          rw [Nat.succ_mul] at this
                          omega
                        · have : (j + 1) * q' ≤ x * q' := Nat.mul_le_mul_right _ (by omega)
                          rw [Nat.succ_mul] at this
                          omega⟩)
              refine opOk_skip ?_ r2 r1 ⟨rfl, h⟩
              simp [execOp, ho, hv', hr]
      | _ => rw [hv'] at hv; cases hv
    | _ => rw [hq] at h; simp at h
end
end Go.Av

/-
  The program logic, part 4: addresses, indexes, fields, slices, built values.
  Conditions: none (a library of definitions and lemmas over any program).
-/
namespace Go.Av
open Go Go.RowKit

section
variable {P : Program} {o : Oper} {n : Nat} {fr : Fr} {a : Act} {F : Froz} {w : World} {σ : St} {k : AV → Prop}

/-- The operation is quiet: it comes to v, and changes nothing. -/
def Quiet (P : Program) (o : Oper) (a : Act) (F : Froz) (w : World) (k : AV → Prop) : Prop := ∃ x v, (execOp a.eval o).run P w = .ok (.value x) w ∧ RV F w v x ∧ k v
theorem Quiet.ok (h : Quiet P o a F w k) (hs : Rel F w σ) : OpOk P o a F w σ fun v σ' => σ' = σ ∧ k v := by
  obtain ⟨x, v, hr, hv, hk⟩ := h
  exact opOk_pure hs hr hv ⟨rfl, hk⟩

theorem drop_one {cs : List AV} (h : cs.all AV.one = true) (j : Nat) : (cs.drop j).all AV.one = true := List.all_eq_true.2 fun x hx => List.all_eq_true.1 h x (List.mem_of_mem_drop hx)

/-! ### nilCheck -/
def aNil (x : AV) (k : AV → Prop) : Prop :=
  match x with
  | .v (.pointer (some a)) => k (.v (.pointer (some a)))
  | .v (.func (.func f) x y) => k (.v (.func (.func f) x y))
  | .v (.func (.yield f) x y) => k (.v (.func (.yield f) x y))
  | .fp cs => k (.fp cs)
  | .rp b q i f => k (.rp b q i f)
  | _ => False
theorem sound_nil {x : Operand} (ho : o.op = .nilCheck x) (hx : opdIn n x = true) (hf : FrRel F w n fr a) (h : aNil (fr.ev x) k) : Quiet P o a F w k := by
  have hv := hf.ev x hx
  revert h hv
  generalize fr.ev x = q
  intro h hv
  unfold aNil at h
  split at h
  · have e := hv.eq
    exact ⟨_, _, by simp [execOp, ho, e], .v _, h⟩
  · have e := hv.eq
    exact ⟨_, _, by simp [execOp, ho, e], .v _, h⟩
  · have e := hv.eq
    exact ⟨_, _, by simp [execOp, ho, e], .v _, h⟩
  · cases e : a.eval x with
    | pointer q =>
      rw [e] at hv
      refine ⟨a.eval x, _, ?_, by rw [e]; exact hv, h⟩
      cases hv
      simp [execOp, ho, e]
    | _ => rw [e] at hv; cases hv
  · cases e : a.eval x with
    | pointer q =>
      rw [e] at hv
      refine ⟨a.eval x, _, ?_, by rw [e]; exact hv, h⟩
      cases hv
      simp [execOp, ho, e]
    | _ => rw [e] at hv; cases hv
  · exact h.elim

/-! ### fieldAddr, field -/
def aFadr (i : Option TK) (f : Nat) (x : AV) (k : AV → Prop) : Prop :=
  match i with
  | some i => match i.td with
    | .st fs => match fs[f]? with
      | some (off, sz, _) => 0 < sz ∧ match x with
        | .v (.pointer (some ⟨b, p, none⟩)) => k (.v (.pointer (some ⟨b, p + off, none⟩)))
        | .fp cs => off ≤ cs.length ∧ k (.fp (cs.drop off))
        | .rp b q j g => k (.rp b q j (g + off))
        | _ => False
      | none => False
    | _ => False
  | none => False

theorem td_st {d : TypeDesc} {fs : List (Nat × Nat × Bool)} (h : tdOf P d = .st fs) : ∃ gs, d = .struct gs ∧ (∀ (j : Nat) (f : Field), gs[j]? = some f → ∃ i e, P.info? f.type = some i ∧ P.underlying f.type = some e ∧ fs[j]? = some (f.offset, i.size, e.isRow)) ∧ (∀ j : Nat, fs[j]?.isSome = true → gs[j]?.isSome = true) := by
  cases d with
  | struct gs =>
    simp only [tdOf] at h
    split at h
    · rename_i hall
      injection h with h
      subst h
      refine ⟨gs, rfl, fun j f hj => ?_, fun j hj => ?_⟩
      · have hmem : f ∈ gs.toList := by
          have := Array.mem_of_getElem? hj
          simpa using this
        have h2 := (List.all_eq_true.1 hall) f hmem
        simp only [Bool.and_eq_true] at h2
        obtain ⟨i, hi⟩ := Option.isSome_iff_exists.1 h2.1
        obtain ⟨e, he⟩ := Option.isSome_iff_exists.1 h2.2
        refine ⟨i, e, hi, he, ?_⟩
        have : gs.toList[j]? = some f := by simpa using hj
        simp [this, he, Program.cellsOf, hi]
      · simp only [List.getElem?_map] at hj
        simpa using hj
    · cases h
  | slice e => simp only [tdOf] at h; (repeat' split at h) <;> cases h
  | array n e => simp only [tdOf] at h; (repeat' split at h) <;> cases h
  | _ => simp [tdOf] at h

theorem run_fieldAt_of {s f : Nat} {gs : Array Field} {g : Field} {i : TypeInfo} (hu : P.underlying s = some (.struct gs)) (hg : gs[f]? = some g) (hi : P.info? g.type = some i) (h0 : 0 < i.size) (ad : Addr) :
    (Instr.fieldAt s (.pointer (some ad)) f).run P w = .ok (.pointer (some (ad.add g.offset))) w := by
  have : i.size ≠ 0 := by omega
  simp [Instr.fieldAt, run_underlying hu, hg, Instr.sureAddr, fieldPlace, run_sizeOf' hi, this]

theorem sound_fadr {s f : Nat} {x : Operand} (ho : o.op = .fieldAddr s x f) (hx : opdIn n x = true) (hf : FrRel F w n fr a) (h : aFadr (tk P s) f (fr.ev x) k) : Quiet P o a F w k := by
  cases ht : tk P s with
  | none => simp [ht, aFadr] at h
  | some i =>
    obtain ⟨inf, d, z, h1, h2, h3, h4, h5, h6, h7, h8⟩ := tk_info ht
    simp only [ht, aFadr] at h
    cases htd : i.td with
    | st fs =>
      simp only [htd] at h
      obtain ⟨gs, rfl, hgs, hgn⟩ := td_st (P := P) (by rw [← h7, htd])
      cases hfs : fs[f]? with
      | none => simp [hfs] at h
      | some q =>
        obtain ⟨off, sz, ag⟩ := q
        simp only [hfs] at h
        obtain ⟨g, hg⟩ := Option.isSome_iff_exists.1 (hgn f (by simp [hfs]))
        obtain ⟨j, e, hj, he, hjf⟩ := hgs f g hg
        rw [hfs] at hjf
        simp only [Option.some.injEq, Prod.mk.injEq] at hjf
        obtain ⟨rfl, rfl, rfl⟩ := hjf
        have hrun := fun ad => run_fieldAt_of (w := w) h2 hg hj h.1 ad
        have hv := hf.ev x hx
        have h' := h.2
        clear h
        revert h' hv
        generalize fr.ev x = q
        intro hv h'
        unfold Quiet execOp
        simp only [ho]
        split at h'
        · rename_i b p
          have e1 := hv.eq
          refine ⟨_, _, ?_, .v _, h'⟩
          rw [e1]
          simp [hrun, Addr.add_mid]
        · rename_i cs
          cases e1 : a.eval x with
          | pointer ad =>
            rw [e1] at hv
            cases hv with
            | fp _ b p c hone hF hc hr =>
              refine ⟨.pointer (some ⟨b, p + g.offset, none⟩), _, by simp [hrun, Addr.add_mid], ?_, h'.2⟩
              refine .fp _ b (p + g.offset) (fun y => c (g.offset + y)) (drop_one hone _) (by simp; omega) (fun y hy => ?_) (fun y hy => ?_)
              · simp at hy
                rw [Nat.add_assoc]
                exact hc _ (by omega)
              · simp at hy
                have := hr (g.offset + y) (by omega)
                simpa [List.getD_eq_getElem?_getD, List.getElem?_drop] using this
          | _ => rw [e1] at hv; cases hv
        · rename_i b q' j' g'
          cases e1 : a.eval x with
          | pointer ad =>
            rw [e1] at hv
            cases hv
            refine ⟨.pointer (some ⟨b, j' * q' + (g' + g.offset), none⟩), _, ?_, .rp _ _ _ _, h'⟩
            simp [hrun, Addr.add_mid, Nat.add_assoc]
          | _ => rw [e1] at hv; cases hv
        · exact h'.elim
    | _ => simp [htd] at h

/-- The part of some cells that a field of a struct, an element of an array takes. -/
def aPart (ag : Bool) (off sz : Nat) (cs : List AV) (k : AV → Prop) : Prop := if ag then off + sz ≤ cs.length ∧ k (.agg ((cs.drop off).take sz)) else off < cs.length ∧ k (cs.getD off (.v undef))
theorem run_part_of {t : TypeId} {i : TypeInfo} {d : TypeDesc} (hi : P.info? t = some i) (hd : P.underlying t = some d) {cs : List AV} {vs : Array Value} (off : Nat)
    (hl : vs.size = cs.length) (hr : ∀ j, j < cs.length → RV F w (cs.getD j (.v undef)) (vs.getD j undef)) (h : aPart d.isRow off i.size cs k) :
    ∃ x v, (part t vs off).run P w = .ok x w ∧ RV F w v x ∧ k v := by
  have ha := run_isAgg (P := P) hd w
  unfold aPart at h
  cases hg : d.isRow with
  | true =>
    rw [hg] at ha
    rw [if_pos hg] at h
    refine ⟨.agg (vs.extract off (off + i.size)), _, by simp [part, ha, run_sizeOf' hi], .agg _ _ (by simp; omega) (fun j hj => ?_), h.2⟩
    have hj' : j < i.size := by simp at hj; omega
    have := hr (off + j) (by omega)
    have e1 : ((cs.drop off).take i.size).getD j (.v undef) = cs.getD (off + j) (.v undef) := by
      simp [List.getD_eq_getElem?_getD, List.getElem?_take, hj', List.getElem?_drop]
    have e2 : (vs.extract off (off + i.size)).getD j undef = vs.getD (off + j) undef := by
      simp only [Array.getD_eq_getD_getElem?, Array.getElem?_extract]
      rw [if_pos (by omega)]
    rw [e1, e2]
    exact this
  | false =>
    rw [hg] at ha
    rw [if_neg (by simp [hg])] at h
    have hlt : off < vs.size := by omega
    refine ⟨vs.getD off undef, _, ?_, hr off h.1, h.2⟩
    simp [part, ha, hlt]

def aFld (i : Option TK) (f : Nat) (x : AV) (k : AV → Prop) : Prop :=
  match i with
  | some i => match i.td with
    | .st fs => match fs[f]? with
      | some (off, sz, ag) => match x with
        | .agg cs => aPart ag off sz cs k
        | _ => False
      | none => False
    | _ => False
  | none => False
theorem sound_fld {s f : Nat} {x : Operand} (ho : o.op = .field s x f) (hx : opdIn n x = true) (hf : FrRel F w n fr a) (h : aFld (tk P s) f (fr.ev x) k) : Quiet P o a F w k := by
  cases ht : tk P s with
  | none => simp [ht, aFld] at h
  | some i =>
    obtain ⟨inf, d, z, h1, h2, h3, h4, h5, h6, h7, h8⟩ := tk_info ht
    simp only [ht, aFld] at h
    cases htd : i.td with
    | st fs =>
      simp only [htd] at h
      obtain ⟨gs, rfl, hgs, hgn⟩ := td_st (P := P) (by rw [← h7, htd])
      cases hfs : fs[f]? with
      | none => simp [hfs] at h
      | some q =>
        obtain ⟨off, sz, ag⟩ := q
        simp only [hfs] at h
        obtain ⟨g, hg⟩ := Option.isSome_iff_exists.1 (hgn f (by simp [hfs]))
        obtain ⟨j, e, hj, he, hjf⟩ := hgs f g hg
        rw [hfs] at hjf
        simp only [Option.some.injEq, Prod.mk.injEq] at hjf
        obtain ⟨rfl, rfl, rfl⟩ := hjf
        have hv := hf.ev x hx
        cases hq : fr.ev x with
        | agg cs =>
          rw [hq] at h hv
          simp only at h
          cases e1 : a.eval x with
          | agg vs =>
            rw [e1] at hv
            cases hv with
            | agg _ _ hl hr =>
              obtain ⟨y, v, r1, r2, r3⟩ := run_part_of hj he g.offset hl hr h
              refine ⟨y, v, ?_, r2, r3⟩
              simp [execOp, ho, e1, Instr.field, run_underlying h2, hg, asAgg, r1]
          | _ => rw [e1] at hv; cases hv
        | _ => rw [hq] at h; simp at h
    | _ => simp [htd] at h

/-! ### indexAddr, index -/
def aIadr (i : Option TK) (σ : St) (x ix : AV) (k : AV → Prop) : Prop :=
  match i with
  | some i => match ix with
    | .v (.int _ j) => match i.td with
      | .arr m esz _ => match x with
        | .v (.pointer (some ⟨b, p, none⟩)) => 0 ≤ j ∧ j < m ∧ k (.v (.pointer (some ⟨b, p + j.toNat * esz, none⟩)))
        | .fp cs => 0 ≤ j ∧ j < m ∧ j.toNat * esz ≤ cs.length ∧ k (.fp (cs.drop (j.toNat * esz)))
        | .rp b q r f => 0 ≤ j ∧ j < m ∧ k (.rp b q r (f + j.toNat * esz))
        | _ => False
      | .sl esz _ _ _ => match x with
        | .sl q es => q = esz ∧ 0 ≤ j ∧ j < es.length ∧ k (.fp (es.getD j.toNat []))
        | .fsl q es => q = esz ∧ 0 ≤ j ∧ j < es.length ∧ k (.fp (es.getD j.toNat []))
        | .v (.slice (some ⟨b, p, none⟩) n _) => p % esz = 0 ∧ 0 ≤ j ∧ j < n ∧ k (.rp b esz (p / esz + j.toNat) 0)
        | _ => False
      | _ => False
    | _ => False
  | none => False

theorem td_arr {d : TypeDesc} {m esz : Nat} {ag : Bool} (h : tdOf P d = .arr m esz ag) : ∃ e i g, d = .array m e ∧ P.info? e = some i ∧ i.size = esz ∧ P.underlying e = some g ∧ g.isRow = ag := by
  cases d with
  | array n e =>
    simp only [tdOf] at h
    split at h
    · rename_i i hi
      split at h
      · rename_i g hg
        injection h with h1 h2 h3
        subst h1
        exact ⟨e, i, g, rfl, hi, h2, hg, h3⟩
      · cases h
    · cases h
  | slice e => simp only [tdOf] at h; (repeat' split at h) <;> cases h
  | struct e => simp only [tdOf] at h; (repeat' split at h) <;> cases h
  | _ => simp [tdOf] at h
theorem td_sl {d : TypeDesc} {esz eby : Nat} {ez : List Value} {byt : Bool} (h : tdOf P d = .sl esz eby ez byt) : ∃ e i z, d = .slice e ∧ P.info? e = some i ∧ i.size = esz ∧ i.bytes = eby ∧ i.zero = some z ∧ z.cells.toList = ez ∧ z.cells.size = i.size ∧ (byt = true → P.underlying e = some (.int .u8)) := by
  cases d with
  | slice e =>
    simp only [tdOf] at h
    split at h
    · rename_i i hi
      split at h
      · rename_i z hz
        split at h
        · rename_i hsz
          injection h with h1 h2 h3 h4
          refine ⟨e, i, z, rfl, hi, h1, h2, hz, h3, hsz, fun hb => ?_⟩
          subst hb
          split at h4
          · assumption
          · cases h4
        · cases h
      · cases h
    · cases h
  | array n e => simp only [tdOf] at h; (repeat' split at h) <;> cases h
  | struct e => simp only [tdOf] at h; (repeat' split at h) <;> cases h
  | _ => simp [tdOf] at h

theorem run_iadr_arr {t e : TypeId} {m : Nat} {i : TypeInfo} (hu : P.underlying t = some (.array m e)) (hi : P.info? e = some i) (ad : Addr) (kk : IntKind) (j : Int) (h0 : 0 ≤ j) (h1 : j < m) :
    (Instr.indexAt t (.pointer (some ad)) (.int kk j)).run P w = .ok (.pointer (some (ad.add (j.toNat * i.size)))) w := by
  simp [Instr.indexAt, asIntOf, run_underlying hu, Instr.sureAddr, h0, h1, run_sizeOf' hi]
theorem run_iadr_sl {t e : TypeId} {i : TypeInfo} (hu : P.underlying t = some (.slice e)) (hi : P.info? e = some i) (ad : Addr) (len cap : Nat) (kk : IntKind) (j : Int) (h0 : 0 ≤ j) (h1 : j < len) :
    (Instr.indexAt t (.slice (some ad) len cap) (.int kk j)).run P w = .ok (.pointer (some (ad.add (j.toNat * i.size)))) w := by
  simp [Instr.indexAt, asIntOf, run_underlying hu, Instr.sureAddr, h0, h1, run_sizeOf' hi]

/-- An element of a frozen slice, as frozen cells. -/
theorem elem_fp {q : Nat} {es : List (List AV)} {b p : Nat} {c : Nat → Value} (hk : ∀ e ∈ es, e.length = q ∧ e.all AV.one = true) (hF : p + es.length * q ≤ F b) (hc : ∀ j, j < es.length * q → w.cell? ⟨b, p + j, none⟩ = some (c j))
    (hr : ∀ i j, i < es.length → j < q → RV F w ((es.getD i []).getD j (.v undef)) (c (i * q + j))) {r : Nat} (hlt : r < es.length) : RV F w (.fp (es.getD r [])) (.pointer (some ⟨b, p + r * q, none⟩)) := by
  have hlen : (es.getD r []).length = q := by
    rw [List.getD_eq_getElem?_getD, List.getElem?_eq_getElem hlt]
    exact (hk _ (List.getElem_mem hlt)).1
  have hone : (es.getD r []).all AV.one = true := by
    rw [List.getD_eq_getElem?_getD, List.getElem?_eq_getElem hlt]
    exact (hk _ (List.getElem_mem hlt)).2
  have hle : r * q + q ≤ es.length * q := by rw [← Nat.succ_mul]; exact Nat.mul_le_mul_right _ hlt
  refine .fp _ b _ (fun y => c (r * q + y)) hone (by omega) (fun y hy => ?_) (fun y hy => ?_)
  · rw [Nat.add_assoc]
    exact hc _ (by omega)
  · exact hr _ _ hlt (by omega)

theorem sound_iadr {t : TypeId} {x ix : Operand} (ho : o.op = .indexAddr t x ix) (hx : opdIn n x = true) (hix : opdIn n ix = true) (hf : FrRel F w n fr a) (h : aIadr (tk P t) σ (fr.ev x) (fr.ev ix) k) : Quiet P o a F w k := by
  cases ht : tk P t with
  | none => simp [ht, aIadr] at h
  | some i =>
    obtain ⟨inf, d, z, h1, h2, h3, h4, h5, h6, h7, h8⟩ := tk_info ht
    simp only [ht, aIadr] at h
    have hv := hf.ev x hx
    have hiv := hf.ev ix hix
    cases hqi : fr.ev ix with
    | v q =>
      rw [hqi] at hiv h
      have eiv := hiv.eq
      cases q with
      | int kk j =>
        simp only at h
        have hgo : ∀ y, (Instr.indexAt t (a.eval x) (.int kk j)).run P w = .ok y w → (execOp a.eval o).run P w = .ok (.value y) w := fun y hy => by
          simp [execOp, ho, eiv, hy]
        unfold Quiet
        cases htd : i.td with
        | arr m esz ag =>
          obtain ⟨e, ie, g, rfl, k1, rfl, k3, k4⟩ := td_arr (P := P) (by rw [← h7, htd])
          simp only [htd] at h
          have hrun := fun ad h0 h1 => run_iadr_arr (w := w) h2 k1 ad kk j h0 h1
          revert h hv
          generalize fr.ev x = q
          intro hv h
          split at h
          · rename_i b p
            have e1 := hv.eq
            refine ⟨_, _, hgo _ (by rw [e1]; exact hrun _ h.1 h.2.1), ?_, h.2.2⟩
            rw [Addr.add_mid]
            exact .v _
          · rename_i cs
            cases e1 : a.eval x with
            | pointer ad =>
              rw [e1] at hv
              cases hv with
              | fp _ b p c hone hF hc hr =>
                refine ⟨_, _, hgo _ (by rw [e1]; exact hrun _ h.1 h.2.1), ?_, h.2.2.2⟩
                rw [Addr.add_mid]
                refine .fp _ b _ (fun y => c (j.toNat * ie.size + y)) (drop_one hone _) (by simp; omega) (fun y hy => ?_) (fun y hy => ?_)
                · simp at hy
                  rw [Nat.add_assoc]
                  exact hc _ (by omega)
                · simp at hy
                  have := hr (j.toNat * ie.size + y) (by omega)
                  simpa [List.getD_eq_getElem?_getD, List.getElem?_drop] using this
            | _ => rw [e1] at hv; cases hv
          · rename_i b q' r f
            cases e1 : a.eval x with
            | pointer ad =>
              rw [e1] at hv
              cases hv
              refine ⟨_, _, hgo _ (by rw [e1]; exact hrun _ h.1 h.2.1), ?_, h.2.2⟩
              rw [Addr.add_mid, Nat.add_assoc]
              exact .rp _ _ _ _
            | _ => rw [e1] at hv; cases hv
          · exact h.elim
        | sl esz eby ez byt =>
          obtain ⟨e, ie, ze, rfl, k1, rfl, k3, k4, k5, k6, k7⟩ := td_sl (P := P) (by rw [← h7, htd])
          simp only [htd] at h
          have hrun := fun ad len cap h0 h1 => run_iadr_sl (w := w) h2 k1 ad len cap kk j h0 h1
          revert h hv
          generalize fr.ev x = q
          intro hv h
          split at h
          · rename_i q' es
            obtain ⟨rfl, h0, hlt, h⟩ := h
            have hlt' : j.toNat < es.length := by omega
            cases e1 : a.eval x with
            | slice ad len cap =>
              rw [e1] at hv
              cases hv with
              | sl0 _ _ _ => simp at hlt; omega
              | sl _ _ b p c _ _ hn hk hcap hF hc hr =>
                refine ⟨_, _, hgo _ (by rw [e1]; exact hrun _ _ _ h0 (by omega)), ?_, h⟩
                rw [Addr.add_mid]
                exact elem_fp hk hF hc hr hlt'
            | _ => rw [e1] at hv; cases hv
          · rename_i q' es
            obtain ⟨rfl, h0, hlt, h⟩ := h
            have hlt' : j.toNat < es.length := by omega
            cases e1 : a.eval x with
            | slice ad len cap =>
              rw [e1] at hv
              cases hv with
              | fsl0 _ _ => simp at hlt; omega
              | fsl _ _ b p c _ hn hk hF hc hr =>
                refine ⟨_, _, hgo _ (by rw [e1]; exact hrun _ _ _ h0 (by omega)), ?_, h⟩
                rw [Addr.add_mid]
                exact elem_fp hk hF hc hr hlt'
            | _ => rw [e1] at hv; cases hv
          · rename_i b p len cap
            have e1 := hv.eq
            refine ⟨_, _, hgo _ (by rw [e1]; exact hrun _ _ _ h.2.1 h.2.2.1), ?_, h.2.2.2⟩
            have ep : p + j.toNat * ie.size = (p / ie.size + j.toNat) * ie.size + 0 := by
              have := Nat.div_add_mod p ie.size
              rw [h.1, Nat.mul_comm] at this
              rw [Nat.add_mul]
              omega
            rw [Addr.add_mid, ep]
            exact .rp b ie.size (p / ie.size + j.toNat) 0
          · exact h.elim
        | _ => simp [htd] at h
      | _ => simp at h
    | _ => rw [hqi] at h; simp at h

def aIdx (i : Option TK) (x ix : AV) (k : AV → Prop) : Prop :=
  match i with
  | some i => match ix with
    | .v (.int _ j) => match i.td with
      | .arr m esz ag => match x with
        | .agg cs => 0 ≤ j ∧ j < m ∧ aPart ag (j.toNat * esz) esz cs k
        | _ => False
      | .str => match x with
        | .v (.string s) => 0 ≤ j ∧ j < s.size ∧ k (.v (.int .u8 (s.data.toList.getD j.toNat 0).toNat))
        | _ => False
      | _ => False
    | _ => False
  | none => False
theorem td_str {d : TypeDesc} (h : tdOf P d = .str) : d = .string := by
  cases d with
  | array n e => simp only [tdOf] at h; (repeat' split at h) <;> cases h
  | struct e => simp only [tdOf] at h; (repeat' split at h) <;> cases h
  | slice e => simp only [tdOf] at h; (repeat' split at h) <;> cases h
  | string => rfl
  | _ => simp [tdOf] at h
theorem sound_idx {t : TypeId} {x ix : Operand} (ho : o.op = .index t x ix) (hx : opdIn n x = true) (hix : opdIn n ix = true) (hf : FrRel F w n fr a) (h : aIdx (tk P t) (fr.ev x) (fr.ev ix) k) : Quiet P o a F w k := by
  cases ht : tk P t with
  | none => simp [ht, aIdx] at h
  | some i =>
    obtain ⟨inf, d, z, h1, h2, h3, h4, h5, h6, h7, h8⟩ := tk_info ht
    simp only [ht, aIdx] at h
    have hv := hf.ev x hx
    have hiv := hf.ev ix hix
    cases hqi : fr.ev ix with
    | v q =>
      rw [hqi] at hiv h
      have eiv := hiv.eq
      cases q with
      | int kk j =>
        simp only at h
        unfold Quiet
        cases htd : i.td with
        | arr m esz ag =>
          obtain ⟨e, ie, g, rfl, k1, rfl, k3, k4⟩ := td_arr (P := P) (by rw [← h7, htd])
          simp only [htd] at h
          cases hq : fr.ev x with
          | agg cs =>
            rw [hq] at h hv
            simp only at h
            cases e1 : a.eval x with
            | agg vs =>
              rw [e1] at hv
              cases hv with
              | agg _ _ hl hr =>
                obtain ⟨y, v, r1, r2, r3⟩ := run_part_of k1 k3 (j.toNat * ie.size) hl hr (by rw [k4]; exact h.2.2)
                refine ⟨y, v, ?_, r2, r3⟩
                have hjm : j < m := h.2.1
                simp [execOp, ho, e1, eiv, Instr.index, asIntOf, run_underlying h2, h.1, hjm, run_sizeOf' k1, r1]
            | _ => rw [e1] at hv; cases hv
          | _ => rw [hq] at h; simp at h
        | str =>
          have hd := td_str (P := P) (d := d) (by rw [← h7, htd])
          subst hd
          simp only [htd] at h
          revert h hv
          generalize fr.ev x = q
          intro hv h
          split at h
          · rename_i s
            have e1 := hv.eq
            have hlt : j.toNat < s.size := by omega
            have hlt' : j.toNat < s.data.size := hlt
            refine ⟨_, _, ?_, .v _, h.2.2⟩
            have hs : s[j.toNat]? = some (s.data.toList.getD j.toNat 0) := by
              rw [getElem?_pos s j.toNat hlt]
              rw [List.getD_eq_getElem?_getD, Array.getElem?_toList, Array.getElem?_eq_getElem hlt']
              rfl
            simp [execOp, ho, e1, eiv, Instr.index, asIntOf, run_underlying h2, h.1, hs]
          · exact h.elim
        | _ => simp [htd] at h
      | _ => simp at h
    | _ => rw [hqi] at h; simp at h

/-! ### extract, pick -/
def aExt (x : AV) (j : Nat) (k : AV → Prop) : Prop :=
  match x with
  | .tup vs => j < vs.length ∧ k (vs.getD j (.v undef))
  | _ => False
theorem sound_ext {x : Operand} {j : Nat} (ho : o.op = .extract x j) (hx : opdIn n x = true) (hf : FrRel F w n fr a) (h : aExt (fr.ev x) j k) : Quiet P o a F w k := by
  have hv := hf.ev x hx
  revert h hv
  generalize fr.ev x = q
  intro h hv
  unfold aExt at h
  split at h
  · cases e1 : a.eval x with
    | tuple vs =>
      rw [e1] at hv
      cases hv with
      | tup _ _ hl hr =>
        refine ⟨vs.getD j undef, _, ?_, hr j h.1, h.2⟩
        have : j < vs.size := by omega
        simp [execOp, ho, e1, Instr.extract, this]
    | _ => rw [e1] at hv; cases hv
  · exact h.elim

def aPick (c x y : AV) (k : AV → Prop) : Prop :=
  match c with
  | .v (.bool b) => if b = true then k x else k y
  | _ => False
theorem sound_pick {c x y : Operand} (ho : o.op = .pick c x y) (hc : opdIn n c = true) (hx : opdIn n x = true) (hy : opdIn n y = true) (hf : FrRel F w n fr a) (h : aPick (fr.ev c) (fr.ev x) (fr.ev y) k) : Quiet P o a F w k := by
  have hcv := hf.ev c hc
  revert h hcv
  generalize fr.ev c = q
  intro h hcv
  unfold aPick at h
  split at h
  · rename_i b
    have e1 := hcv.eq
    cases b with
    | true => exact ⟨a.eval x, _, by simp [execOp, ho, e1, asBool], hf.ev x hx, by simpa using h⟩
    | false => exact ⟨a.eval y, _, by simp [execOp, ho, e1, asBool], hf.ev y hy, by simpa using h⟩
  · exact h.elim
end
end Go.Av

/-
  The program logic, part 5: slices of slices and strings, built structs, arrays and slices, arithmetic, comparisons, conversions, len.
  Conditions: none (a library of definitions and lemmas over any program).
-/
namespace Go.Av
open Go Go.RowKit

/-- What a slice reads as, if all of it is frozen. -/
def view (q : Nat) (σ : St) : AV → Option (List (List AV))
  | .sl q' es => if q' = q then some es else none
  | .fsl q' es => if q' = q then some es else none
  | .v (.slice none 0 0) => some []
  | .v (.slice (some ⟨b, 0, none⟩) n cap) => match σ b with
    | some (.rows q' es true cap') => if q' = q ∧ n = es.length ∧ cap = cap' then some es else none
    | _ => none
  | _ => none

section
variable {P : Program} {o : Oper} {n : Nat} {fr : Fr} {a : Act} {F : Froz} {w : World} {σ : St} {k : AV → Prop}

theorem rows_sl (hs : Rel F w σ) {b q : Nat} {es : List (List AV)} {cap : Nat} (hb : σ b = some (.rows q es true cap)) : RV F w (.sl q es) (.slice (some ⟨b, 0, none⟩) es.length cap) := by
  obtain ⟨c, e, m, g1, g2, g3, g4, g5, g6, g7⟩ := hs.obj b _ hb
  have hle : es.length * q ≤ cap * q := Nat.mul_le_mul_right _ g3
  refine .sl q es b 0 (fun j => c.getD j undef) _ cap rfl g4 g3 (by rw [g6, if_pos rfl]; omega) (fun j hj => ?_) g7
  have hlt : j < c.size := by omega
  simp [World.cell?, g1, hlt]

theorem view_ok (hs : Rel F w σ) {q : Nat} {x : AV} {X : Value} {es : List (List AV)} (h : view q σ x = some es) (hv : RV F w x X) : RV F w (.sl q es) X := by
  unfold view at h
  split at h
  · split at h
    · rename_i hq; subst hq; injection h with h; subst h; exact hv
    · cases h
  · split at h
    · rename_i hq; subst hq; injection h with h; subst h
      cases hv with
      | fsl0 _ a => exact .sl0 _ _ _
      | fsl _ _ b p c n hn hk hF hc hr => exact .sl _ _ b p c n n hn hk (Nat.le_refl _) hF hc hr
    · cases h
  · injection h with h; subst h
    rw [hv.eq]
    exact .sl0 _ _ _
  · rename_i b nn cap
    split at h
    · rename_i q' es' cap' hb
      split at h
      · rename_i hc
        obtain ⟨rfl, rfl, rfl⟩ := hc
        injection h with h; subst h
        rw [hv.eq]
        exact rows_sl hs hb
      · cases h
    · cases h
  · cases h

/-- What is read now of a slice. -/
def vlook (q : Nat) (σ : St) : AV → Option (List (List AV))
  | .sl q' es => if q' = q then some es else none
  | .fsl q' es => if q' = q then some es else none
  | .v (.slice none 0 0) => some []
  | .v (.slice (some ⟨b, 0, none⟩) n cap) => match σ b with
    | some (.rows q' es _ cap') => if q' = q ∧ n ≤ es.length ∧ n ≤ cap then some (es.take n) else none
    | _ => none
  | _ => none
theorem vlook_ok (hs : Rel F w σ) {q : Nat} {x : AV} {X : Value} {es : List (List AV)} (h : vlook q σ x = some es) (hv : RV F w x X) : ∃ F', RV F' w (.sl q es) X := by
  unfold vlook at h
  split at h
  · split at h
    · rename_i hq; subst hq; injection h with h; subst h; exact ⟨F, hv⟩
    · cases h
  · split at h
    · rename_i hq; subst hq; injection h with h; subst h
      cases hv with
      | fsl0 _ a => exact ⟨F, .sl0 _ _ _⟩
      | fsl _ _ b p c n hn hk hF hc hr => exact ⟨F, .sl _ _ b p c n n hn hk (Nat.le_refl _) hF hc hr⟩
    · cases h
  · injection h with h; subst h
    rw [hv.eq]
    exact ⟨F, .sl0 _ _ _⟩
  · rename_i b nn cap
    split at h
    · rename_i q' es' frz cap' hb
      split at h
      · rename_i hc
        obtain ⟨rfl, hn, hcap⟩ := hc
        injection h with h; subst h
        rw [hv.eq]
        obtain ⟨c, e, m, g1, g2, g3, g4, g5, g6, g7⟩ := hs.obj b _ hb
        have hlen : (es'.take nn).length = nn := by rw [List.length_take]; omega
        have hle : es'.length * q' ≤ cap' * q' := Nat.mul_le_mul_right _ g3
        have hle2 : nn * q' ≤ es'.length * q' := Nat.mul_le_mul_right _ hn
        obtain ⟨F', hF'⟩ : ∃ F' : Froz, F' = fun y => if y = b then max (F b) (nn * q') else F y := ⟨_, rfl⟩
        have hFe : ∀ y, F' y = if y = b then max (F b) (nn * q') else F y := fun y => by rw [hF']
        have hFb : nn * q' ≤ F' b := by rw [hFe, if_pos rfl]; exact Nat.le_max_right _ _
        have hk : Keeps F w F' w := ⟨fun y => by
          rw [hFe]
          by_cases hy : y = b
          · rw [if_pos hy, hy]; exact Nat.le_max_left _ _
          · rw [if_neg hy]; exact Nat.le_refl _, fun _ _ _ => rfl⟩
        refine ⟨F', .sl q' _ b 0 (fun j => c.getD j undef) nn cap hlen.symm (fun x hx => g4 x (List.mem_of_mem_take hx)) hcap (by rw [hlen]; omega) (fun j hj => ?_) (fun i j hi hj => ?_)⟩
        · rw [hlen] at hj
          have hlt : j < c.size := by omega
          simp [World.cell?, g1, hlt]
        · rw [hlen] at hi
          have e1 : (es'.take nn).getD i [] = es'.getD i [] := by simp [List.getD_eq_getElem?_getD, List.getElem?_take, hi]
          rw [e1]
          exact (g7 i j (by omega) hj).mono hk
      · cases h
    · cases h
  · cases h

theorem sl_form {q : Nat} {es : List (List AV)} {X : Value} (hv : RV F w (.sl q es) X) : ∃ ad cap, X = .slice ad es.length cap ∧ es.length ≤ cap := by
  cases hv with
  | sl0 _ ad cap => exact ⟨ad, cap, rfl, by simp⟩
  | sl _ _ b p c nn cap hn hk hcap hF hc hr => subst hn; exact ⟨_, cap, rfl, hcap⟩

/-- A part of a frozen slice. -/
theorem sl_part {q : Nat} {es : List (List AV)} {ad : Option Addr} {cap : Nat} (hv : RV F w (.sl q es) (.slice ad es.length cap)) (l h m : Nat) (hl : l ≤ h) (hh : h ≤ es.length) (hm : h ≤ m) (hmc : m ≤ cap) :
    RV F w (.sl q ((es.take h).drop l)) (sliced ad l h m q) ∧ (m = h → RV F w (.fsl q ((es.take h).drop l)) (sliced ad l h m q)) := by
  have hlen : ((es.take h).drop l).length = h - l := by simp; omega
  unfold sliced
  by_cases hlh : l = h
  · subst hlh
    have e : (es.take l).drop l = [] := List.eq_nil_of_length_eq_zero (by rw [hlen]; omega)
    rw [e, Nat.sub_self]
    refine ⟨.sl0 _ _ _, fun hmh => ?_⟩
    subst hmh
    rw [Nat.sub_self]
    exact .fsl0 _ _
  · have hml : m ≠ l := by omega
    rw [if_neg hml]
    generalize hN : es.length = N at hv hh
    cases hv with
    | sl0 _ _ _ => simp at hN; omega
    | sl _ _ b p c _ _ hn hk hcap hF hc hr =>
      simp only [Option.map_some, Addr.add_mid]
      have hk' : ∀ e ∈ (es.take h).drop l, e.length = q ∧ e.all AV.one = true := fun e he => hk e (List.mem_of_mem_take (List.mem_of_mem_drop he))
      have hle : l * q + (h - l) * q ≤ es.length * q := by rw [← Nat.add_mul]; exact Nat.mul_le_mul_right _ (by omega)
      have hc' : ∀ j, j < ((es.take h).drop l).length * q → w.cell? ⟨b, p + l * q + j, none⟩ = some (c (l * q + j)) := fun j hj => by
        rw [hlen] at hj
        rw [Nat.add_assoc]
        exact hc _ (by omega)
      have hr' : ∀ i j, i < ((es.take h).drop l).length → j < q → RV F w ((((es.take h).drop l).getD i []).getD j (.v undef)) (c (l * q + (i * q + j))) := fun i j hi hj => by
        rw [hlen] at hi
        have e1 : ((es.take h).drop l).getD i [] = es.getD (l + i) [] := by
          simp only [List.getD_eq_getElem?_getD, List.getElem?_drop, List.getElem?_take]
          rw [if_pos (by omega)]
        rw [e1]
        have := hr (l + i) j (by omega) hj
        rwa [Nat.add_mul, Nat.add_assoc] at this
      refine ⟨.sl q _ b (p + l * q) (fun j => c (l * q + j)) _ _ hlen.symm hk' (by omega) (by rw [hlen]; omega) hc' hr', fun hmh => ?_⟩
      subst hmh
      exact .fsl q _ b (p + l * q) (fun j => c (l * q + j)) _ hlen.symm hk' (by rw [hlen]; omega) hc' hr'

def optI (d : Int) : Option AV → Option Int
  | none => some d
  | some (.v (.int _ j)) => some j
  | _ => none

/-- The bounds, as they come to numbers. -/
theorem run_bounds (isSlice : Bool) (len cap : Nat) (lo hi mx : Option Operand) (l h m : Int) (hlo : ∀ x, lo = some x → opdIn n x = true) (hhi : ∀ x, hi = some x → opdIn n x = true) (hmx : ∀ x, mx = some x → opdIn n x = true)
    (hf : FrRel F w n fr a) (h1 : optI 0 (lo.map fr.ev) = some l) (h2 : optI len (hi.map fr.ev) = some h) (h3 : mx = none ∧ m = cap ∨ hi ≠ none ∧ mx ≠ none ∧ optI cap (mx.map fr.ev) = some m)
    (b1 : 0 ≤ l) (b2 : l ≤ h) (b3 : h ≤ m) (b4 : m ≤ cap) : (Instr.sliceBounds isSlice len cap (lo.map a.eval) (hi.map a.eval) (mx.map a.eval)).run P w = .ok (l.toNat, h.toNat, m.toNat) w := by
  have one : ∀ (y : Option Operand) (d j : Int), (∀ x, y = some x → opdIn n x = true) → optI d (y.map fr.ev) = some j → (y = none ∧ j = d) ∨ ∃ x kk, y = some x ∧ a.eval x = .int kk j := by
    intro y d j hin hy
    cases y with
    | none => simp [optI] at hy; exact .inl ⟨rfl, hy.symm⟩
    | some x =>
      right
      simp only [Option.map_some, optI] at hy
      split at hy
      · rename_i hq; cases hq
      · rename_i hq
        injection hq with hq
        injection hy with hy
        subst hy
        have := hf.ev x (hin x rfl)
        rw [hq] at this
        exact ⟨x, _, rfl, this.eq⟩
      · cases hy
  have hm0 : ((m.toNat : Nat) : Int) = m := Int.toNat_of_nonneg (by omega)
  have hh0 : ((h.toNat : Nat) : Int) = h := Int.toNat_of_nonneg (by omega)
  rcases h3 with ⟨rfl, rfl⟩ | ⟨hhn, hmn, h3⟩
  · rcases one lo 0 l hlo h1 with ⟨rfl, rfl⟩ | ⟨x, kk, rfl, ex⟩ <;> rcases one hi len h hhi h2 with ⟨rfl, rfl⟩ | ⟨y, ky, rfl, ey⟩
    · simp [Instr.sliceBounds]
    · have hb : 0 ≤ h := by omega
      simp [Instr.sliceBounds, ey, run_sliceBound, hb, b3]
    · simp [Instr.sliceBounds, ex, run_sliceBound, b1, b2]
    · have hb : 0 ≤ h := by omega
      simp [Instr.sliceBounds, ex, ey, run_sliceBound, hb, b1, b3, hh0, b2]
  · rcases one mx cap m hmx h3 with ⟨rfl, _⟩ | ⟨z, kz, rfl, ez⟩
    · exact absurd rfl hmn
    · rcases one hi len h hhi h2 with ⟨rfl, _⟩ | ⟨y, ky, rfl, ey⟩
      · exact absurd rfl hhn
      · have hb : 0 ≤ h := by omega
        have hbm : 0 ≤ m := by omega
        rcases one lo 0 l hlo h1 with ⟨rfl, rfl⟩ | ⟨x, kk, rfl, ex⟩
        · simp [Instr.sliceBounds, ey, ez, run_sliceBound, hb, hbm, b3, b4, hm0]
        · simp [Instr.sliceBounds, ex, ey, ez, run_sliceBound, hb, hbm, b1, b2, b3, b4, hm0, hh0]

/-- Where a part of a slice begins. -/
def offAt (m l p q : Nat) : Nat := if m = l then p else p + l * q
def aSli (i : Option TK) (σ : St) (x : AV) (lo hi mx : Option AV) (k : AV → Prop) : Prop :=
  match i with
  | none => False
  | some i => match i.td with
    | .str => match x with
      | .v (.string s) => mx = none ∧ ∃ l h, optI 0 lo = some l ∧ optI s.size hi = some h ∧ 0 ≤ l ∧ l ≤ h ∧ h ≤ s.size ∧ k (.v (.string (s.extract l.toNat h.toNat)))
      | _ => False
    | .sl q _ _ _ => (∃ b p n c, x = .v (.slice (some ⟨b, p, none⟩) n c) ∧ ∃ l h m, optI 0 lo = some l ∧ optI n hi = some h ∧ ((mx = none ∧ m = (c : Int)) ∨ (hi ≠ none ∧ mx ≠ none ∧ optI c mx = some m)) ∧ 0 ≤ l ∧ l ≤ h ∧ h ≤ m ∧ m ≤ c ∧
        k (.v (.slice (some ⟨b, offAt m.toNat l.toNat p q, none⟩) (h.toNat - l.toNat) (m.toNat - l.toNat)))) ∨ ∃ es, view q σ x = some es ∧ ∃ l h, optI 0 lo = some l ∧ optI es.length hi = some h ∧ 0 ≤ l ∧ l ≤ h ∧ h ≤ es.length ∧
        ((mx = none ∧ k (.sl q ((es.take h.toNat).drop l.toNat))) ∨ (mx ≠ none ∧ hi ≠ none ∧ optI es.length mx = some h ∧ k (.fsl q ((es.take h.toNat).drop l.toNat))))
    | _ => False

theorem sound_sli {t : TypeId} {x : Operand} {lo hi mx : Option Operand} (ho : o.op = .slice t x lo hi mx) (hx : opdIn n x = true) (hlo : ∀ x, lo = some x → opdIn n x = true) (hhi : ∀ x, hi = some x → opdIn n x = true) (hmx : ∀ x, mx = some x → opdIn n x = true)
    (hf : FrRel F w n fr a) (hs : Rel F w σ) (h : aSli (tk P t) σ (fr.ev x) (lo.map fr.ev) (hi.map fr.ev) (mx.map fr.ev) k) : Quiet P o a F w k := by
  cases ht : tk P t with
  | none => simp [ht, aSli] at h
  | some i =>
    obtain ⟨inf, d, z, h1, h2, h3, h4, h5, h6, h7, h8⟩ := tk_info ht
    simp only [ht, aSli] at h
    have hv := hf.ev x hx
    have hgo : ∀ y, (Instr.sliceAt t (a.eval x) (lo.map a.eval) (hi.map a.eval) (mx.map a.eval)).run P w = .ok y w → (execOp a.eval o).run P w = .ok (.value y) w := fun y hy => by
      simp [execOp, ho, hy]
    unfold Quiet
    cases htd : i.td with
    | str =>
      have hd := td_str (P := P) (d := d) (by rw [← h7, htd])
      subst hd
      simp only [htd] at h
      revert h hv
      generalize fr.ev x = q
      intro hv h
      split at h
      · rename_i s
        obtain ⟨hmxn, l, hh, e1, e2, b1, b2, b3, hk⟩ := h
        have hmxn' : mx = none := by cases mx <;> simp_all
        subst hmxn'
        have ex := hv.eq
        have hb := run_bounds (P := P) (n := n) (w := w) false s.size s.size lo hi none l hh s.size hlo hhi hmx hf e1 e2 (.inl ⟨rfl, rfl⟩) b1 b2 b3 (Int.le_refl _)
        refine ⟨_, _, hgo _ ?_, .v _, hk⟩
        simp only [Option.map_none] at hb
        simp [Instr.sliceAt, run_underlying h2, ex, Instr.slice, hb]
      · exact h.elim
    | sl q eby ez byt =>
      obtain ⟨e, ie, ze, rfl, k1, rfl, k3, k4, k5, k6, k7⟩ := td_sl (P := P) (by rw [← h7, htd])
      simp only [htd] at h
      rcases h with ⟨b, p, nn, c, hxq, l, hh, m, e1, e2, e3, b1, b2, b3, b4, hk⟩ | ⟨es, hview, l, hh, e1, e2, b1, b2, b3, hk⟩
      · rw [hxq] at hv
        have eX := hv.eq
        have hb := run_bounds (P := P) (n := n) (w := w) true nn c lo hi mx l hh m hlo hhi hmx hf e1 e2 (by
          rcases e3 with ⟨e3, rfl⟩ | ⟨e3, e4, e5⟩
          · exact .inl ⟨by cases mx <;> simp_all, rfl⟩
          · exact .inr ⟨by cases hi <;> simp_all, by cases mx <;> simp_all, e5⟩) b1 b2 b3 b4
        refine ⟨_, _, hgo (sliced (some ⟨b, p, none⟩) l.toNat hh.toNat m.toNat ie.size) ?_, ?_, hk⟩
        · simp [Instr.sliceAt, run_underlying h2, eX, Instr.slice, hb, run_sizeOf' k1, sliced]
        · unfold sliced offAt
          split
          · exact .v _
          · simp only [Option.map_some, Addr.add_mid]
            exact .v _
      have hsl := view_ok hs hview hv
      obtain ⟨ad, cap, eX, hcap⟩ := sl_form hsl
      rw [eX] at hsl
      have hrun : ∀ m : Int, (mx = none ∧ m = cap ∨ hi ≠ none ∧ mx ≠ none ∧ optI cap (mx.map fr.ev) = some m) → hh ≤ m → m ≤ cap →
          (Instr.sliceAt t (a.eval x) (lo.map a.eval) (hi.map a.eval) (mx.map a.eval)).run P w = .ok (sliced ad l.toNat hh.toNat m.toNat ie.size) w := fun m hm1 hm2 hm3 => by
        have hb := run_bounds (P := P) (n := n) (w := w) true es.length cap lo hi mx l hh m hlo hhi hmx hf e1 e2 hm1 b1 b2 hm2 hm3
        simp [Instr.sliceAt, run_underlying h2, eX, Instr.slice, hb, run_sizeOf' k1, sliced]
      rcases hk with ⟨hmn, hk⟩ | ⟨hmn, hin, e3, hk⟩
      · have hmn' : mx = none := by cases mx <;> simp_all
        subst hmn'
        have := hrun cap (.inl ⟨rfl, rfl⟩) (by omega) (Int.le_refl _)
        rw [Int.toNat_natCast] at this
        exact ⟨_, _, hgo _ this, (sl_part hsl l.toNat hh.toNat cap (by omega) (by omega) (by omega) (Nat.le_refl _)).1, hk⟩
      · have e3' : optI cap (mx.map fr.ev) = some hh := by
          cases mx with
          | none => simp at hmn
          | some y =>
            simp only [Option.map_some, optI] at e3 ⊢
            split at e3
            · rename_i hq; cases hq
            · exact e3
            · cases e3
        have := hrun hh (.inr ⟨by cases hi <;> simp_all, by cases mx <;> simp_all, e3'⟩) (Int.le_refl _) (by omega)
        exact ⟨_, _, hgo _ this, (sl_part hsl l.toNat hh.toNat hh.toNat (by omega) (by omega) (Nat.le_refl _) (by omega)).2 rfl, hk⟩
    | _ => simp [htd] at h

/-! ### len -/
def aLen (i : Option TK) (x : AV) (k : AV → Prop) : Prop :=
  match i with
  | some i => match i.td with
    | .str => match x with
      | .v (.string s) => k (.v (.int .i64 s.size))
      | _ => False
    | .sl _ _ _ _ => match x with
      | .sl _ es => k (.v (.int .i64 es.length))
      | .fsl _ es => k (.v (.int .i64 es.length))
      | .v (.slice _ n _) => k (.v (.int .i64 n))
      | _ => False
    | .arr m _ _ => k (.v (.int .i64 m))
    | _ => False
  | none => False
theorem sound_len {t : TypeId} {x : Operand} (ho : o.op = .call { callee := .builtin .len, args := #[x], argTypes := #[t] }) (hx : opdIn n x = true) (hf : FrRel F w n fr a) (h : aLen (tk P t) (fr.ev x) k) : Quiet P o a F w k := by
  cases ht : tk P t with
  | none => simp [ht, aLen] at h
  | some i =>
    obtain ⟨inf, d, z, h1, h2, h3, h4, h5, h6, h7, h8⟩ := tk_info ht
    simp only [ht, aLen] at h
    have hv := hf.ev x hx
    have hgo : ∀ y, (Builtin.len_ #[t] o.type #[a.eval x]).run P w = .ok y w → (execOp a.eval o).run P w = .ok (.value y) w := fun y hy => by
      simp [execOp, ho, resolve, invoke, builtin, hy]
    unfold Quiet
    cases htd : i.td with
    | str =>
      have hd := td_str (P := P) (d := d) (by rw [← h7, htd])
      subst hd
      simp only [htd] at h
      revert h hv
      generalize fr.ev x = q
      intro hv h
      split at h
      · have ex := hv.eq
        exact ⟨_, _, hgo _ (by simp [Builtin.len_, run_underlying h2, ex, goInt]), .v _, h⟩
      · exact h.elim
    | sl q eby ez byt =>
      obtain ⟨e, ie, ze, rfl, k1, rfl, k3, k4, k5, k6, k7⟩ := td_sl (P := P) (by rw [← h7, htd])
      simp only [htd] at h
      revert h hv
      generalize fr.ev x = q
      intro hv h
      split at h
      · obtain ⟨ad, cap, eX, hcap⟩ := sl_form hv
        exact ⟨_, _, hgo _ (by simp [Builtin.len_, run_underlying h2, eX, goInt]), .v _, h⟩
      · rename_i q' es
        have hv' : RV F w (.sl q' es) (a.eval x) := by
          generalize a.eval x = X at hv
          cases hv with
          | fsl0 _ a => exact .sl0 _ _ _
          | fsl _ _ b p c n hn hk hF hc hr => exact .sl _ _ b p c n n hn hk (Nat.le_refl _) hF hc hr
        obtain ⟨ad, cap, eX, hcap⟩ := sl_form hv'
        exact ⟨_, _, hgo _ (by simp [Builtin.len_, run_underlying h2, eX, goInt]), .v _, h⟩
      · have ex := hv.eq
        exact ⟨_, _, hgo _ (by simp [Builtin.len_, run_underlying h2, ex, goInt]), .v _, h⟩
      · exact h.elim
    | arr m esz ag =>
      obtain ⟨e, ie, g, rfl, k1, rfl, k3, k4⟩ := td_arr (P := P) (by rw [← h7, htd])
      simp only [htd] at h
      exact ⟨_, _, hgo _ (by simp [Builtin.len_, run_underlying h2, goInt]), .v _, h⟩
    | _ => simp [htd] at h
end
end Go.Av

/-
  The program logic, part 6: built structs, arrays and slices; arithmetic, comparisons, conversions.
  Conditions: none (a library of definitions and lemmas over any program).
-/
namespace Go.Av
open Go Go.RowKit

section
variable {P : Program} {o : Oper} {n : Nat} {fr : Fr} {a : Act} {F : Froz} {w : World} {σ : St}

theorem fill_one (vs : Array Value) (off : Nat) : ∀ (l : List Value) (s : Nat) (cs : Array Value),
    let r := (l.zipIdx s).foldl (fun cs (c, j) => cs.setIfInBounds (off + j) c) cs
    r.size = cs.size ∧ ∀ x, r.getD x undef = if off + s ≤ x ∧ x < off + s + l.length ∧ x < cs.size then l.getD (x - (off + s)) undef else cs.getD x undef
  | [], s, cs => ⟨rfl, fun x => by simp only [List.zipIdx_nil, List.foldl_nil, List.length_nil]; rw [if_neg (by omega)]⟩
  | v :: l, s, cs => by
    obtain ⟨h1, h2⟩ := fill_one vs off l (s + 1) (cs.setIfInBounds (off + s) v)
    simp only [List.zipIdx_cons, List.foldl_cons]
    refine ⟨by rw [h1]; simp, fun x => ?_⟩
    rw [h2 x]
    simp only [Array.size_setIfInBounds, List.length_cons]
    by_cases c1 : off + (s + 1) ≤ x ∧ x < off + (s + 1) + l.length ∧ x < cs.size
    · rw [if_pos c1, if_pos (by omega), show x - (off + s) = (x - (off + (s + 1))) + 1 by omega]
      simp
    · rw [if_neg c1]
      by_cases hx : x = off + s
      · subst hx
        by_cases hlt : off + s < cs.size
        · rw [if_pos (by omega)]
          simp [Array.getElem?_setIfInBounds, hlt]
        · rw [if_neg (by omega)]
          simp [Array.getElem?_setIfInBounds, hlt, Array.getElem?_eq_none (Nat.le_of_not_lt hlt)]
      · rw [if_neg (by omega)]
        simp only [Array.getD_eq_getD_getElem?, Array.getElem?_setIfInBounds]
        rw [if_neg (by omega)]

/-! ### build -/
def aFill (fs : Nat → Option (Nat × Nat)) (k : AV → Prop) : List AV → List (Nat × AV) → Prop
  | cs, [] => k (.agg cs)
  | cs, (j, x) :: r => match fs j with
    | some (off, sz) => x.cells.length = sz ∧ off + sz ≤ cs.length ∧ aFill fs k (splice cs off x.cells) r
    | none => False

def evs (ev : Operand → AV) (ps : List (Nat × Operand)) : List (Nat × AV) := ps.map fun p => (p.1, ev p.2)

theorem run_fill {k : AV → Prop} (hf : FrRel F w n fr a) (fs : Nat → Option (Nat × Nat)) : ∀ (ps : List (Nat × Operand)) (cs : List AV) (vs : Array Value), (∀ p ∈ ps, opdIn n p.2 = true) → vs.size = cs.length → (∀ j, j < cs.length → RV F w (cs.getD j (.v undef)) (vs.getD j undef)) →
    aFill fs k cs (evs fr.ev ps) → ∃ vs' cs', Instr.fill fs vs (ps.map fun p => (p.1, a.eval p.2)) = some vs' ∧ vs'.size = cs'.length ∧ (∀ j, j < cs'.length → RV F w (cs'.getD j (.v undef)) (vs'.getD j undef)) ∧ k (.agg cs')
  | [], cs, vs, _, hl, hr, h => ⟨vs, cs, rfl, hl, hr, h⟩
  | (j, x) :: ps, cs, vs, hin, hl, hr, h => by
    simp only [evs, List.map_cons, aFill] at h
    cases hj : fs j with
    | none => simp [hj] at h
    | some q =>
      obtain ⟨off, sz⟩ := q
      simp only [hj] at h
      obtain ⟨h1, h2, h3⟩ := h
      have hv := (hf.ev x (hin (j, x) (by simp))).cells
      have hsz : (a.eval x).cells.size = sz := by have := hv.1; simp at this; omega
      obtain ⟨g1, g2⟩ := fill_one vs off (a.eval x).cells.toList 0 vs
      obtain ⟨vs', cs', r1, r2, r3, r4⟩ := run_fill hf fs ps (splice cs off (fr.ev x).cells) _ (fun p hp => hin p (by simp [hp])) (by rw [g1, hl, splice_length _ _ _ (by omega)]) (fun y hy => by
        rw [splice_length _ _ _ (by omega)] at hy
        rw [splice_getD _ _ _ (by omega), g2 y]
        simp only [Nat.add_zero]
        by_cases hin : off ≤ y ∧ y < off + (fr.ev x).cells.length
        · rw [if_pos hin, if_pos (by rw [hv.1]; omega)]
          exact hv.2 (y - off) (by omega)
        · rw [if_neg hin, if_neg (by rw [hv.1]; omega)]
          exact hr y hy) h3
      refine ⟨vs', cs', ?_, r2, r3, r4⟩
      simp only [List.map_cons, Instr.fill, hj]
      rw [if_neg (by simp only [Bool.or_eq_true, decide_eq_true_eq]; omega)]
      rw [← Array.foldl_toList, Array.toList_zipIdx]
      exact r1

def aBuild (i : Option TK) (ps : List (Nat × AV)) (k : AV → Prop) : Prop :=
  match i with
  | some i => match i.td with
    | .st fs => aFill (fun j => (fs[j]?).map fun f => (f.1, f.2.1)) k (i.zr.map .v) ps
    | .arr _ esz _ => aFill (fun j => some (j * esz, esz)) k (i.zr.map .v) ps
    | _ => False
  | none => False

theorem sound_build {k : AV → Prop} {t : TypeId} {ps : Array (Nat × Operand)} (ho : o.op = .build t ps) (hps : ∀ p ∈ ps.toList, opdIn n p.2 = true) (hf : FrRel F w n fr a) (h : aBuild (tk P t) (evs fr.ev ps.toList) k) : Quiet P o a F w k := by
  cases ht : tk P t with
  | none => simp [ht, aBuild] at h
  | some i =>
    obtain ⟨inf, d, z, h1, h2, h3, h4, h5, h6, h7, h8⟩ := tk_info ht
    simp only [ht, aBuild] at h
    have hz : ∀ j, j < (i.zr.map AV.v).length → RV F w ((i.zr.map AV.v).getD j (.v undef)) (z.cells.getD j undef) := fun j hj => by
      simp at hj
      rw [getD_map_v _ _ hj, h6]
      simp
      exact .v _
    have hzl : z.cells.size = (i.zr.map AV.v).length := by rw [h6]; simp
    unfold Quiet
    have hgo : ∀ y, (Instr.build t (ps.map fun (i, x) => (i, a.eval x))).run P w = .ok y w → (execOp a.eval o).run P w = .ok (.value y) w := fun y hy => by
      simp [execOp, ho, hy]
    have hmap : (ps.map fun (i, x) => (i, a.eval x)).toList = ps.toList.map fun p => (p.1, a.eval p.2) := by simp
    cases htd : i.td with
    | st fs =>
      simp only [htd] at h
      obtain ⟨gs, rfl, hgs, hgn⟩ := td_st (P := P) (by rw [← h7, htd])
      obtain ⟨vs', cs', r1, r2, r3, r4⟩ := run_fill hf _ ps.toList (i.zr.map .v) z.cells hps hzl hz h
      have hplaces : ∀ (l : List Field), (∀ f ∈ l, ∃ i, P.info? f.type = some i) → (l.mapM fun f => (do pure (f.offset, ← sizeOf f.type) : Sem (Nat × Nat))).run P w = .ok (l.map fun f => (f.offset, P.cellsOf f.type)) w := by
        intro l
        induction l with
        | nil => intro _; simp
        | cons f l ih =>
          intro hl
          obtain ⟨ii, hii⟩ := hl f (by simp)
          have := ih (fun g hg => hl g (by simp [hg]))
          simp only [List.mapM_cons, Sem.run_bind, run_sizeOf' hii, Result.andThen_ok, Sem.run_pure, this, List.map_cons]
          simp [Program.cellsOf, hii]
      have hinfo : ∀ f ∈ gs.toList, ∃ i, P.info? f.type = some i := fun f hf' => by
        obtain ⟨j, hj, rfl⟩ := List.getElem_of_mem hf'
        have hj' : j < gs.size := by simpa using hj
        obtain ⟨i, e, h, _⟩ := hgs j gs.toList[j] (by simp [hj'])
        exact ⟨i, h⟩
      have hp := hplaces gs.toList hinfo
      have hfs : (fun j : Nat => (fs[j]?).map fun f : Nat × Nat × Bool => (f.1, f.2.1)) = (((gs.toList.map fun f => (f.offset, P.cellsOf f.type)).toArray)[·]?) := by
        funext j
        cases hj : gs[j]? with
        | none =>
          have : fs[j]? = none := by
            cases hq : fs[j]? with
            | none => rfl
            | some q => have := hgn j (by simp [hq]); simp [hj] at this
          simp [this, hj]
        | some g =>
          obtain ⟨i, e, k1, k2, k3⟩ := hgs j g hj
          simp [k3, hj, Program.cellsOf, k1]
      refine ⟨.agg vs', _, hgo _ ?_, .agg _ _ r2 r3, r4⟩
      rw [hfs] at r1
      have hpa : (gs.mapM fun f => (do pure (f.offset, ← sizeOf f.type) : Sem (Nat × Nat))).run P w = .ok ((gs.toList.map fun f => (f.offset, P.cellsOf f.type)).toArray) w := by
        rw [Array.mapM_eq_mapM_toList, map_eq_pure_bind, Sem.run_bind, hp]
        rfl
      simp only [Instr.build, Sem.run_bind, run_zero' h1 h3, Result.andThen_ok, run_underlying h2, hpa, hmap]
      rw [r1]
      simp
    | arr m esz ag =>
      obtain ⟨e, ie, g, rfl, k1, rfl, k3, k4⟩ := td_arr (P := P) (by rw [← h7, htd])
      simp only [htd] at h
      obtain ⟨vs', cs', r1, r2, r3, r4⟩ := run_fill hf _ ps.toList (i.zr.map .v) z.cells hps hzl hz h
      refine ⟨.agg vs', _, hgo _ ?_, .agg _ _ r2 r3, r4⟩
      simp only [Instr.build, Sem.run_bind, run_zero' h1 h3, Result.andThen_ok, run_underlying h2, run_sizeOf' k1, hmap]
      rw [r1]
      simp
    | _ => simp [htd] at h

/-! ### buildSlice: its cells are frozen at once -/
def aFillS (esz : Nat) (k : List (List AV) → Prop) : List (List AV) → List (Nat × AV) → Prop
  | es, [] => k es
  | es, (j, x) :: r => j < es.length ∧ x.cells.length = esz ∧ x.cells.all AV.one = true ∧ aFillS esz k (es.set j x.cells) r

theorem run_fillS {k : List (List AV) → Prop} (hf : FrRel F w n fr a) (q : Nat) : ∀ (ps : List (Nat × Operand)) (es : List (List AV)) (vs : Array Value), (∀ p ∈ ps, opdIn n p.2 = true) → (∀ e ∈ es, e.length = q ∧ e.all AV.one = true) → vs.size = es.length * q →
    (∀ i j, i < es.length → j < q → RV F w ((es.getD i []).getD j (.v undef)) (vs.getD (i * q + j) undef)) → aFillS q k es (evs fr.ev ps) →
    ∃ vs' es', Instr.fill (fun i => some (i * q, q)) vs (ps.map fun p => (p.1, a.eval p.2)) = some vs' ∧ es'.length = es.length ∧ (∀ e ∈ es', e.length = q ∧ e.all AV.one = true) ∧ vs'.size = es'.length * q ∧
      (∀ i j, i < es'.length → j < q → RV F w ((es'.getD i []).getD j (.v undef)) (vs'.getD (i * q + j) undef)) ∧ k es'
  | [], es, vs, _, he, hl, hr, h => ⟨vs, es, rfl, rfl, he, hl, hr, h⟩
  | (j, x) :: ps, es, vs, hin, he, hl, hr, h => by
    simp only [evs, List.map_cons, aFillS] at h
    obtain ⟨h1, h2, h2', h3⟩ := h
    have hv := (hf.ev x (hin (j, x) (by simp))).cells
    have hsz : (a.eval x).cells.size = q := by have := hv.1; simp at this; omega
    have hjq : j * q + q ≤ es.length * q := by rw [← Nat.succ_mul]; exact Nat.mul_le_mul_right _ h1
    obtain ⟨g1, g2⟩ := fill_one vs (j * q) (a.eval x).cells.toList 0 vs
    obtain ⟨vs', es', r1, r2, r3, r4, r5, r6⟩ := run_fillS hf q ps (es.set j (fr.ev x).cells) _ (fun p hp => hin p (by simp [hp])) (fun e hm => by
        rcases List.mem_or_eq_of_mem_set hm with h' | rfl
        · exact he e h'
        · exact ⟨h2, h2'⟩) (by rw [g1, hl]; simp) (fun i y hi hy => by
        simp only [List.length_set] at hi
        rw [g2 (i * q + y)]
        simp only [Nat.add_zero]
        by_cases hij : i = j
        · subst hij
          have e1 : (es.set i (fr.ev x).cells).getD i [] = (fr.ev x).cells := by simp [List.getD_eq_getElem?_getD, hi]
          rw [e1, if_pos (by rw [hv.1]; omega), show i * q + y - i * q = y by omega]
          exact hv.2 y (by omega)
        · have e1 : (es.set j (fr.ev x).cells).getD i [] = es.getD i [] := by simp [List.getD_eq_getElem?_getD, List.getElem?_set, Ne.symm hij]
          rw [e1, if_neg ?_]
          · exact hr i y hi hy
          · rw [hv.1]
            intro hcon
            rcases Nat.lt_or_gt_of_ne hij with hlt | hgt
            · have : (i + 1) * q ≤ j * q := Nat.mul_le_mul_right _ (by omega)
              rw [Nat.succ_mul] at this
              omega
            · have : (j + 1) * q ≤ i * q := Nat.mul_le_mul_right _ (by omega)
              rw [Nat.succ_mul] at this
              omega) h3
    refine ⟨vs', es', ?_, by rw [r2]; simp, r3, r4, r5, r6⟩
    simp only [List.map_cons, Instr.fill]
    rw [if_neg (by simp only [Bool.or_eq_true, decide_eq_true_eq]; omega)]
    rw [← Array.foldl_toList, Array.toList_zipIdx]
    exact r1

def aBuildS (i : Option TK) (len : Nat) (ps : List (Nat × AV)) (k : AV → Prop) : Prop :=
  match i with
  | some i => match i.td with
    | .sl esz _ ez _ => 0 < esz ∧ len * esz ≤ 16777216 ∧ ez.all Value.oneCell' = true ∧ aFillS esz (fun es => k (.fsl esz es)) (List.replicate len (ez.map .v)) ps
    | _ => False
  | none => False

theorem sound_buildS {k : AV → Prop} {t : TypeId} {len : Nat} {ps : Array (Nat × Operand)} (ho : o.op = .buildSlice t len ps) (hps : ∀ p ∈ ps.toList, opdIn n p.2 = true) (hf : FrRel F w n fr a) (hs : Rel F w σ) (h : aBuildS (tk P t) len (evs fr.ev ps.toList) k) :
    OpOk P o a F w σ fun v σ' => σ' = σ ∧ k v := by
  cases ht : tk P t with
  | none => simp [ht, aBuildS] at h
  | some i =>
    obtain ⟨inf, d, z, h1, h2, h3, h4, h5, h6, h7, h8⟩ := tk_info ht
    simp only [ht, aBuildS] at h
    cases htd : i.td with
    | sl q eby ez byt =>
      obtain ⟨e, ie, ze, rfl, k1, rfl, k3, k4, rfl, k6, k7⟩ := td_sl (P := P) (by rw [← h7, htd])
      simp only [htd] at h
      obtain ⟨hq, hsmall, hez, h⟩ := h
      have hzl : (ze.cells.toList.map AV.v).length = ie.size := by simp [k6]
      have hlit : ∀ x, x < len * ie.size → ((Array.range (len * ie.size)).map (ze.cells[· % ze.cells.size]!)).getD x undef = ze.cells.getD (x % ie.size) undef := fun x hx => by
        have hm : x % ie.size < ze.cells.size := by rw [k6]; exact Nat.mod_lt _ hq
        simp [hx, k6, Nat.mod_lt x hq]
      obtain ⟨vs', es', r1, r2, r3, r4, r5, r6⟩ := run_fillS hf ie.size ps.toList (List.replicate len (ze.cells.toList.map .v)) ((Array.range (len * ie.size)).map (ze.cells[· % ze.cells.size]!)) hps (fun e he => by
          obtain ⟨_, rfl⟩ := List.mem_replicate.1 he
          exact ⟨hzl, by rw [List.all_map]; exact hez⟩) (by simp) (fun i j hi hj => by
          simp only [List.length_replicate] at hi
          have hlt : i * ie.size + j < len * ie.size := by
            have : (i + 1) * ie.size ≤ len * ie.size := Nat.mul_le_mul_right _ hi
            rw [Nat.succ_mul] at this
            omega
          rw [hlit _ hlt, Nat.mul_comm i ie.size, Nat.mul_add_mod, Nat.mod_eq_of_lt hj]
          have e1 : (List.replicate len (ze.cells.toList.map AV.v)).getD i [] = ze.cells.toList.map AV.v := by simp [List.getD_eq_getElem?_getD, hi]
          rw [e1, getD_map_v _ _ (by simp [k6]; exact hj)]
          simp
          exact .v _) h
      simp only [List.length_replicate] at r2
      have hkp := keeps_frz hs (.cells vs' e) (len * ie.size)
      obtain ⟨q1, q2⟩ := rel_frz hs (.cells vs' e) (len * ie.size)
      refine opOk_value (x := .slice (some ⟨w.heap.size, 0, none⟩) len len) ?_ q2 q1 ?_ ⟨rfl, r6⟩
      · have hmap : (ps.map fun (i, x) => (i, a.eval x)).toList = ps.toList.map fun p => (p.1, a.eval p.2) := by simp
        have hns : ¬ len * ie.size > 2 ^ 24 := by omega
        by_cases h0 : len * ie.size = 0
        · have hrep : ((Array.range (len * ie.size)).map ((#[] : Array Value)[· % (#[] : Array Value).size]!)) = ((Array.range (len * ie.size)).map (ze.cells[· % ze.cells.size]!)) := by
            rw [h0]; simp
          simp only [execOp, ho, Instr.buildSlice, Sem.run_bind, run_underlying h2, Result.andThen_ok, run_sizeOf' k1, hns, if_false, h0, if_true, Sem.run_pure, hmap]
          rw [h0] at hrep r1
          simp only [pure_bind, hrep]
          rw [r1]
          simp [newRow]
        · simp only [execOp, ho, Instr.buildSlice, Sem.run_bind, run_underlying h2, Result.andThen_ok, run_sizeOf' k1, hns, if_false, h0, run_zero' k1 k4, Sem.run_pure, hmap]
          rw [r1]
          simp [newRow]
      · rcases Nat.eq_zero_or_pos len with h0 | h0
        · subst h0
          obtain rfl : es' = [] := List.eq_nil_of_length_eq_zero r2
          exact .fsl0 _ _
        · refine .fsl ie.size es' w.heap.size 0 (fun j => vs'.getD j undef) len r2.symm r3 (by unfold frzAt; rw [if_pos rfl, r2]; omega) (fun j hj => ?_) (fun i j hi hj => (r5 i j hi hj).mono hkp)
          have hlt : j < vs'.size := by rw [r4]; exact hj
          rw [Nat.zero_add, World.cell?_alloc_new]
          simp [hlt]
    | _ => simp [htd] at h
end
end Go.Av

/-
  The program logic, part 4b: two structs or arrays of bools, numbers and texts are held together.
  Conditions: none (a library of lemmas over any program).
-/
namespace Go.Av
open Go Go.RowKit

inductive Leaf where
  | b
  | i (k : IntKind)
  | s
def Leaf.ok : Leaf → Value → Bool
  | .b, .bool _ => true
  | .i k, .int k' _ => decide (k = k')
  | .s, .string _ => true
  | _, _ => false
def eqLeaf : Value → Value → Bool
  | .bool a, .bool b => a == b
  | .int _ a, .int _ b => decide (a = b)
  | .string a, .string b => decide (a = b)
  | _, _ => true
def Fit : List Leaf → List Value → Bool
  | [], [] => true
  | l :: ls, v :: vs => l.ok v && Fit ls vs
  | _, _ => false
def eqL : List Value → List Value → Bool
  | x :: xs, y :: ys => eqLeaf x y && eqL xs ys
  | _, _ => true
def leavesF (P : Program) (g : TypeId → Option (List Leaf)) : List Field → Nat → Option (List Leaf)
  | [], _ => some []
  | f :: fs, off => if f.name ≠ "_" ∧ f.offset = off then (match g f.type, P.info? f.type with
      | some ls, some i => if i.size = ls.length then (leavesF P g fs (off + ls.length)).map (ls ++ ·) else none
      | _, _ => none) else none
/-- The leaves of a type of bools, numbers and texts. -/
def leaves (P : Program) : Nat → TypeId → Option (List Leaf)
  | 0, _ => none
  | n + 1, t => match P.underlying t with
    | some .bool => some [.b]
    | some (.int k) => some [.i k]
    | some .string => some [.s]
    | some (.struct fs) => if P.stoodInHeld t then none else leavesF P (leaves P n) fs.toList 0
    | some (.array m e) => (match leaves P n e, P.info? e with
      | some ls, some i => if i.size = ls.length then some (List.replicate m ls).flatten else none
      | _, _ => none)
    | _ => none
def aggT (P : Program) (t : TypeId) : Bool := match P.underlying t with | some (.struct _) | some (.array _ _) => true | _ => false

theorem fit_length : ∀ {ls : List Leaf} {vs : List Value}, Fit ls vs = true → vs.length = ls.length
  | [], [], _ => rfl
  | l :: ls, v :: vs, h => by
    simp only [Fit, Bool.and_eq_true] at h
    simp [fit_length h.2]
  | [], v :: vs, h => by cases h
  | l :: ls, [], h => by cases h
theorem fit_split : ∀ {ls ls' : List Leaf} {vs : List Value}, Fit (ls ++ ls') vs = true → Fit ls (vs.take ls.length) = true ∧ Fit ls' (vs.drop ls.length) = true
  | [], ls', vs, h => ⟨by simp [Fit], by simpa using h⟩
  | l :: ls, ls', v :: vs, h => by
    simp only [List.cons_append, Fit, Bool.and_eq_true] at h
    obtain ⟨h1, h2⟩ := fit_split h.2
    exact ⟨by simp only [List.length_cons, List.take_succ_cons, Fit, h.1, h1, Bool.and_self], by simpa using h2⟩
  | l :: ls, ls', [], h => by cases h
theorem eqL_split : ∀ (k : Nat) (xs ys : List Value), xs.length = ys.length → eqL xs ys = (eqL (xs.take k) (ys.take k) && eqL (xs.drop k) (ys.drop k))
  | 0, xs, ys, h => by simp [eqL]
  | k + 1, [], [], h => by simp [eqL]
  | k + 1, x :: xs, y :: ys, h => by
    simp only [List.take_succ_cons, List.drop_succ_cons, eqL, eqL_split k xs ys (by simpa using h), Bool.and_assoc]
  | k + 1, [], y :: ys, h => by cases h
  | k + 1, x :: xs, [], h => by cases h

section
variable {P : Program}

/-- A value of a type, by its cells. -/
def IsV (P : Program) (t : TypeId) (X : Value) (xs : List Value) : Prop := if aggT P t then X = .agg xs.toArray else xs = [X]

theorem run_part_flat {t : TypeId} {d : TypeDesc} {i : TypeInfo} (hd : P.underlying t = some d) (hi : P.info? t = some i) {ls : List Leaf} (hs : i.size = ls.length) {cs : List Value} {off : Nat} (w : World)
    (h1 : aggT P t = false → ls.length = 1) (hf : Fit ls ((cs.drop off).take ls.length) = true) : ∃ X, (part t cs.toArray off).run P w = .ok X w ∧ IsV P t X ((cs.drop off).take ls.length) := by
  have hl := (fit_length hf)
  by_cases ha : aggT P t = true
  · have hag : (isAgg t).run P w = .ok true w := by
      unfold aggT at ha
      simp only [isAgg, Sem.run_bind, run_underlying hd, Result.andThen_ok]
      rw [hd] at ha
      cases d <;> first | rfl | (simp at ha; done)
    refine ⟨.agg (cs.toArray.extract off (off + ls.length)), ?_, ?_⟩
    · simp only [part, Sem.run_bind, hag, Result.andThen_ok, if_true, run_sizeOf' hi, Sem.run_pure, hs]
    · unfold IsV
      rw [if_pos ha]
      simp [List.take_drop, Nat.add_comm]
  · have ha' : aggT P t = false := by simpa using ha
    have hag : (isAgg t).run P w = .ok false w := by
      unfold aggT at ha'
      simp only [isAgg, Sem.run_bind, run_underlying hd, Result.andThen_ok]
      rw [hd] at ha'
      cases d <;> first | rfl | (simp at ha'; done)
    have hl1 := h1 ha'
    rw [hl1] at hl ⊢
    have hlt : off < cs.length := by
      simp at hl; omega
    refine ⟨cs[off], ?_, ?_⟩
    · have : cs.toArray[off]? = some cs[off] := by simp [hlt]
      simp only [part, Sem.run_bind, hag, Result.andThen_ok, Bool.false_eq_true, if_false, this, Sem.run_pure]
    · unfold IsV
      rw [if_neg ha, List.drop_eq_getElem_cons hlt]
      rfl

/-- Two values of a type of leaves are equal where their leaves are. -/
def EqT (P : Program) (d : Nat) (t : TypeId) (ls : List Leaf) : Prop :=
  ∀ (w : World) (X Y : Value) (xs ys : List Value), IsV P t X xs → IsV P t Y ys → Fit ls xs = true → Fit ls ys = true → (Op.equalIn d t X Y).run P w = .ok (eqL xs ys) w

theorem leaf_len {n : Nat} {t : TypeId} {ls : List Leaf} (h : leaves P n t = some ls) (ha : aggT P t = false) : ls.length = 1 := by
  cases n with
  | zero => cases h
  | succ n =>
    unfold leaves at h
    unfold aggT at ha
    split at h <;> first
      | (injection h with h; rw [← h]; rfl)
      | (rename_i hu; rw [hu] at ha; cases ha)
      | cases h
theorem leaf_und {n : Nat} {t : TypeId} {ls : List Leaf} (h : leaves P n t = some ls) : ∃ d, P.underlying t = some d := by
  cases n with
  | zero => cases h
  | succ n =>
    unfold leaves at h
    cases hu : P.underlying t with
    | none => rw [hu] at h; cases h
    | some d => exact ⟨d, rfl⟩

theorem run_fields_flat {n d : Nat} (ih : ∀ t ls, leaves P n t = some ls → EqT P d t ls) (xs ys : List Value) (w : World) : ∀ (fs : List Field) (off : Nat) (ls : List Leaf), leavesF P (leaves P n) fs off = some ls →
    Fit ls (xs.drop off) = true → Fit ls (ys.drop off) = true → (Op.eqFields d xs.toArray ys.toArray fs).run P w = .ok (eqL (xs.drop off) (ys.drop off)) w
  | [], off, ls, h, hx, hy => by
    simp only [leavesF, Option.some.injEq] at h
    subst h
    have h1 := (fit_length hx)
    have : xs.drop off = [] := List.eq_nil_of_length_eq_zero h1
    simp [Op.eqFields, this, eqL]
  | f :: fs, off, ls, h, hx, hy => by
    simp only [leavesF] at h
    split at h
    · rename_i hno
      obtain ⟨hno, rfl⟩ := hno
      split at h
      · rename_i l1 i hl hi
        split at h
        · rename_i hsz
          simp only [Option.map_eq_some_iff] at h
          obtain ⟨l2, h2, rfl⟩ := h
          obtain ⟨a1, a2⟩ := fit_split hx
          obtain ⟨b1, b2⟩ := fit_split hy
          obtain ⟨dd, hdd⟩ := leaf_und hl
          obtain ⟨X, p1, q1⟩ := run_part_flat hdd hi hsz w (leaf_len hl) a1
          obtain ⟨Y, p2, q2⟩ := run_part_flat hdd hi hsz w (leaf_len hl) b1
          have he := ih _ _ hl w X Y _ _ q1 q2 a1 b1
          rw [List.drop_drop] at a2 b2
          have hr := run_fields_flat ih xs ys w fs _ l2 h2 a2 b2
          simp only [Op.eqFields, hno, ne_eq, not_false_eq_true, if_true, Sem.run_bind, p1, p2, he, Result.andThen_ok]
          rw [eqL_split l1.length (xs.drop f.offset) (ys.drop f.offset) (by rw [(fit_length hx), (fit_length hy)]), List.drop_drop, List.drop_drop]
          cases eqL ((xs.drop f.offset).take l1.length) ((ys.drop f.offset).take l1.length)
          · simp
          · simpa using hr
        · cases h
      · cases h
    · cases h

theorem run_items_flat {d m : Nat} {e : TypeId} {ls : List Leaf} {dd : TypeDesc} {i : TypeInfo} (ih : EqT P d e ls) (h1 : aggT P e = false → ls.length = 1) (hdd : P.underlying e = some dd) (hi : P.info? e = some i) (hsz : i.size = ls.length) (xs ys : List Value) (w : World) : ∀ (k s : Nat), k + s = m →
    Fit (List.replicate k ls).flatten (xs.drop (s * ls.length)) = true → Fit (List.replicate k ls).flatten (ys.drop (s * ls.length)) = true → (Op.eqItems d e ls.length xs.toArray ys.toArray (List.range' s k)).run P w = .ok (eqL (xs.drop (s * ls.length)) (ys.drop (s * ls.length))) w
  | 0, s, hm, hx, hy => by
    have h1 := (fit_length hx)
    have : xs.drop (s * ls.length) = [] := List.eq_nil_of_length_eq_zero h1
    simp [Op.eqItems, this, eqL]
  | k + 1, s, hm, hx, hy => by
    rw [List.replicate_succ, List.flatten_cons] at hx hy
    obtain ⟨a1, a2⟩ := fit_split hx
    obtain ⟨b1, b2⟩ := fit_split hy
    obtain ⟨X, p1, q1⟩ := run_part_flat hdd hi hsz w h1 a1
    obtain ⟨Y, p2, q2⟩ := run_part_flat hdd hi hsz w h1 b1
    have he := ih w X Y _ _ q1 q2 a1 b1
    rw [List.drop_drop, show s * ls.length + ls.length = (s + 1) * ls.length by rw [Nat.add_mul]; omega] at a2 b2
    have hr := run_items_flat (m := m) ih h1 hdd hi hsz xs ys w k (s + 1) (by omega) a2 b2
    rw [List.range'_succ]
    simp only [Op.eqItems, Sem.run_bind, p1, p2, he, Result.andThen_ok]
    rw [eqL_split ls.length (xs.drop (s * ls.length)) (ys.drop (s * ls.length)) (by rw [(fit_length hx), (fit_length hy)]), List.drop_drop, List.drop_drop, show s * ls.length + ls.length = (s + 1) * ls.length by rw [Nat.add_mul]; omega]
    cases eqL ((xs.drop (s * ls.length)).take ls.length) ((ys.drop (s * ls.length)).take ls.length)
    · simp
    · simpa using hr

theorem run_flat : ∀ (n : Nat) (t : TypeId) (ls : List Leaf), leaves P n t = some ls → ∀ d, EqT P (d + n) t ls
  | 0, t, ls, h, d => by cases h
  | n + 1, t, ls, h, d => by
    intro w X Y xs ys hx hy fx fy
    unfold leaves at h
    unfold IsV aggT at hx hy
    rw [show d + (n + 1) = (d + n) + 1 from rfl]
    split at h
    · rename_i hu
      injection h with h
      subst h
      rw [hu] at hx hy
      simp only [Bool.false_eq_true, if_false] at hx hy
      subst hx; subst hy
      simp only [Fit, Bool.and_true] at fx fy
      cases X <;> first | (simp [Leaf.ok] at fx; done) | skip
      cases Y <;> first | (simp [Leaf.ok] at fy; done) | skip
      rw [run_equalIn_bool w _ _ _ _ hu]
      simp [eqL, eqLeaf]
    · rename_i k hu
      injection h with h
      subst h
      rw [hu] at hx hy
      simp only [Bool.false_eq_true, if_false] at hx hy
      subst hx; subst hy
      simp only [Fit, Bool.and_true] at fx fy
      cases X <;> first | (simp [Leaf.ok] at fx; done) | skip
      cases Y <;> first | (simp [Leaf.ok] at fy; done) | skip
      simp only [Leaf.ok, decide_eq_true_eq] at fx fy
      subst fx
      subst fy
      rw [run_equalIn_int w _ _ _ _ _ _ hu]
      simp [eqL, eqLeaf]
      rfl
    · rename_i hu
      injection h with h
      subst h
      rw [hu] at hx hy
      simp only [Bool.false_eq_true, if_false] at hx hy
      subst hx; subst hy
      simp only [Fit, Bool.and_true] at fx fy
      cases X <;> first | (simp [Leaf.ok] at fx; done) | skip
      cases Y <;> first | (simp [Leaf.ok] at fy; done) | skip
      rename_i a b
      rw [run_equalIn_string w _ _ _ _ hu]
      simp only [eqL, eqLeaf, Bool.and_true]
      by_cases hab : a = b
      · subst hab; simp
      · rw [decide_eq_false hab]
        refine congrArg (fun b => Result.ok b w) (beq_eq_false_iff_ne.2 fun h' => hab ?_)
        have e : ∀ z : ByteArray, z.toList = z.data.toList := fun z => ByteArray.toList_eq z
        rw [e, e] at h'
        cases a; cases b
        simp at h'
        simp [h']
    · rename_i fs hu
      split at h
      · cases h
      · rename_i hst
        rw [hu] at hx hy
        simp only [if_true] at hx hy
        subst hx; subst hy
        have hfs : P.fieldsOf t = fs := by simp [Program.fieldsOf, hu]
        rw [run_equalIn_struct w (d + n) t _ _ (by rw [hfs]; exact hu) (by simpa using hst), hfs]
        have := run_fields_flat (fun t ls h => run_flat n t ls h d) xs ys w fs.toList 0 ls h (by simpa using fx) (by simpa using fy)
        simpa using this
    · rename_i m e hu
      split at h
      · rename_i l1 i hl hi
        split at h
        · rename_i hsz
          injection h with h
          subst h
          rw [hu] at hx hy
          simp only [if_true] at hx hy
          subst hx; subst hy
          obtain ⟨dd, hdd⟩ := leaf_und hl
          have hce : P.cellsOf e = l1.length := by simp [Program.cellsOf, hi, hsz]
          rw [run_equalIn_array w (d + n) _ _ hu hi, hce, List.range_eq_range']
          have := run_items_flat (m := m) (run_flat n e l1 hl d) (leaf_len hl) hdd hi hsz xs ys w m 0 rfl (by simpa using fx) (by simpa using fy)
          simpa using this
        · cases h
      · cases h
    · cases h
theorem run_equal_flat {n : Nat} {t : TypeId} {ls : List Leaf} (h : leaves P n t = some ls) (hn : n ≤ 10000) (ha : aggT P t = true) (w : World) {xs ys : List Value} (fx : Fit ls xs = true) (fy : Fit ls ys = true) : (Op.equalIn 10000 t (.agg xs.toArray) (.agg ys.toArray)).run P w = .ok (eqL xs ys) w := by
  have := run_flat n t ls h (10000 - n) w (.agg xs.toArray) (.agg ys.toArray) xs ys (by unfold IsV; rw [if_pos ha]) (by unfold IsV; rw [if_pos ha]) fx fy
  rwa [Nat.sub_add_cancel hn] at this
end
end Go.Av

/-
  The program logic, part 7: arithmetic, comparisons, conversions.
  Conditions: none (a library of definitions and lemmas over any program).
-/
namespace Go.Av
open Go Go.RowKit

def isPtr (P : Program) (t : TypeId) : Bool := match P.underlying t with | some (.pointer _) => true | _ => false
def isFn (P : Program) (t : TypeId) : Bool := match P.underlying t with | some (.func _ _ _) => true | _ => false
def isSl (P : Program) (t : TypeId) : Bool := match P.underlying t with | some (.slice _) => true | _ => false
def isMapT (P : Program) (t : TypeId) : Bool := match P.underlying t with | some (.map _ _) => true | _ => false
def isBool (P : Program) (t : TypeId) : Bool := match P.underlying t with | some .bool => true | _ => false

/-- Two whole numbers of one kind. -/
def aInt (op : BinOp) (k : IntKind) (x y : Int) (K : AV → Prop) : Prop :=
  match op with
  | .add => K (.v (.int k (k.wrap (x + y))))
  | .sub => K (.v (.int k (k.wrap (x - y))))
  | .mul => K (.v (.int k (k.wrap (x * y))))
  | .quo => y ≠ 0 ∧ K (.v (.int k (k.wrap (x.tdiv y))))
  | .rem => y ≠ 0 ∧ K (.v (.int k (x.tmod y)))
  | .eql => K (.v (.bool (decide (x = y))))
  | .neq => K (.v (.bool (decide (x ≠ y))))
  | .lss => K (.v (.bool (decide (x < y))))
  | .leq => K (.v (.bool (decide (x ≤ y))))
  | .gtr => K (.v (.bool (decide (y < x))))
  | .geq => K (.v (.bool (decide (y ≤ x))))
  | .shl => 0 ≤ y ∧ K (.v (.int k (k.wrap (x * 2 ^ min y.toNat k.bits))))
  | .shr => 0 ≤ y ∧ K (.v (.int k (x.fdiv (2 ^ min y.toNat k.bits))))
  | .and => K (.v (.int k (k.wrap ((BitVec.ofInt k.bits x &&& BitVec.ofInt k.bits y).toNat : Int))))
  | .or => K (.v (.int k (k.wrap ((BitVec.ofInt k.bits x ||| BitVec.ofInt k.bits y).toNat : Int))))
  | .xor => K (.v (.int k (k.wrap ((BitVec.ofInt k.bits x ^^^ BitVec.ofInt k.bits y).toNat : Int))))
  | .andNot => K (.v (.int k (k.wrap ((BitVec.ofInt k.bits x &&& ~~~BitVec.ofInt k.bits y).toNat : Int))))
/-- Two texts. -/
def aStr (op : BinOp) (x y : ByteArray) (K : AV → Prop) : Prop :=
  match op with
  | .add => x.size + y.size ≤ 9223372036854775807 ∧ K (.v (.string (x ++ y)))
  | .eql => K (.v (.bool (decide (x = y))))
  | .neq => K (.v (.bool (decide (x ≠ y))))
  | .lss => K (.v (.bool (Op.bytesLess x.toList y.toList)))
  | .leq => K (.v (.bool (Op.bytesLess x.toList y.toList || decide (x = y))))
  | .gtr => K (.v (.bool (!(Op.bytesLess x.toList y.toList || decide (x = y)))))
  | .geq => K (.v (.bool (!Op.bytesLess x.toList y.toList)))
  | _ => False
/-- A struct or an array, by its cells. -/
def aggV : AV → Option (List AV)
  | .agg cs => some cs
  | .v (.agg q) => some (q.toList.map .v)
  | _ => none
def vals : List AV → Option (List Value)
  | [] => some []
  | .v x :: l => (vals l).map (x :: ·)
  | _ => none
/-- Two structs or arrays of bools, numbers and texts. -/
def aAgg (P : Program) (neg : Bool) (t : TypeId) (x y : AV) (K : AV → Prop) : Prop :=
  aggT P t = true ∧ P.eqGuardType P.depth t = false ∧ ∃ xs ys vs ws ls, aggV x = some xs ∧ aggV y = some ys ∧ vals xs = some vs ∧ vals ys = some ws ∧ leaves P 9 t = some ls ∧ Fit ls vs = true ∧ Fit ls ws = true ∧ K (.v (.bool (if neg then !eqL vs ws else eqL vs ws)))
/-- Two yes-or-nos; two pointers of which one is nil. -/
def aEqv (P : Program) (neg : Bool) (t : TypeId) (x y : AV) (K : AV → Prop) : Prop :=
  match x, y with
  | .v (.bool a), .v (.bool b) => isBool P t = true ∧ K (.v (.bool (if neg then decide (a ≠ b) else decide (a = b))))
  | .v (.pointer p), .v (.pointer none) => isPtr P t = true ∧ K (.v (.bool (if neg then p.isSome else p.isNone)))
  | .v (.pointer none), .v (.pointer p) => isPtr P t = true ∧ K (.v (.bool (if neg then p.isSome else p.isNone)))
  | .fp _, .v (.pointer none) => isPtr P t = true ∧ K (.v (.bool neg))
  | .rp _ _ _ _, .v (.pointer none) => isPtr P t = true ∧ K (.v (.bool neg))
  | .v (.slice a _ _), .v (.slice none 0 0) => isSl P t = true ∧ K (.v (.bool (if neg then a.isSome else a.isNone)))
  | .sl _ es, .v (.slice none 0 0) => isSl P t = true ∧ (es ≠ [] → K (.v (.bool neg))) ∧ (es = [] → ∀ b, K (.v (.bool b)))
  | .fsl _ es, .v (.slice none 0 0) => isSl P t = true ∧ (es ≠ [] → K (.v (.bool neg))) ∧ (es = [] → ∀ b, K (.v (.bool b)))
  | .v (.map m), .v (.map none) => isMapT P t = true ∧ K (.v (.bool (if neg then m.isSome else m.isNone)))
  | .v (.func _ _ _), .v .nilFunc => isFn P t = true ∧ K (.v (.bool neg))
  | .v .nilFunc, .v .nilFunc => isFn P t = true ∧ K (.v (.bool !neg))
  | _, _ => False
def aEq2 (P : Program) (neg : Bool) (t : TypeId) (x y : AV) (K : AV → Prop) : Prop :=
  match aggV x with
  | some _ => aAgg P neg t x y K
  | none => aEqv P neg t x y K
/-- Shifts, whose second number may be of another kind. -/
def isSh : BinOp → Bool
  | .shl | .shr => true
  | _ => false
def aBin (P : Program) (op : BinOp) (t : TypeId) (x y : AV) (K : AV → Prop) : Prop :=
  match x, y with
  | .v (.int k a), .v (.int k' b) => (k = k' ∨ isSh op = true) ∧ aInt op k a b K
  | .v (.string a), .v (.string b) => aStr op a b K
  | x, y => match op with
    | .eql => aEq2 P false t x y K
    | .neq => aEq2 P true t x y K
    | _ => False

theorem toList_beq (x y : ByteArray) : (x.toList == y.toList) = decide (x = y) := by
  by_cases h : x = y
  · subst h; simp
  · rw [decide_eq_false h]
    refine beq_eq_false_iff_ne.2 fun h' => h ?_
    have : x.data.toList = y.data.toList := by
      have e : ∀ z : ByteArray, z.toList = z.data.toList := fun z => ByteArray.toList_eq z
      rw [← e x, ← e y, h']
    cases x; cases y
    simp at this
    simp [this]

section
variable {P : Program} {o : Oper} {n : Nat} {fr : Fr} {a : Act} {F : Froz} {w : World} {σ : St} {k : AV → Prop}

theorem run_int {op : BinOp} (t : TypeId) {ik : IntKind} {x y : Int} (h : aInt op ik x y k) : ∃ v, (binOp op t (.int ik x) (.int ik y)).run P w = .ok v w ∧ k (.v v) := by
  cases op <;> simp only [aInt] at h
  case add => refine ⟨_, ?_, h⟩; simp [binOp, Op.intArith]
  case sub => refine ⟨_, ?_, h⟩; simp [binOp, Op.intArith]
  case mul => refine ⟨_, ?_, h⟩; simp [binOp, Op.intArith]
  case quo => refine ⟨_, ?_, h.2⟩; simp [binOp, Op.intDiv, h.1]
  case rem => refine ⟨_, ?_, h.2⟩; simp [binOp, Op.intDiv, h.1]
  case shl => refine ⟨_, ?_, h.2⟩; simp [binOp, Op.shift, Int.not_lt.2 h.1]
  case shr => refine ⟨_, ?_, h.2⟩; simp [binOp, Op.shift, Int.not_lt.2 h.1]
  case and => refine ⟨_, ?_, h⟩; simp [binOp, Op.intBits]
  case or => refine ⟨_, ?_, h⟩; simp [binOp, Op.intBits]
  case xor => refine ⟨_, ?_, h⟩; simp [binOp, Op.intBits]
  case andNot => refine ⟨_, ?_, h⟩; simp [binOp, Op.intBits]
  case neq => refine ⟨_, ?_, h⟩; simp only [binOp, ne_eq, not_true_eq_false, if_false, Op.intCmp, bne, decide_not]; rfl
  all_goals (refine ⟨_, ?_, h⟩; simp only [binOp, ne_eq, not_true_eq_false, if_false, Op.intCmp]; rfl)

theorem run_sh {op : BinOp} (hs : isSh op = true) (t : TypeId) {ik ik' : IntKind} {x y : Int} (h : aInt op ik x y k) : ∃ v, (binOp op t (.int ik x) (.int ik' y)).run P w = .ok v w ∧ k (.v v) := by
  cases op <;> simp only [isSh, Bool.false_eq_true] at hs <;> simp only [aInt] at h
  case shl => refine ⟨_, ?_, h.2⟩; simp [binOp, Op.shift, Int.not_lt.2 h.1]
  case shr => refine ⟨_, ?_, h.2⟩; simp [binOp, Op.shift, Int.not_lt.2 h.1]
theorem run_str {op : BinOp} (t : TypeId) {x y : ByteArray} (h : aStr op x y k) : ∃ v, (binOp op t (.string x) (.string y)).run P w = .ok v w ∧ k (.v v) := by
  have hb := toList_beq x y
  cases op <;> simp only [aStr] at h
  case add =>
    refine ⟨_, ?_, h.2⟩
    have hle : ¬ (((x.size + y.size : Nat) : Int) > IntKind.i64.max) := by
      have := h.1
      simp [IntKind.max, IntKind.signed, IntKind.bits]
      omega
    simp only [binOp, Op.stringOp, hle, if_false]
    rfl
  case neq => refine ⟨_, ?_, h⟩; simp only [binOp, Op.stringOp, hb, decide_not]; rfl
  all_goals (refine ⟨_, ?_, h⟩; simp only [binOp, Op.stringOp, hb]; rfl)

theorem eqIn_bool {t : TypeId} (hu : P.underlying t = some .bool) (p q : Bool) : (Op.equal t (.bool p) (.bool q)).run P w = .ok (p == q) w := by
  have : ∀ d, (Op.equalIn (d + 1) t (.bool p) (.bool q)).run P w = .ok (p == q) w := fun d => by
    simp [Op.equalIn, run_underlying hu]
  exact this 9999
theorem eqIn_nil {t e : TypeId} (hu : P.underlying t = some (.pointer e)) (p : Option Addr) : (Op.equal t (.pointer p) (.pointer none)).run P w = .ok p.isNone w := by
  have : ∀ d, (Op.equalIn (d + 1) t (.pointer p) (.pointer none)).run P w = .ok p.isNone w := fun d => by
    cases p <;> simp [Op.equalIn, run_underlying hu]
  exact this 9999
theorem eqIn_nil' {t e : TypeId} (hu : P.underlying t = some (.pointer e)) (p : Option Addr) : (Op.equal t (.pointer none) (.pointer p)).run P w = .ok p.isNone w := by
  have : ∀ d, (Op.equalIn (d + 1) t (.pointer none) (.pointer p)).run P w = .ok p.isNone w := fun d => by
    simp [Op.equalIn, run_underlying hu]
  exact this 9999

theorem eqIn_slnil {t e : TypeId} (hu : P.underlying t = some (.slice e)) (p : Option Addr) (n c : Nat) : (Op.equal t (.slice p n c) (.slice none 0 0)).run P w = .ok p.isNone w := by
  have : ∀ d, (Op.equalIn (d + 1) t (.slice p n c) (.slice none 0 0)).run P w = .ok p.isNone w := fun d => by
    cases p <;> simp [Op.equalIn, run_underlying hu]
  exact this 9999
theorem eqIn_mapnil {t e f : TypeId} (hu : P.underlying t = some (.map e f)) (p : Option Nat) : (Op.equal t (.map p) (.map none)).run P w = .ok p.isNone w := by
  have : ∀ d, (Op.equalIn (d + 1) t (.map p) (.map none)).run P w = .ok p.isNone w := fun d => by
    cases p <;> simp [Op.equalIn, run_underlying hu]
  exact this 9999

theorem eqIn_fnil {t : TypeId} {a b c : _} (hu : P.underlying t = some (.func a b c)) (f : Fn) (x y : Array Value) : (Op.equal t (.func f x y) .nilFunc).run P w = .ok false w := by
  have : ∀ d, (Op.equalIn (d + 1) t (.func f x y) .nilFunc).run P w = .ok false w := fun d => by
    simp [Op.equalIn, run_underlying hu]
  exact this 9999
theorem eqIn_fnn {t : TypeId} {a b c : _} (hu : P.underlying t = some (.func a b c)) : (Op.equal t .nilFunc .nilFunc).run P w = .ok true w := by
  have : ∀ d, (Op.equalIn (d + 1) t .nilFunc .nilFunc).run P w = .ok true w := fun d => by
    simp [Op.equalIn, run_underlying hu]
  exact this 9999
theorem run_eqv {neg : Bool} {t : TypeId} {x y : AV} {X Y : Value} (hx : RV F w x X) (hy : RV F w y Y) (h : aEqv P neg t x y k) : ∃ b : Bool, (Op.equal t X Y).run P w = .ok b w ∧ k (.v (.bool (if neg then !b else b))) ∧ (∀ q, X ≠ .agg q) ∧ X ≠ .nilIface ∧ (∀ q r, X ≠ .int q r) ∧ (∀ q, X ≠ .string q) ∧ (∀ q r, X ≠ .float q r) ∧ (∀ q r s, X ≠ .complex q r s) := by
  unfold aEqv at h
  split at h
  · have ex := hx.eq
    have ey := hy.eq
    subst ex
    subst ey
    rename_i p q
    obtain ⟨h1, h2⟩ := h
    unfold isBool at h1
    split at h1
    · rename_i hu
      refine ⟨p == q, eqIn_bool hu p q, ?_, by simp, by simp, by simp, by simp, by simp, by simp⟩
      cases neg <;> cases p <;> cases q <;> exact h2
    · cases h1
  · have ex := hx.eq
    have ey := hy.eq
    subst ex
    subst ey
    rename_i p
    obtain ⟨h1, h2⟩ := h
    unfold isPtr at h1
    split at h1
    · rename_i e hu
      refine ⟨p.isNone, eqIn_nil hu p, ?_, by simp, by simp, by simp, by simp, by simp, by simp⟩
      · cases neg <;> cases p <;> exact h2
    · cases h1
  · have ex := hx.eq
    have ey := hy.eq
    subst ex
    subst ey
    rename_i p _
    obtain ⟨h1, h2⟩ := h
    unfold isPtr at h1
    split at h1
    · rename_i e hu
      refine ⟨p.isNone, eqIn_nil' hu p, ?_, by simp, by simp, by simp, by simp, by simp, by simp⟩
      · cases neg <;> cases p <;> exact h2
    · cases h1
  · have ey := hy.eq
    subst ey
    obtain ⟨h1, h2⟩ := h
    unfold isPtr at h1
    split at h1
    · rename_i e hu
      cases hx with
      | fp _ b p c _ hF hc hr =>
        exact ⟨false, eqIn_nil hu _, by cases neg <;> exact h2, by simp, by simp, by simp, by simp, by simp, by simp⟩
    · cases h1
  · have ey := hy.eq
    subst ey
    obtain ⟨h1, h2⟩ := h
    unfold isPtr at h1
    split at h1
    · rename_i e hu
      cases hx
      exact ⟨false, eqIn_nil hu _, by cases neg <;> exact h2, by simp, by simp, by simp, by simp, by simp, by simp⟩
    · cases h1
  · have ex := hx.eq
    have ey := hy.eq
    subst ex
    subst ey
    obtain ⟨h1, h2⟩ := h
    unfold isSl at h1
    split at h1
    · rename_i p _ _ _ e hu
      refine ⟨_, eqIn_slnil hu _ _ _, ?_, by simp, by simp, by simp, by simp, by simp, by simp⟩
      cases neg
      · exact h2
      · simpa using h2
    · cases h1
  · rename_i q es
    have ey := hy.eq
    subst ey
    obtain ⟨h1, h2, h3⟩ := h
    unfold isSl at h1
    split at h1
    · rename_i e hu
      cases hx with
      | sl0 _ ad cap => exact ⟨_, eqIn_slnil hu _ _ _, h3 rfl _, by simp, by simp, by simp, by simp, by simp, by simp⟩
      | sl _ _ b p c nn cap hn hk hcap hF hc hr =>
        refine ⟨false, eqIn_slnil hu _ _ _, ?_, by simp, by simp, by simp, by simp, by simp, by simp⟩
        by_cases he : es = []
        · exact h3 he _
        · have := h2 he
          cases neg <;> exact this
    · cases h1
  · rename_i q es
    have ey := hy.eq
    subst ey
    obtain ⟨h1, h2, h3⟩ := h
    unfold isSl at h1
    split at h1
    · rename_i e hu
      cases hx with
      | fsl0 _ ad => exact ⟨_, eqIn_slnil hu _ _ _, h3 rfl _, by simp, by simp, by simp, by simp, by simp, by simp⟩
      | fsl _ _ b p c nn hn hk hF hc hr =>
        refine ⟨false, eqIn_slnil hu _ _ _, ?_, by simp, by simp, by simp, by simp, by simp, by simp⟩
        by_cases he : es = []
        · exact h3 he _
        · have := h2 he
          cases neg <;> exact this
    · cases h1
  · have ex := hx.eq
    have ey := hy.eq
    subst ex
    subst ey
    obtain ⟨h1, h2⟩ := h
    unfold isMapT at h1
    split at h1
    · rename_i e f hu
      refine ⟨_, eqIn_mapnil hu _, ?_, by simp, by simp, by simp, by simp, by simp, by simp⟩
      cases neg
      · exact h2
      · simpa using h2
    · cases h1
  · have ex := hx.eq
    have ey := hy.eq
    subst ex
    subst ey
    obtain ⟨h1, h2⟩ := h
    unfold isFn at h1
    split at h1
    · rename_i hu
      refine ⟨_, eqIn_fnil hu _ _ _, ?_, by simp, by simp, by simp, by simp, by simp, by simp⟩
      cases neg <;> exact h2
    · cases h1
  · have ex := hx.eq
    have ey := hy.eq
    subst ex
    subst ey
    obtain ⟨h1, h2⟩ := h
    unfold isFn at h1
    split at h1
    · rename_i hu
      refine ⟨_, eqIn_fnn hu, ?_, by simp, by simp, by simp, by simp, by simp, by simp⟩
      cases neg <;> exact h2
    · cases h1
  · exact h.elim

theorem vals_rv {F : Froz} {w : World} : ∀ {xs : List AV} {vs : List Value} {l : List Value}, vals xs = some vs → l.length = xs.length → (∀ j, j < xs.length → RV F w (xs.getD j (.v undef)) (l.getD j undef)) → l = vs
  | [], vs, [], h, _, _ => by injection h
  | .v x :: xs, vs, y :: l, h, hl, hr => by
    simp only [vals, Option.map_eq_some_iff] at h
    obtain ⟨vs', h1, rfl⟩ := h
    have h0 := (hr 0 (by simp)).eq
    have := vals_rv h1 (by simpa using hl) (fun j hj => by simpa using hr (j + 1) (by simpa using hj))
    simp at h0
    rw [h0, this]
  | [], vs, y :: l, h, hl, _ => by simp at hl
  | x :: xs, vs, [], h, hl, _ => by simp at hl
  | .sl _ _ :: xs, vs, y :: l, h, hl, _ => by cases h
  | .fsl _ _ :: xs, vs, y :: l, h, hl, _ => by cases h
  | .fp _ :: xs, vs, y :: l, h, hl, _ => by cases h
  | .rp _ _ _ _ :: xs, vs, y :: l, h, hl, _ => by cases h
  | .agg _ :: xs, vs, y :: l, h, hl, _ => by cases h
  | .tup _ :: xs, vs, y :: l, h, hl, _ => by cases h
theorem vals_v : ∀ (l : List Value), vals (l.map .v) = some l
  | [] => rfl
  | x :: l => by simp [vals, vals_v l]
theorem agg_rv {F : Froz} {w : World} {x : AV} {X : Value} {xs : List AV} {vs : List Value} (hx : RV F w x X) (ha : aggV x = some xs) (hv : vals xs = some vs) : X = .agg vs.toArray := by
  unfold aggV at ha
  split at ha
  · injection ha with ha
    subst ha
    cases hx with
    | agg _ q hl h =>
      have := vals_rv (l := q.toList) hv (by simpa using hl) (fun j hj => by
        have := h j hj
        simpa [Array.getD_eq_getD_getElem?, List.getD_eq_getElem?_getD] using this)
      rw [← this]
  · injection ha with ha
    subst ha
    rw [hx.eq]
    rw [vals_v] at hv
    injection hv with hv
    rw [← hv]
  · cases ha
theorem sound_agg {op : BinOp} {neg : Bool} {t ty : TypeId} {x y : Operand} (ho : o.op = .binOp op t x y ty) (hop : op = if neg then .neq else .eql) {p q : AV} (hvx : RV F w p (a.eval x)) (hvy : RV F w q (a.eval y)) (h : aAgg P neg t p q k) : Quiet P o a F w k := by
  obtain ⟨h1, h2, xs, ys, vs, ws, ls, e1, e2, e3, e4, e5, e6, e7, hk⟩ := h
  have hX := agg_rv hvx e1 e3
  have hY := agg_rv hvy e2 e4
  have hr := run_equal_flat e5 (by decide) h1 w e6 e7
  have hg : (eqGuard op t x y (a.eval x) (a.eval y)).run P w = .ok () w := by rw [hX, hY]; exact run_eqGuard_agg w op t x y _ _ h2
  cases neg
  · simp only [Bool.false_eq_true, if_false] at hop hk
    subst hop
    exact ⟨_, _, by simp only [execOp, ho, Sem.run_bind, hg, Result.andThen_ok]; rw [hX, hY]; simp only [run_eql_struct, hr, Result.andThen_ok, Sem.run_pure], .v _, hk⟩
  · simp only [if_true] at hop hk
    subst hop
    exact ⟨_, _, by simp only [execOp, ho, Sem.run_bind, hg, Result.andThen_ok]; rw [hX, hY]; simp only [run_neq_struct, hr, Result.andThen_ok, Sem.run_pure], .v _, hk⟩

theorem sound_bin {op : BinOp} {t ty : TypeId} {x y : Operand} (ho : o.op = .binOp op t x y ty) (hx : opdIn n x = true) (hy : opdIn n y = true) (hf : FrRel F w n fr a) (h : aBin P op t (fr.ev x) (fr.ev y) k) : Quiet P o a F w k := by
  have hvx := hf.ev x hx
  have hvy := hf.ev y hy
  have hgo : ∀ v, (∀ q, a.eval x ≠ .agg q) → a.eval x ≠ .nilIface → (binOp op t (a.eval x) (a.eval y)).run P w = .ok v w → (execOp a.eval o).run P w = .ok (.value v) w := fun v n1 n2 hv => by
    have hg : (eqGuard op t x y (a.eval x) (a.eval y)).run P w = .ok () w := by
      unfold eqGuard
      cases hX : a.eval x with
      | nilIface => exact absurd hX n2
      | agg q => exact absurd hX (n1 q)
      | _ => by_cases hop : (op matches .eql | .neq) = true <;> simp [hop]
    simp [execOp, ho, hg, hv]
  revert h hvx hvy
  generalize fr.ev x = p
  generalize fr.ev y = q
  intro h hvx hvy
  unfold aBin at h
  split at h
  · have ex := hvx.eq
    have ey := hvy.eq
    obtain ⟨rfl | hs, h⟩ := h
    · obtain ⟨v, hr, hk⟩ := run_int (P := P) (w := w) t h
      exact ⟨v, _, hgo v (by simp [ex]) (by simp [ex]) (by rw [ex, ey]; exact hr), .v _, hk⟩
    · obtain ⟨v, hr, hk⟩ := run_sh (P := P) (w := w) hs t h
      exact ⟨v, _, hgo v (by simp [ex]) (by simp [ex]) (by rw [ex, ey]; exact hr), .v _, hk⟩
  · have ex := hvx.eq
    have ey := hvy.eq
    obtain ⟨v, hr, hk⟩ := run_str (P := P) (w := w) t h
    exact ⟨v, _, hgo v (by simp [ex]) (by simp [ex]) (by rw [ex, ey]; exact hr), .v _, hk⟩
  · split at h
    · unfold aEq2 at h
      split at h
      · exact sound_agg (neg := false) ho rfl hvx hvy h
      obtain ⟨b, hr, hk, n1, n2, n3, n4, n5, n6⟩ := run_eqv hvx hvy h
      refine ⟨.bool b, _, hgo _ n1 n2 ?_, .v _, by simpa using hk⟩
      cases hX : a.eval x with
      | int => exact absurd hX (n3 _ _)
      | string => exact absurd hX (n4 _)
      | float => exact absurd hX (n5 _ _)
      | complex => exact absurd hX (n6 _ _ _)
      | _ => rw [hX] at hr; simp [binOp, hr]
    · unfold aEq2 at h
      split at h
      · exact sound_agg (neg := true) ho rfl hvx hvy h
      obtain ⟨b, hr, hk, n1, n2, n3, n4, n5, n6⟩ := run_eqv hvx hvy h
      refine ⟨.bool !b, _, hgo _ n1 n2 ?_, .v _, by simpa using hk⟩
      cases hX : a.eval x with
      | int => exact absurd hX (n3 _ _)
      | string => exact absurd hX (n4 _)
      | float => exact absurd hX (n5 _ _)
      | complex => exact absurd hX (n6 _ _ _)
      | _ => rw [hX] at hr; simp [binOp, hr]
    · exact h.elim

/-! ### not, minus -/
def aUn (op : UnOp) (x : AV) (k : AV → Prop) : Prop :=
  match op, x with
  | .not, .v (.bool b) => k (.v (.bool (!b)))
  | .neg, .v (.int ik m) => k (.v (.int ik (ik.wrap (0 - m))))
  | .xor, .v (.int ik m) => k (.v (.int ik (ik.wrap ((BitVec.ofInt ik.bits (if ik.signed then -1 else ik.max) ^^^ BitVec.ofInt ik.bits m).toNat : Int))))
  | _, _ => False
theorem sound_un {op : UnOp} {t : TypeId} {x : Operand} (ho : o.op = .unOp op t x) (hx : opdIn n x = true) (hf : FrRel F w n fr a) (h : aUn op (fr.ev x) k) : Quiet P o a F w k := by
  have hv := hf.ev x hx
  revert h hv
  generalize fr.ev x = p
  intro h hv
  unfold aUn at h
  split at h
  · have ex := hv.eq
    exact ⟨_, _, by simp [execOp, ho, ex, Op.unary], .v _, h⟩
  · have ex := hv.eq
    exact ⟨_, _, by simp [execOp, ho, ex, Op.unary, Op.intArith], .v _, h⟩
  · have ex := hv.eq
    exact ⟨_, _, by simp [execOp, ho, ex, Op.unary, Op.intBits], .v _, h⟩
  · exact h.elim

/-! ### conversions: of numbers; of a text to bytes (a row of one's own); of bytes to a text -/
def byteEl (b : UInt8) : List AV := [.v (.int .u8 (b.toNat : Int))]
theorem bytes_getD (l : List UInt8) (i : Nat) (hi : i < l.length) : ((l.map byteEl).getD i []).getD 0 (.v undef) = .v (.int .u8 ((l.getD i 0).toNat : Int)) := by
  have e : (l.map byteEl)[i]? = some (byteEl l[i]) := by rw [List.getElem?_map, List.getElem?_eq_getElem hi]; rfl
  have e2 : l[i]? = some l[i] := List.getElem?_eq_getElem hi
  simp only [List.getD_eq_getElem?_getD, e, e2]
  rfl
theorem vals_getD (l : List UInt8) (i : Nat) (hi : i < l.length) : (l.map fun b => Value.int .u8 (b.toNat : Int)).getD i undef = .int .u8 ((l.getD i 0).toNat : Int) := by
  have e : (l.map fun b => Value.int .u8 (b.toNat : Int))[i]? = some (.int .u8 (l[i].toNat : Int)) := by rw [List.getElem?_map, List.getElem?_eq_getElem hi]; rfl
  have e2 : l[i]? = some l[i] := List.getElem?_eq_getElem hi
  simp only [List.getD_eq_getElem?_getD, e, e2]
  rfl
def byteOf : List AV → UInt8
  | [.v (.int .u8 m)] => UInt8.ofNat m.toNat
  | _ => 0
def isByte : List AV → Bool
  | [.v (.int .u8 _)] => true
  | _ => false
def strOf (es : List (List AV)) : ByteArray := ⟨(es.map byteOf).toArray⟩

def aConv (i j : Option TK) (σ : St) (x : AV) (k : AV → St → Prop) : Prop :=
  match i, j with
  | some i, some j => match i.td, j.td, x with
    | .int _, .int ik, .v (.int _ m) => k (.v (.int ik (ik.wrap m))) σ
    | .str, .str, .v (.string s) => k (.v (.string s)) σ
    | .str, .sl 1 _ _ true, .v (.string s) => ∀ b cap, σ b = none → s.size ≤ cap → k (.v (.slice (some ⟨b, 0, none⟩) s.size cap)) (σ.set b (.rows 1 (s.data.toList.map byteEl) false cap))
    | .sl 1 _ _ true, .str, x => ∃ es, vlook 1 σ x = some es ∧ es.all isByte = true ∧ k (.v (.string (strOf es))) σ
    | _, _, _ => False
  | _, _ => False

end
end Go.Av

/-
  The program logic, part 8: conversions and append.
  Conditions: none (a library of definitions and lemmas over any program).
-/
namespace Go.Av
open Go Go.RowKit

section
variable {P : Program} {o : Oper} {n : Nat} {fr : Fr} {a : Act} {F : Froz} {w : World} {σ : St} {k : AV → St → Prop}

theorem td_int {d : TypeDesc} {ik : IntKind} (h : tdOf P d = .int ik) : d = .int ik := by
  cases d with
  | array n e => simp only [tdOf] at h; (repeat' split at h) <;> cases h
  | struct e => simp only [tdOf] at h; (repeat' split at h) <;> cases h
  | slice e => simp only [tdOf] at h; (repeat' split at h) <;> cases h
  | int kk => simp [tdOf] at h; rw [h]
  | _ => simp [tdOf] at h

/-- A world that differs in draws alone, and has one block more. -/
theorem rel_alloc_drew (h : Rel F w σ) (o : Obj) (t : AObj) (ht : Holds F (w.drew.alloc o) w.heap.size t) : Rel F (w.drew.alloc o) (σ.set w.heap.size t) ∧ Ext F w σ F (w.drew.alloc o) (σ.set w.heap.size t) := by
  obtain ⟨r1, r2⟩ := rel_alloc h.drew o t ht
  exact ⟨r1, (Ext.drew (Ext.refl F w σ)).trans r2⟩

theorem strOf_nums : ∀ (es : List (List AV)), es.all isByte = true → ∃ xs : List Int, es = xs.map (fun m => [AV.v (.int .u8 m)]) ∧ strOf es = strOfNums xs
  | [], _ => ⟨[], rfl, rfl⟩
  | e :: es, h => by
    simp only [List.all_cons, Bool.and_eq_true] at h
    obtain ⟨xs, h1, h2⟩ := strOf_nums es h.2
    have he := h.1
    unfold isByte at he
    split at he
    · rename_i m
      refine ⟨m :: xs, by rw [h1]; rfl, ?_⟩
      subst h1
      simp [strOf, strOfNums, byteOf] at h2 ⊢
    · cases he

theorem sound_conv {s d : TypeId} {x : Operand} (ho : o.op = .convert s d x) (hx : opdIn n x = true) (hf : FrRel F w n fr a) (hs : Rel F w σ) (h : aConv (tk P s) (tk P d) σ (fr.ev x) k) : OpOk P o a F w σ k := by
  cases h1 : tk P s with
  | none => simp [h1, aConv] at h
  | some i =>
    cases h2 : tk P d with
    | none => simp [h1, h2, aConv] at h
    | some j =>
      obtain ⟨i1, d1, z1, a1, a2, a3, a4, a5, a6, a7, a8⟩ := tk_info h1
      obtain ⟨i2, d2, z2, b1, b2, b3, b4, b5, b6, b7, b8⟩ := tk_info h2
      simp only [h1, h2, aConv] at h
      have hv := hf.ev x hx
      have hgo : ∀ y w', (convert s d (a.eval x)).run P w = .ok y w' → (execOp a.eval o).run P w = .ok (.value y) w' := fun y w' hy => by
        simp [execOp, ho, hy]
      generalize hti : i.td = ti at h
      generalize htj : j.td = tj at h
      rw [hti] at a7
      rw [htj] at b7
      revert h hv
      generalize fr.ev x = p
      intro hv h
      split at h
      · rename_i ik' ik _ m
        have e1 := td_int (P := P) (d := d1) a7.symm
        have e2 := td_int (P := P) (d := d2) b7.symm
        subst e1
        subst e2
        have ex := hv.eq
        refine opOk_pure hs (hgo _ _ ?_) (.v _) h
        simp [ex, convert, run_underlying a2, run_underlying b2, Conv.intToInt]
      · have e1 := td_str (P := P) (d := d1) a7.symm
        have e2 := td_str (P := P) (d := d2) b7.symm
        subst e1
        subst e2
        have ex := hv.eq
        refine opOk_pure hs (hgo _ _ ?_) (.v _) h
        simp [ex, convert, run_underlying a2, run_underlying b2]
      · rename_i _ _ str
        have e1 := td_str (P := P) (d := d1) a7.symm
        subst e1
        obtain ⟨e, ie, ze, rfl, k1, k2, k3, k4, k5, k6, k7⟩ := td_sl (P := P) b7.symm
        have hu8 : P.underlying e = some (.int .u8) := k7 rfl
        have ex := hv.eq
        have hrun := Lib.run_convert_string_bytes w s d e str a2 b2 hu8
        have hkp : Keeps F w F (Lib.bytesWorld w e str) := ⟨fun _ => Nat.le_refl _, fun b off hb => by
          have hlt : b < w.heap.size := by
            rcases Nat.lt_or_ge b w.heap.size with h' | h'
            · exact h'
            · have := hs.lt b h'; omega
          exact Lib.bytesWorld_old w e str _ hlt⟩
        have hcap : str.size ≤ grownCap w str.size 0 e := grownCap_ge w _ _ _
        have hsz : (Lib.bytesCells w e str).size = grownCap w str.size 0 e := by
          have hds : str.data.size = str.size := rfl
          simp only [Lib.bytesCells, Array.size_append, Array.size_map, Array.size_replicate]
          omega
        have hlen : (str.data.toList.map byteEl).length = str.size := by rw [List.length_map, Array.length_toList]; rfl
        refine opOk_value (σ' := σ.set w.heap.size (.rows 1 (str.data.toList.map byteEl) false (grownCap w str.size 0 e))) (hgo _ _ (by rw [ex]; exact hrun)) (F' := F) ⟨hkp, rfl, rfl, rfl, by rw [Lib.bytesWorld_size]; omega, fun b hb hn => ⟨Lib.bytesWorld_at_old w e str b hb, ?_, rfl⟩⟩ ⟨fun b t hb => ?_, fun b hb => hs.lt b (by rw [Lib.bytesWorld_size] at hb; omega)⟩ (.v _) (h _ _ (fresh_none hs (Nat.le_refl _)) hcap)
        · simp only [St.set]
          rw [if_neg (by omega)]
          exact hn
        · simp only [St.set] at hb
          by_cases hbb : b = w.heap.size
          · rw [if_pos hbb] at hb
            injection hb with hb
            subst hb
            subst hbb
            refine ⟨_, _, _, Lib.bytesWorld_at_new w e str, by rw [hsz]; omega, by rw [hlen]; exact hcap, fun q hq => ?_, fun i hi => by simp only; omega, by rw [hs.lt _ (Nat.le_refl _)]; rfl, fun i j hi hj => ?_⟩
            · obtain ⟨q', _, rfl⟩ := List.mem_map.1 hq
              exact ⟨rfl, rfl⟩
            · obtain rfl : j = 0 := by omega
              rw [hlen] at hi
              have hi' : i < str.data.toList.length := by rw [Array.length_toList]; exact hi
              have e1 := bytes_getD str.data.toList i hi'
              have e2 : (Lib.bytesCells w e str).getD (i * 1 + 0) undef = .int .u8 ((str.data.toList.getD i 0).toNat : Int) := by
                have := vals_getD str.data.toList i hi'
                rw [← this, Array.getD_eq_getD_getElem?, Lib.bytesCells, Array.getElem?_append_left (by rw [Array.size_map]; rw [Array.length_toList] at hi'; omega), List.getD_eq_getElem?_getD, Nat.mul_one, Nat.add_zero, ← Array.toList_map, Array.getElem?_toList]
              rw [e1, e2]
              exact .v _
          · rw [if_neg hbb] at hb
            exact (hs.obj b t hb).mono hkp (Lib.bytesWorld_at_old w e str b (hs.lt_size hb)) rfl
      · have e2 := td_str (P := P) (d := d2) b7.symm
        subst e2
        obtain ⟨e, ie, ze, rfl, k1, k2, k3, k4, k5, k6, k7⟩ := td_sl (P := P) a7.symm
        have hu8 : P.underlying e = some (.int .u8) := k7 rfl
        obtain ⟨es, hview, hb, hk⟩ := h
        obtain ⟨F', hsl⟩ := vlook_ok hs hview hv
        obtain ⟨xs, rfl, hstr⟩ := strOf_nums es hb
        rw [hstr] at hk
        refine opOk_pure hs (hgo _ _ ?_) (.v _) hk
        generalize a.eval x = X at hsl
        generalize hes : xs.map (fun m => [AV.v (.int .u8 m)]) = es at hsl
        cases hsl with
        | sl0 _ ad cap =>
          obtain rfl : xs = [] := by simpa using hes
          cases ad with
          | none => exact run_convert_bytes_nil w s e a2 hu8 0 cap d b2
          | some ad =>
            have := run_convert_bytes_arg w s e a2 hu8 ad.block ad.off 0 cap [] rfl (fun i hi => by omega) d b2
            rw [run_convert_bytes_string w s d e _ 0 cap a2 hu8 b2]
            simp [Conv.bytesToString, loadCells, loadCellsFrom]
            rfl
        | sl _ _ b p c nn cap hn hk hcap hF hc hr =>
          have hl : es.length = xs.length := by rw [← hes]; simp
          refine run_convert_bytes_arg w s e a2 hu8 b p nn cap xs (by omega) (fun i hi => ?_) d b2
          have h1 := hc i (by omega)
          have h2 := hr i 0 (by omega) (by omega)
          have e1 : (es.getD i []).getD 0 (.v undef) = .v (.int .u8 (xs.getD i 0)) := by
            rw [← hes]
            have hi' : i < xs.length := by omega
            simp [List.getD_eq_getElem?_getD, hi']
          rw [e1] at h2
          rw [h1, ← h2.eq]
          simp
      · exact h.elim
end
end Go.Av

/-
  The program logic, part 9: append.
  Conditions: none (a library of definitions and lemmas over any program).
-/
namespace Go.Av
open Go Go.RowKit

/-- What is appended, element by element: a slice, tracked or frozen; a text's bytes. -/
def src (q : Nat) (byt : Bool) (σ : St) : AV → Option (List (List AV))
  | .sl q' es => if q' = q then some es else none
  | .fsl q' es => if q' = q then some es else none
  | .v (.slice none 0 0) => some []
  | .v (.slice (some ⟨b, p, none⟩) n cap) => match σ b with
    | some (.rows q' es _ cap') => if q' = q ∧ p % q = 0 ∧ p / q + n ≤ es.length then some ((es.drop (p / q)).take n) else none
    | _ => none
  | .v (.string s) => if byt = true ∧ q = 1 then some (s.data.toList.map byteEl) else none
  | _ => none

section
variable {P : Program} {o : Oper} {n : Nat} {fr : Fr} {a : Act} {F : Froz} {w : World} {σ : St} {k : AV → St → Prop}

theorem map_range_getD (c : Nat → Value) (m j : Nat) (h : j < m) : (((List.range m).map c)).getD j undef = c j := by
  simp [List.getD_eq_getElem?_getD, h]

/-- The cells that are appended, as they are read. -/
theorem src_ok (hs : Rel F w σ) {q : Nat} {byt : Bool} {x : AV} {X : Value} {ys : List (List AV)} (h : src q byt σ x = some ys) (hv : RV F w x X) :
    ∃ vs : List Value, vs.length = ys.length * q ∧ (∀ w', (Builtin.lenOf X).run P w' = .ok ys.length w') ∧ (∀ w' : World, w'.heap = w.heap → (Builtin.firstCells q ys.length X).run P w' = .ok vs.toArray w') ∧ (∀ e ∈ ys, e.length = q ∧ e.all AV.one = true) ∧
      ∀ i j, i < ys.length → j < q → RV F w ((ys.getD i []).getD j (.v undef)) (vs.getD (i * q + j) undef) := by
  have hidx : ∀ i j, i < ys.length → j < q → i * q + j < ys.length * q := fun i j hi hj => by
    have : (i + 1) * q ≤ ys.length * q := Nat.mul_le_mul_right _ hi
    rw [Nat.succ_mul] at this
    omega
  have mem : ∀ (b p : Nat) (c : Nat → Value) (n cap : Nat), (∀ j, j < ys.length * q → w.cell? ⟨b, p + j, none⟩ = some (c j)) → ∀ w' : World, w'.heap = w.heap → (Builtin.firstCells q ys.length (.slice (some ⟨b, p, none⟩) n cap)).run P w' = .ok ((List.range (ys.length * q)).map c).toArray w' := fun b p c n cap hc w' hw => by
    unfold Builtin.firstCells
    exact run_loadCells w' _ _ c (fun j hj => by
      rw [Addr.add_mid]
      have := hc j hj
      simp only [World.cell?] at this ⊢
      rw [hw]
      exact this)
  unfold src at h
  split at h
  · split at h
    · rename_i hq; subst hq; injection h with h; subst h
      cases hv with
      | sl0 _ ad cap =>
        refine ⟨[], by simp, fun w' => by simp [Builtin.lenOf], fun w' hw => ?_, by simp, by simp⟩
        cases ad <;> simp [Builtin.firstCells, loadCells, loadCellsFrom]
      | sl _ _ b p c nn cap hn hk hcap hF hc hr =>
        subst hn
        exact ⟨_, by simp, fun w' => by simp [Builtin.lenOf], mem b p c _ cap hc, hk, fun i j hi hj => by rw [map_range_getD _ _ _ (hidx i j hi hj)]; exact hr i j hi hj⟩
    · cases h
  · split at h
    · rename_i hq; subst hq; injection h with h; subst h
      cases hv with
      | fsl0 _ ad =>
        refine ⟨[], by simp, fun w' => by simp [Builtin.lenOf], fun w' hw => ?_, by simp, by simp⟩
        cases ad <;> simp [Builtin.firstCells, loadCells, loadCellsFrom]
      | fsl _ _ b p c nn hn hk hF hc hr =>
        subst hn
        exact ⟨_, by simp, fun w' => by simp [Builtin.lenOf], mem b p c _ _ hc, hk, fun i j hi hj => by rw [map_range_getD _ _ _ (hidx i j hi hj)]; exact hr i j hi hj⟩
    · cases h
  · injection h with h; subst h
    rw [hv.eq]
    exact ⟨[], by simp, fun w' => by simp [Builtin.lenOf], fun w' hw => by simp [Builtin.firstCells], by simp, by simp⟩
  · rename_i b p nn cap
    split at h
    · rename_i q' es' frz cap' hb
      split at h
      · rename_i hc
        obtain ⟨rfl, hp, hle0⟩ := hc
        injection h with h; subst h
        rw [hv.eq]
        obtain ⟨c, e, m, g1, g2, g3, g4, g5, g6, g7⟩ := hs.obj b _ hb
        have hlen : ((es'.drop (p / q')).take nn).length = nn := by simp; omega
        have hp' : p = p / q' * q' := by
          have := Nat.div_add_mod p q'
          rw [hp, Nat.mul_comm] at this
          omega
        have hle : (p / q' + nn) * q' ≤ cap' * q' := Nat.mul_le_mul_right _ (by omega)
        rw [Nat.add_mul, ← hp'] at hle
        have hc : ∀ j, j < ((es'.drop (p / q')).take nn).length * q' → w.cell? ⟨b, p + j, none⟩ = some (c.getD (p + j) undef) := fun j hj => by
          rw [hlen] at hj
          have hlt : p + j < c.size := by omega
          simp [World.cell?, g1, hlt]
        refine ⟨_, by simp, fun w' => by rw [hlen]; simp [Builtin.lenOf], mem b p (fun j => c.getD (p + j) undef) _ cap hc, fun e he => g4 e (List.mem_of_mem_drop (List.mem_of_mem_take he)), fun i j hi hj => ?_⟩
        rw [map_range_getD _ _ _ (hidx i j hi hj)]
        rw [hlen] at hi
        have e1 : ((es'.drop (p / q')).take nn).getD i [] = es'.getD (p / q' + i) [] := by
          simp only [List.getD_eq_getElem?_getD, List.getElem?_take, List.getElem?_drop]
          rw [if_pos hi]
        have e2 : p + (i * q' + j) = (p / q' + i) * q' + j := by rw [Nat.add_mul, ← hp']; omega
        rw [e1, e2]
        exact g7 (p / q' + i) j (by omega) hj
      · cases h
    · cases h
  · rename_i s
    split at h
    · rename_i hb
      obtain ⟨rfl, rfl⟩ := hb
      injection h with h; subst h
      rw [hv.eq]
      have hlen : (s.data.toList.map byteEl).length = s.size := by rw [List.length_map, Array.length_toList]; rfl
      refine ⟨s.data.toList.map fun b => Value.int .u8 (b.toNat : Int), by rw [hlen, List.length_map, Array.length_toList, Nat.mul_one]; rfl, fun w' => by rw [hlen]; simp [Builtin.lenOf], fun w' hw => ?_, fun e he => ?_, fun i j hi hj => ?_⟩
      · rw [hlen]
        have hx : s.extract 0 s.size = s := by simp
        simp only [Builtin.firstCells, hx, Sem.run_pure]
        congr 1
        apply Array.ext'
        simp
      · obtain ⟨q', _, rfl⟩ := List.mem_map.1 he
        exact ⟨rfl, rfl⟩
      · obtain rfl : j = 0 := by omega
        rw [hlen] at hi
        have hi' : i < s.data.toList.length := by rw [Array.length_toList]; exact hi
        have e1 := bytes_getD s.data.toList i hi'
        have e2 := vals_getD s.data.toList i hi'
        rw [Nat.mul_one, Nat.add_zero]
        rw [e1, e2]
        exact .v _
    · cases h
  · cases h

/-- 'append(s, x)', ys being x's elements. -/
def aAppTo (q eby : Nat) (ys : List (List AV)) (σ : St) (s : AV) (k : AV → St → Prop) : Prop :=
  match s with
  | .v (.slice none 0 0) => (ys = [] → k (.v (.slice none 0 0)) σ) ∧ (ys ≠ [] → ys.length * eby ≤ 140737488355328 ∧ ∀ b cap, σ b = none → ys.length ≤ cap → k (.v (.slice (some ⟨b, 0, none⟩) ys.length cap)) (σ.set b (.rows q ys false cap)))
  | .fsl q' es => q' = q ∧ (ys = [] → k (.fsl q es) σ) ∧ (ys ≠ [] → (es.length + ys.length) * eby ≤ 140737488355328 ∧ ∀ b cap, σ b = none → es.length + ys.length ≤ cap → k (.v (.slice (some ⟨b, 0, none⟩) (es.length + ys.length) cap)) (σ.set b (.rows q (es ++ ys) false cap)))
  | .v (.slice (some ⟨b, p, none⟩) n cap) =>
    (n = cap ∧ ys ≠ [] ∧ ∃ es, src q false σ (.v (.slice (some ⟨b, p, none⟩) n cap)) = some es ∧ (n + ys.length) * eby ≤ 140737488355328 ∧ ∀ b' cap', σ b' = none → n + ys.length ≤ cap' → k (.v (.slice (some ⟨b', 0, none⟩) (n + ys.length) cap')) (σ.set b' (.rows q (es ++ ys) false cap'))) ∨
    (p = 0 ∧ match σ b with
    | some (.rows q' es frz cap') => q' = q ∧ n = es.length ∧ cap = cap' ∧ (es.length + ys.length) * eby ≤ 140737488355328 ∧ ∀ b' cap'', (σ.del b) b' = none → es.length + ys.length ≤ cap'' → k (.v (.slice (some ⟨b', 0, none⟩) (es.length + ys.length) cap'')) ((σ.del b).set b' (.rows q (es ++ ys) frz cap''))
    | _ => False) ∨
    (p = 0 ∧ match σ b with
    | some (.rows q' es false cap') => q' = q ∧ n ≤ es.length ∧ cap = cap' ∧ n + ys.length ≤ cap ∧ (n + ys.length) * eby ≤ 140737488355328 ∧ k (.v (.slice (some ⟨b, 0, none⟩) (n + ys.length) cap)) (σ.set b (.rows q (es.take n ++ ys ++ es.drop (n + ys.length)) false cap))
    | _ => False) ∨
    (ys ≠ [] ∧ ∃ pre es cap', σ b = some (.rows q (pre ++ es) false cap') ∧ p = pre.length * q ∧ n = es.length ∧ cap + pre.length = cap' ∧ (es.length + ys.length) * eby ≤ 140737488355328 ∧
      ∀ b' pre' cap'', (σ.del b) b' = none → pre'.length + es.length + ys.length ≤ cap'' → k (.v (.slice (some ⟨b', pre'.length * q, none⟩) (es.length + ys.length) (cap'' - pre'.length))) ((σ.del b).set b' (.rows q (pre' ++ es ++ ys) false cap'')))
  | _ => False
def aApp (i : Option TK) (σ : St) (s x : AV) (k : AV → St → Prop) : Prop :=
  match i with
  | none => False
  | some i => match i.td with
    | .sl q eby ez byt => 0 < q ∧ 0 < eby ∧ ez.all Value.oneCell' = true ∧ ∃ ys, src q byt σ x = some ys ∧ aAppTo q eby ys σ s k
    | _ => False

theorem zeroCells_size (z : Array Value) (m : Nat) : (Builtin.zeroCells z m).size = m * z.size := by simp [Builtin.zeroCells]

theorem not_int (d : TypeDesc) (h : ∀ q, d ≠ .int q) : (match d with | .int _ => true | _ => false) = false := by
  cases d <;> first | rfl | exact absurd rfl (h _)

/-- What append comes to, in room that is there, or in a new block. -/
theorem run_append_gen {t1 t2 ty e : TypeId} {d2 : TypeDesc} {i : TypeInfo} {z : Value} (h1 : P.underlying t1 = some (.slice e)) (h2 : P.underlying t2 = some d2) (hd2 : ∀ q, d2 ≠ .int q) (hi : P.info? e = some i) (hz : i.zero = some z)
    (base : Option Addr) (sLen sCap : Nat) (X : Value) (m : Nat) (olds news : List Value)
    (hlen : ∀ w', (Builtin.lenOf X).run P w' = .ok m w') (hnew : ∀ w' : World, w'.heap = w.heap → (Builtin.firstCells i.size m X).run P w' = .ok news.toArray w')
    (hold : ∀ w' : World, w'.heap = w.heap → (Builtin.firstCells i.size sLen (.slice base sLen sCap)).run P w' = .ok olds.toArray w')
    (hb : (sLen + m) * i.bytes ≤ 140737488355328) (hby : 0 < i.bytes) :
    (sLen + m ≤ sCap → base = none → news = [] → (Builtin.append_ #[t1, t2] ty #[.slice base sLen sCap, X]).run P w = .ok (.slice base (sLen + m) sCap) w) ∧
    (∀ b p, sLen + m ≤ sCap → base = some ⟨b, p, none⟩ → w.there b (p + sLen * i.size) news.length → (∀ v ∈ news, v.oneCell' = true) → (Builtin.append_ #[t1, t2] ty #[.slice base sLen sCap, X]).run P w = .ok (.slice base (sLen + m) sCap) (w.setCells b (p + sLen * i.size) news)) ∧
    (¬ sLen + m ≤ sCap → (Builtin.append_ #[t1, t2] ty #[.slice base sLen sCap, X]).run P w = .ok (.slice (some ⟨w.heap.size, 0, none⟩) (sLen + m) (grownCap w (sLen + m) sCap e)) (w.drew.alloc (.cells (olds.toArray ++ news.toArray ++ Builtin.zeroCells z.cells (grownCap w (sLen + m) sCap e - (sLen + m))) e))) := by
  have hzeros := not_int d2 hd2
  refine ⟨fun hr hbn hn => ?_, fun b p hr hbs hth h1c => ?_, fun hr => ?_⟩
  · subst hbn
    subst hn
    simp [Builtin.append_, run_underlying h1, run_underlying h2, hzeros, run_sizeOf' hi, hlen, hr, hnew w rfl]
  · subst hbs
    have hst := run_storeCells_cells (P := P) b (p + sLen * i.size) news 0 w (fun j hj => by simpa using (hth j hj).1) (fun j hj => by simpa using (hth j hj).2) h1c
    simp only [Nat.add_zero] at hst
    simp [Builtin.append_, run_underlying h1, run_underlying h2, hzeros, run_sizeOf' hi, hlen, hr, hnew w rfl, Addr.add_mid, hst]
  · have hsum : sLen + m ≤ (sLen + m) * i.bytes := Nat.le_mul_of_pos_right _ hby
    have h63 : ¬ (9223372036854775807 < (sLen : Int) + (m : Int)) := by omega
    have hcap := nextslicecap_le (show sCap < sLen + m by omega)
    have h48 : ¬ (281474976710656 < Builtin.nextslicecap (sLen + m) sCap * i.bytes) := by
      have := Nat.mul_le_mul_right i.bytes hcap
      rw [Nat.mul_assoc] at this
      omega
    have hti : (typeInfo e).run P w = .ok i w := by simp [typeInfo, hi]
    have hti' : ∀ w', (typeInfo e).run P w' = .ok i w' := fun w' => by simp [typeInfo, hi]
    simp [Builtin.append_, run_underlying h1, run_underlying h2, hzeros, run_sizeOf' hi, hlen, hr, h63, h48, hti', Question.forced, hold w.drew rfl, hnew w.drew rfl, run_zero' hi hz, newRow, grownCap]
    congr 2
    apply Array.ext'
    simp

theorem Rel.del (h : Rel F w σ) (b : Nat) : Rel F w (σ.del b) := ⟨fun x t hx => by
  simp only [St.del] at hx
  split at hx
  · cases hx
  · exact h.obj x t hx, h.lt⟩
theorem Ext.del (F : Froz) (w : World) (σ : St) (b : Nat) : Ext F w σ F w (σ.del b) :=
  ⟨.refl F w, rfl, rfl, rfl, Nat.le_refl _, fun x _ hx => ⟨rfl, by simp only [St.del]; split <;> first | rfl | exact hx, rfl⟩⟩

/-- A new block, of which the first m cells may be frozen, tracked. -/
theorem rel_alloc_frz (h : Rel F w σ) (ob : Obj) (m : Nat) (t : AObj) (ht : Keeps F w (frzAt F w.heap.size m) (w.drew.alloc ob) → Holds (frzAt F w.heap.size m) (w.drew.alloc ob) w.heap.size t) :
    Rel (frzAt F w.heap.size m) (w.drew.alloc ob) (σ.set w.heap.size t) ∧ Ext F w σ (frzAt F w.heap.size m) (w.drew.alloc ob) (σ.set w.heap.size t) := by
  have hkp : Keeps F w (frzAt F w.heap.size m) (w.drew.alloc ob) := (Keeps.drew F w).trans (keeps_frz h.drew ob m)
  refine ⟨⟨fun b x hb => ?_, fun b hb => ?_⟩, ⟨hkp, rfl, rfl, rfl, by simp, fun b hb hs => ⟨Below.heap_alloc w.drew ob b hb, ?_, ?_⟩⟩⟩
  · simp only [St.set] at hb
    by_cases hbb : b = w.heap.size
    · rw [if_pos hbb] at hb
      injection hb with hb
      subst hb
      subst hbb
      exact ht hkp
    · rw [if_neg hbb] at hb
      exact (h.obj b x hb).mono hkp (Below.heap_alloc w.drew ob b (h.lt_size hb)) (by unfold frzAt; rw [if_neg hbb])
  · simp at hb
    unfold frzAt
    rw [if_neg (by omega)]
    exact h.lt b (by omega)
  · simp only [St.set]
    rw [if_neg (by omega)]
    exact hs
  · unfold frzAt
    rw [if_neg (by omega)]

theorem append_getD (es ys : List (List AV)) (i : Nat) : (es ++ ys).getD i [] = if i < es.length then es.getD i [] else ys.getD (i - es.length) [] := by
  simp only [List.getD_eq_getElem?_getD]
  by_cases h : i < es.length
  · rw [if_pos h, List.getElem?_append_left h]
  · rw [if_neg h, List.getElem?_append_right (by omega)]

/-- A row's cells, old and new, in a new block. -/
theorem grown_holds (h : Rel F w σ) {q : Nat} {es ys : List (List AV)} {olds news : List Value} {e : TypeId} {z : Value} {cap : Nat} (frz : Bool) (hz : z.cells.size = q)
    (ho : olds.length = es.length * q) (hn : news.length = ys.length * q) (hes : ∀ x ∈ es, x.length = q ∧ x.all AV.one = true) (hys : ∀ x ∈ ys, x.length = q ∧ x.all AV.one = true)
    (hro : ∀ i j, i < es.length → j < q → RV F w ((es.getD i []).getD j (.v undef)) (olds.getD (i * q + j) undef)) (hrn : ∀ i j, i < ys.length → j < q → RV F w ((ys.getD i []).getD j (.v undef)) (news.getD (i * q + j) undef))
    (hcap : es.length + ys.length ≤ cap) (hkp : Keeps F w (frzAt F w.heap.size (if frz then (es.length + ys.length) * q else 0)) (w.drew.alloc (.cells (olds.toArray ++ news.toArray ++ Builtin.zeroCells z.cells (cap - (es.length + ys.length))) e))) :
    Holds (frzAt F w.heap.size (if frz then (es.length + ys.length) * q else 0)) (w.drew.alloc (.cells (olds.toArray ++ news.toArray ++ Builtin.zeroCells z.cells (cap - (es.length + ys.length))) e)) w.heap.size (.rows q (es ++ ys) frz cap) := by
  have hsize : (olds.toArray ++ news.toArray ++ Builtin.zeroCells z.cells (cap - (es.length + ys.length))).size = cap * q := by
    simp only [Array.size_append, List.size_toArray, zeroCells_size, hz, ho, hn, ← Nat.add_mul]
    congr 1
    omega
  refine ⟨_, e, (0, 0), heap_alloc_new w.drew _, by rw [hsize]; exact Nat.le_refl _, by rw [List.length_append]; exact hcap, fun x hx => ?_, fun i _ hi => by simp at hi, ?_, fun i j hi hj => ?_⟩
  · rcases List.mem_append.1 hx with h' | h'
    · exact hes x h'
    · exact hys x h'
  · unfold frzAt
    rw [if_pos rfl, List.length_append]
  · rw [List.length_append] at hi
    rw [append_getD]
    by_cases hi' : i < es.length
    · rw [if_pos hi']
      have hlt : i * q + j < olds.length := by
        rw [ho]
        have : (i + 1) * q ≤ es.length * q := Nat.mul_le_mul_right _ hi'
        rw [Nat.succ_mul] at this
        omega
      have e1 : (olds.toArray ++ news.toArray ++ Builtin.zeroCells z.cells (cap - (es.length + ys.length))).getD (i * q + j) undef = olds.getD (i * q + j) undef := by
        simp only [Array.getD_eq_getD_getElem?, List.getD_eq_getElem?_getD]
        rw [Array.append_assoc, Array.getElem?_append_left (by simpa using hlt)]
        simp
      rw [e1]
      exact (hro i j hi' hj).mono hkp
    · rw [if_neg hi']
      have hi2 : i - es.length < ys.length := by omega
      have hlt : (i - es.length) * q + j < news.length := by
        rw [hn]
        have : (i - es.length + 1) * q ≤ ys.length * q := Nat.mul_le_mul_right _ hi2
        rw [Nat.succ_mul] at this
        omega
      have hidx : i * q + j = olds.length + ((i - es.length) * q + j) := by
        rw [ho, ← Nat.add_assoc, ← Nat.add_mul, show es.length + (i - es.length) = i by omega]
      have e1 : (olds.toArray ++ news.toArray ++ Builtin.zeroCells z.cells (cap - (es.length + ys.length))).getD (i * q + j) undef = news.getD ((i - es.length) * q + j) undef := by
        simp only [Array.getD_eq_getD_getElem?, List.getD_eq_getElem?_getD]
        rw [hidx, Array.append_assoc, Array.getElem?_append_right (by simp), Array.getElem?_append_left (by simp; exact hlt)]
        simp
      rw [e1]
      exact (hrn _ j hi2 hj).mono hkp

theorem td_any {d : TypeDesc} (h : ∀ q, tdOf P d ≠ .int q) : ∀ q, d ≠ .int q := fun q e => by subst e; exact h q rfl

theorem sound_app {t1 t2 : TypeId} {s x : Operand} (ho : o.op = .call { callee := .builtin .append, args := #[s, x], argTypes := #[t1, t2] }) (hsi : opdIn n s = true) (hx : opdIn n x = true) (hf : FrRel F w n fr a) (hs : Rel F w σ)
    (ht2 : ∃ j, tk P t2 = some j ∧ ∀ q, j.td ≠ .int q) (h : aApp (tk P t1) σ (fr.ev s) (fr.ev x) k) : OpOk P o a F w σ k := by
  obtain ⟨j, hj, hjn⟩ := ht2
  obtain ⟨i2, d2, z2, b1, b2, b3, b4, b5, b6, b7, b8⟩ := tk_info hj
  have hd2 : ∀ q, d2 ≠ .int q := td_any (P := P) (by rw [← b7]; exact hjn)
  cases ht : tk P t1 with
  | none => simp [ht, aApp] at h
  | some i =>
    obtain ⟨inf, d, z, h1, h2, h3, h4, h5, h6, h7, h8⟩ := tk_info ht
    simp only [ht, aApp] at h
    cases htd : i.td with
    | sl q eby ez byt =>
      obtain ⟨e, ie, ze, rfl, k1, rfl, rfl, k4, rfl, k6, k7⟩ := td_sl (P := P) (by rw [← h7, htd])
      simp only [htd] at h
      obtain ⟨hq, hby, hez, ys, hsrc, h⟩ := h
      obtain ⟨news, n1, n2, n3, n4, n5⟩ := src_ok (P := P) hs hsrc (hf.ev x hx)
      have hgo : ∀ y w', (Builtin.append_ #[t1, t2] o.type #[a.eval s, a.eval x]).run P w = .ok y w' → (execOp a.eval o).run P w = .ok (.value y) w' := fun y w' hy => by
        simp [execOp, ho, resolve, invoke, builtin, hy]
      have hone : ∀ v ∈ news, v.oneCell' = true := fun v hv => by
        obtain ⟨j, hj, rfl⟩ := List.getElem_of_mem hv
        have hlt : j < ys.length * ie.size := by omega
        have hi : j / ie.size < ys.length := (Nat.div_lt_iff_lt_mul hq).2 hlt
        have hm : j % ie.size < ie.size := Nat.mod_lt _ hq
        have hr := n5 _ _ hi hm
        rw [show j / ie.size * ie.size + j % ie.size = j by rw [Nat.mul_comm]; exact Nat.div_add_mod j _] at hr
        have e1 : news.getD j undef = news[j] := by simp [List.getD_eq_getElem?_getD, hj]
        rw [e1] at hr
        refine hr.one ?_
        have e2 : ys.getD (j / ie.size) [] = ys[j / ie.size] := by simp [List.getD_eq_getElem?_getD, hi]
        have := n4 _ (List.getElem_mem hi)
        rw [e2]
        have e3 : (ys[j / ie.size]).getD (j % ie.size) (.v undef) = (ys[j / ie.size])[j % ie.size]'(by omega) := by simp [List.getD_eq_getElem?_getD, this.1, hm]
        rw [e3]
        exact (List.all_eq_true.1 this.2) _ (List.getElem_mem _)
      have hv := hf.ev s hsi
      revert h hv
      generalize fr.ev s = p
      intro h hv
      unfold aAppTo at h
      split at h
      · have ex := hv.eq
        have hrun := run_append_gen (P := P) (w := w) (ty := o.type) h2 b2 hd2 k1 k4 none 0 0 (a.eval x) ys.length [] news n2 n3 (fun w' _ => by simp [Builtin.firstCells])
        by_cases hys : ys = []
        · subst hys
          refine opOk_pure hs (hgo _ _ ?_) (.v _) (h.1 rfl)
          rw [ex]
          have hnn : news = [] := List.eq_nil_of_length_eq_zero (by simpa using n1)
          exact (hrun (by simp) hby).1 (by simp) rfl hnn
        · obtain ⟨hb, hk⟩ := h.2 hys
          have hpos : 0 < ys.length := List.length_pos_iff.2 hys
          have hr := (hrun (by simpa using hb) hby).2.2 (by omega)
          simp only [Nat.zero_add] at hr
          have hcap := grownCap_ge w ys.length 0 e
          have hg := grown_holds (F := F) (es := []) (olds := []) hs (e := e) (z := ze) (cap := grownCap w ys.length 0 e) false k6 (by simp) n1 (by simp) n4 (by simp) n5 (by simpa using hcap)
          simp only [List.length_nil, Nat.zero_add, List.nil_append] at hg
          obtain ⟨r1, r2⟩ := rel_alloc_frz hs _ _ _ hg
          exact opOk_value (hgo _ _ (by rw [ex]; exact hr)) r2 r1 (.v _) (hk _ _ (fresh_none hs (Nat.le_refl _)) hcap)
      · rename_i q' es
        obtain ⟨rfl, h⟩ := h
        by_cases hys : ys = []
        · subst hys
          have hnn : news = [] := List.eq_nil_of_length_eq_zero (by simpa using n1)
          subst hnn
          have hform : ∃ ad, a.eval s = .slice ad es.length es.length := by
            cases hX : a.eval s with
            | slice ad len cap =>
              rw [hX] at hv
              cases hv with
              | fsl0 _ _ => exact ⟨_, rfl⟩
              | fsl _ _ b p c _ hn hk hF hc hr => subst hn; exact ⟨_, rfl⟩
            | _ => rw [hX] at hv; cases hv
          obtain ⟨ad, ex⟩ := hform
          refine opOk_pure hs (hgo (.slice ad es.length es.length) _ ?_) (by rw [← ex]; exact hv) (h.1 rfl)
          rw [ex]
          have hzeros := not_int d2 hd2
          have hn0 := n3 w rfl
          simp only [List.length_nil] at n2 hn0
          cases ad <;> simp [Builtin.append_, run_underlying h2, run_underlying b2, hzeros, run_sizeOf' k1, n2, hn0, storeCells]
        · obtain ⟨hb, hk⟩ := h.2 hys
          have hpos : 0 < ys.length := List.length_pos_iff.2 hys
          have hvs : RV F w (.sl ie.size es) (a.eval s) := by
            generalize a.eval s = X at hv
            cases hv with
            | fsl0 _ a => exact .sl0 _ _ _
            | fsl _ _ b p c n hn hk hF hc hr => exact .sl _ _ b p c n n hn hk (Nat.le_refl _) hF hc hr
          obtain ⟨olds, m1, m2, m3, m4, m5⟩ := src_ok (P := P) hs (q := ie.size) (ys := es) (byt := byt) (x := .sl ie.size es) (by simp [src]) hvs
          have hform : ∃ ad, a.eval s = .slice ad es.length es.length := by
            cases hX : a.eval s with
            | slice ad len cap =>
              rw [hX] at hv
              cases hv with
              | fsl0 _ _ => exact ⟨_, rfl⟩
              | fsl _ _ b p c _ hn hk hF hc hr => subst hn; exact ⟨_, rfl⟩
            | _ => rw [hX] at hv; cases hv
          obtain ⟨ad, ex⟩ := hform
          rw [ex] at m3
          have hr := (run_append_gen (P := P) (w := w) (ty := o.type) h2 b2 hd2 k1 k4 ad es.length es.length (a.eval x) ys.length olds news n2 n3 m3 hb hby).2.2 (by omega)
          have hcap := grownCap_ge w (es.length + ys.length) es.length e
          have hg := grown_holds (F := F) hs (e := e) (z := ze) (cap := grownCap w (es.length + ys.length) es.length e) false k6 m1 n1 m4 n4 m5 n5 hcap
          obtain ⟨r1, r2⟩ := rel_alloc_frz hs _ _ _ hg
          exact opOk_value (hgo _ _ (by rw [ex]; exact hr)) r2 r1 (.v _) (hk _ _ (fresh_none hs (Nat.le_refl _)) hcap)
      · rename_i b p len cap
        rcases h with ⟨rfl, hys, es, hes, hbd, hk⟩ | ⟨rfl, h⟩ | ⟨rfl, h⟩ | ⟨hys, pre, es, cap', hb, rfl, rfl, hcap', hbd, hk⟩
        · have hlen : es.length = len := by
            simp only [src] at hes
            split at hes
            · split at hes
              · rename_i hc
                injection hes with hes
                subst hes
                simp
                omega
              · cases hes
            · cases hes
          have hpos : 0 < ys.length := List.length_pos_iff.2 hys
          have ex := hv.eq
          obtain ⟨olds, m1, m2, m3, m4, m5⟩ := src_ok (P := P) hs hes (.v _)
          rw [hlen] at m3
          have hr := (run_append_gen (P := P) (w := w) (ty := o.type) h2 b2 hd2 k1 k4 (some ⟨b, p, none⟩) len len (a.eval x) ys.length olds news n2 n3 m3 hbd hby).2.2 (by omega)
          have hcap := grownCap_ge w (len + ys.length) len e
          rw [← hlen] at hcap
          have hg := grown_holds (F := F) hs (e := e) (z := ze) (cap := grownCap w (es.length + ys.length) es.length e) false k6 m1 n1 m4 n4 m5 n5 hcap
          obtain ⟨r1, r2⟩ := rel_alloc_frz hs _ _ _ hg
          rw [hlen] at hcap r1 r2
          exact opOk_value (hgo _ _ (by rw [ex]; exact hr)) r2 r1 (.v _) (hk _ _ (fresh_none hs (Nat.le_refl _)) hcap)
        cases hb : σ b with
        | none => simp [hb] at h
        | some ob =>
          cases ob with
          | cells _ => simp [hb] at h
          | map _ => simp [hb] at h
          | loop _ _ _ _ _ _ _ => simp [hb] at h
          | rows q' es frz cap' =>
            simp only [hb] at h
            obtain ⟨rfl, rfl, rfl, hbd, hk⟩ := h
            have ex := hv.eq
            obtain ⟨olds, m1, m2, m3, m4, m5⟩ := src_ok (P := P) hs (q := ie.size) (ys := es) (byt := byt) (x := .v (.slice (some ⟨b, 0, none⟩) es.length cap)) (by simp [src, hb]) (.v _)
            have hgen := run_append_gen (P := P) (w := w) (ty := o.type) h2 b2 hd2 k1 k4 (some ⟨b, 0, none⟩) es.length cap (a.eval x) ys.length olds news n2 n3 m3 hbd hby
            have hdel := hs.del b
            have hed := Ext.del F w σ b
            by_cases hroom : es.length + ys.length ≤ cap
            · obtain ⟨c, e', m, g1, g2, g3, g4, g5, g6, g7⟩ := hs.obj b _ hb
              have hfit : es.length * ie.size + news.length ≤ c.size := by
                rw [n1, ← Nat.add_mul]
                exact Nat.le_trans (Nat.mul_le_mul_right _ hroom) g2
              have hth : w.there b (0 + es.length * ie.size) news.length := fun j hj => by
                have hlt : es.length * ie.size + j < c.size := by omega
                rw [Nat.zero_add]
                refine ⟨by simp [World.cell?, g1, hlt], ?_⟩
                have := g5 (es.length * ie.size + j) hlt
                simp only [World.frozen?, g1]
                simpa using this
              have hr := hgen.2.1 b 0 hroom rfl hth hone
              rw [Nat.zero_add] at hr
              obtain ⟨c', q1, q2, q3⟩ := heap_setCells b e' m news (es.length * ie.size) w c g1
              have hFb : F b ≤ es.length * ie.size := by rw [g6]; split <;> omega
              have hkp : Keeps F w (frzAt F b (if frz then (es.length + ys.length) * ie.size else 0)) (w.setCells b (es.length * ie.size) news) := ⟨fun x => by
                  unfold frzAt
                  split
                  · rename_i hx; subst hx
                    rw [g6]
                    cases frz with
                    | true => exact Nat.mul_le_mul_right _ (by omega)
                    | false => exact Nat.le_refl _
                  · exact Nat.le_refl _, fun x off hoff => by
                  refine World.cell?_setCells_out b news _ w _ (fun hxb _ => ?_)
                  simp only at hxb
                  subst hxb
                  left
                  show off < es.length * ie.size
                  omega⟩
              obtain ⟨z1, z2, z3⟩ := rest_setCells b news (es.length * ie.size) w
              refine opOk_value (σ' := (σ.del b).set b (.rows ie.size (es ++ ys) frz cap)) (F' := frzAt F b (if frz then (es.length + ys.length) * ie.size else 0)) (hgo _ _ (by rw [ex]; exact hr)) ⟨hkp, z1, z2, z3, by rw [size_setCells]; exact Nat.le_refl _, fun x hx hn => ?_⟩ ⟨fun x t hx => ?_, fun x hx => ?_⟩ (.v _) (hk b cap (by simp [St.del]) hroom)
              · have hne : x ≠ b := fun e => by subst e; simp [hb] at hn
                exact ⟨heap_setCells_other b news _ w x hne, by simp [St.set, St.del, hne, hn], by simp [frzAt, hne]⟩
              · simp only [St.set] at hx
                by_cases hxb : x = b
                · rw [if_pos hxb] at hx
                  injection hx with hx
                  subst hx
                  subst hxb
                  refine ⟨c', e', m, q1, by rw [q2]; exact g2, by rw [List.length_append]; exact hroom, fun x hx => ?_, by rw [q2]; exact g5, by unfold frzAt; rw [if_pos rfl, List.length_append], fun i j hi hj => ?_⟩
                  · rcases List.mem_append.1 hx with h' | h'
                    · exact g4 x h'
                    · exact n4 x h'
                  · rw [List.length_append] at hi
                    rw [append_getD]
                    by_cases hi' : i < es.length
                    · have : i * ie.size + j < es.length * ie.size := by
                        have : (i + 1) * ie.size ≤ es.length * ie.size := Nat.mul_le_mul_right _ hi'
                        rw [Nat.succ_mul] at this
                        omega
                      have e1 : c'.getD (i * ie.size + j) undef = c.getD (i * ie.size + j) undef := by rw [q3, if_neg (by omega)]
                      rw [if_pos hi', e1]
                      exact (g7 i j hi' hj).mono hkp
                    · have hi2 : i - es.length < ys.length := by omega
                      have hlt : (i - es.length) * ie.size + j < news.length := by
                        rw [n1]
                        have : (i - es.length + 1) * ie.size ≤ ys.length * ie.size := Nat.mul_le_mul_right _ hi2
                        rw [Nat.succ_mul] at this
                        omega
                      have hidx : i * ie.size + j = es.length * ie.size + ((i - es.length) * ie.size + j) := by
                        rw [← Nat.add_assoc, ← Nat.add_mul, show es.length + (i - es.length) = i by omega]
                      have e1 : c'.getD (i * ie.size + j) undef = news.getD ((i - es.length) * ie.size + j) undef := by
                        rw [q3, if_pos (by omega), show i * ie.size + j - es.length * ie.size = (i - es.length) * ie.size + j by omega]
                      rw [if_neg hi', e1]
                      exact (n5 _ j hi2 hj).mono hkp
                · rw [if_neg hxb] at hx
                  simp only [St.del, hxb, if_false] at hx
                  exact (hs.obj x t hx).mono hkp (heap_setCells_other b news _ w x hxb) (by simp [frzAt, hxb])
              · rw [size_setCells] at hx
                have := hs.lt_size hb
                unfold frzAt
                rw [if_neg (by omega)]
                exact hs.lt x hx
            · have hr := hgen.2.2 hroom
              have hcap := grownCap_ge w (es.length + ys.length) cap e
              have hg := grown_holds (F := F) hdel (e := e) (z := ze) (cap := grownCap w (es.length + ys.length) cap e) frz k6 m1 n1 m4 n4 m5 n5 hcap
              obtain ⟨r1, r2⟩ := rel_alloc_frz hdel _ _ _ hg
              exact opOk_value (hgo _ _ (by rw [ex]; exact hr)) (hed.trans r2) r1 (.v _) (hk _ _ (fresh_none hdel (Nat.le_refl _)) hcap)
        · cases hb : σ b with
          | none => simp [hb] at h
          | some ob =>
            cases ob with
            | cells _ => simp [hb] at h
            | map _ => simp [hb] at h
            | loop _ _ _ _ _ _ _ => simp [hb] at h
            | rows q' es frz cap' =>
              cases frz with
              | true => simp [hb] at h
              | false =>
                simp only [hb] at h
                obtain ⟨rfl, hle, rfl, hroom, hbd, hk⟩ := h
                have ex := hv.eq
                obtain ⟨olds, m1, m2, m3, m4, m5⟩ := src_ok (P := P) hs (q := ie.size) (ys := es.take len) (byt := byt) (x := .v (.slice (some ⟨b, 0, none⟩) len cap)) (by simp [src, hb, hle]) (.v _)
                rw [List.length_take, Nat.min_eq_left hle] at m3
                have hgen := run_append_gen (P := P) (w := w) (ty := o.type) h2 b2 hd2 k1 k4 (some ⟨b, 0, none⟩) len cap (a.eval x) ys.length olds news n2 n3 m3 hbd hby
                obtain ⟨c, e', m, g1, g2, g3, g4, g5, g6, g7⟩ := hs.obj b _ hb
                have hfit : len * ie.size + news.length ≤ c.size := by
                  rw [n1, ← Nat.add_mul]
                  exact Nat.le_trans (Nat.mul_le_mul_right _ hroom) g2
                have hth : w.there b (0 + len * ie.size) news.length := fun j hj => by
                  have hlt : len * ie.size + j < c.size := by omega
                  rw [Nat.zero_add]
                  refine ⟨by simp [World.cell?, g1, hlt], ?_⟩
                  have := g5 (len * ie.size + j) hlt
                  simp only [World.frozen?, g1]
                  simpa using this
                have hr := hgen.2.1 b 0 hroom rfl hth hone
                rw [Nat.zero_add] at hr
                obtain ⟨c', q1, q2, q3⟩ := heap_setCells b e' m news (len * ie.size) w c g1
                have g6' : F b = 0 := g6
                obtain ⟨r1, r2⟩ := store_ext hs hb g6' (len * ie.size) news (.rows ie.size (es.take len ++ ys ++ es.drop (len + ys.length)) false cap) fun hkp => by
                  have hlen : (es.take len ++ ys ++ es.drop (len + ys.length)).length = len + ys.length + (es.length - (len + ys.length)) := by
                    simp [Nat.min_eq_left hle]
                    omega
                  refine ⟨c', e', m, q1, by rw [q2]; exact g2, by rw [hlen]; omega, fun x hx => ?_, by rw [q2]; exact g5, g6', fun i j hi hj => ?_⟩
                  · rcases List.mem_append.1 hx with h' | h'
                    · rcases List.mem_append.1 h' with h' | h'
                      · exact g4 x (List.mem_of_mem_take h')
                      · exact n4 x h'
                    · exact g4 x (List.mem_of_mem_drop h')
                  · rw [hlen] at hi
                    by_cases h1 : i < len
                    · have e1 : (es.take len ++ ys ++ es.drop (len + ys.length)).getD i [] = es.getD i [] := by
                        rw [List.append_assoc]
                        simp only [List.getD_eq_getElem?_getD]
                        rw [List.getElem?_append_left (by simp; omega), List.getElem?_take, if_pos h1]
                      have hlt : i * ie.size + j < len * ie.size := by
                        have : (i + 1) * ie.size ≤ len * ie.size := Nat.mul_le_mul_right _ h1
                        rw [Nat.succ_mul] at this
                        omega
                      have e2 : c'.getD (i * ie.size + j) undef = c.getD (i * ie.size + j) undef := by rw [q3, if_neg (by omega)]
                      rw [e1, e2]
                      exact (g7 i j (by omega) hj).mono hkp
                    · by_cases h2 : i < len + ys.length
                      · have e1 : (es.take len ++ ys ++ es.drop (len + ys.length)).getD i [] = ys.getD (i - len) [] := by
                          rw [List.append_assoc]
                          simp only [List.getD_eq_getElem?_getD]
                          rw [List.getElem?_append_right (by simp; omega), List.getElem?_append_left (by simp; omega)]
                          simp [Nat.min_eq_left hle]
                        have hlt : (i - len) * ie.size + j < news.length := by
                          rw [n1]
                          have : (i - len + 1) * ie.size ≤ ys.length * ie.size := Nat.mul_le_mul_right _ (by omega)
                          rw [Nat.succ_mul] at this
                          omega
                        have hidx : i * ie.size + j = len * ie.size + ((i - len) * ie.size + j) := by
                          rw [← Nat.add_assoc, ← Nat.add_mul, show len + (i - len) = i by omega]
                        have e2 : c'.getD (i * ie.size + j) undef = news.getD ((i - len) * ie.size + j) undef := by
                          rw [q3, if_pos (by omega), show i * ie.size + j - len * ie.size = (i - len) * ie.size + j by omega]
                        rw [e1, e2]
                        exact (n5 _ j (by omega) hj).mono hkp
                      · have e1 : (es.take len ++ ys ++ es.drop (len + ys.length)).getD i [] = es.getD i [] := by
                          simp only [List.getD_eq_getElem?_getD]
                          rw [List.getElem?_append_right (by simp; omega), List.getElem?_drop]
                          congr 2
                          simp [Nat.min_eq_left hle]
                          omega
                        have hge : len * ie.size + news.length ≤ i * ie.size := by
                          rw [n1, ← Nat.add_mul]
                          exact Nat.mul_le_mul_right _ (by omega)
                        have e2 : c'.getD (i * ie.size + j) undef = c.getD (i * ie.size + j) undef := by rw [q3, if_neg (by omega)]
                        rw [e1, e2]
                        exact (g7 i j (by omega) hj).mono hkp
                exact opOk_value (hgo _ _ (by rw [ex]; exact hr)) r2 r1 (.v _) hk
        · have ex := hv.eq
          have hdiv : pre.length * ie.size / ie.size = pre.length := Nat.mul_div_cancel _ hq
          obtain ⟨olds, m1, m2, m3, m4, m5⟩ := src_ok (P := P) hs (q := ie.size) (ys := es) (byt := byt) (x := .v (.slice (some ⟨b, pre.length * ie.size, none⟩) es.length cap)) (by simp [src, hb, hdiv]) (.v _)
          have hgen := run_append_gen (P := P) (w := w) (ty := o.type) h2 b2 hd2 k1 k4 (some ⟨b, pre.length * ie.size, none⟩) es.length cap (a.eval x) ys.length olds news n2 n3 m3 hbd hby
          by_cases hroom : es.length + ys.length ≤ cap
          · obtain ⟨c, e', m, g1, g2, g3, g4, g5, g6, g7⟩ := hs.obj b _ hb
            have hoff : pre.length * ie.size + es.length * ie.size = (pre ++ es).length * ie.size := by rw [List.length_append, Nat.add_mul]
            have hfit : (pre ++ es).length * ie.size + news.length ≤ c.size := by
              rw [n1, ← Nat.add_mul]
              exact Nat.le_trans (Nat.mul_le_mul_right _ (by rw [List.length_append]; omega)) g2
            have hth : w.there b (pre.length * ie.size + es.length * ie.size) news.length := fun j hj => by
              rw [hoff]
              have hlt : (pre ++ es).length * ie.size + j < c.size := by omega
              have hlt' := hlt
              rw [List.length_append] at hlt'
              refine ⟨by simp only [World.cell?, g1]; simp [hlt'], ?_⟩
              have := g5 ((pre ++ es).length * ie.size + j) hlt
              simp only [World.frozen?, g1]
              simpa using this
            have hr := hgen.2.1 b _ hroom rfl hth hone
            rw [hoff] at hr
            obtain ⟨c', q1, q2, q3⟩ := heap_setCells b e' m news ((pre ++ es).length * ie.size) w c g1
            have g6' : F b = 0 := g6
            obtain ⟨r1, r2⟩ := store_ext hs hb g6' ((pre ++ es).length * ie.size) news (.rows ie.size (pre ++ es ++ ys) false cap') fun hkp => by
              generalize hE : pre ++ es = E at *
              have hEl : E.length = pre.length + es.length := by rw [← hE, List.length_append]
              refine ⟨c', e', m, q1, by rw [q2]; exact g2, by rw [List.length_append]; omega, fun x hx => ?_, by rw [q2]; exact g5, g6', fun i j hi hj => ?_⟩
              · rcases List.mem_append.1 hx with h' | h'
                · exact g4 x h'
                · exact n4 x h'
              · rw [List.length_append] at hi
                rw [append_getD]
                by_cases hi' : i < E.length
                · have : i * ie.size + j < E.length * ie.size := by
                    have : (i + 1) * ie.size ≤ E.length * ie.size := Nat.mul_le_mul_right _ hi'
                    rw [Nat.succ_mul] at this
                    omega
                  have e1 : c'.getD (i * ie.size + j) undef = c.getD (i * ie.size + j) undef := by rw [q3, if_neg (by omega)]
                  rw [if_pos hi', e1]
                  exact (g7 i j hi' hj).mono hkp
                · have hi2 : i - E.length < ys.length := by omega
                  have hlt : (i - E.length) * ie.size + j < news.length := by
                    rw [n1]
                    have : (i - E.length + 1) * ie.size ≤ ys.length * ie.size := Nat.mul_le_mul_right _ hi2
                    rw [Nat.succ_mul] at this
                    omega
                  have hidx : i * ie.size + j = E.length * ie.size + ((i - E.length) * ie.size + j) := by
                    rw [← Nat.add_assoc, ← Nat.add_mul, show E.length + (i - E.length) = i by omega]
                  have e1 : c'.getD (i * ie.size + j) undef = news.getD ((i - E.length) * ie.size + j) undef := by
                    rw [q3, if_pos (by omega), show i * ie.size + j - E.length * ie.size = (i - E.length) * ie.size + j by omega]
                  rw [if_neg hi', e1]
                  exact (n5 _ j hi2 hj).mono hkp
            have hk' := hk b pre cap' (by simp [St.del]) (by omega)
            have e2 : cap' - pre.length = cap := by omega
            have e3 : (σ.del b).set b (.rows ie.size (pre ++ es ++ ys) false cap') = σ.set b (.rows ie.size (pre ++ es ++ ys) false cap') := by
              funext x
              simp only [St.set, St.del]
              split <;> rfl
            rw [e2, e3] at hk'
            exact opOk_value (hgo _ _ (by rw [ex]; exact hr)) r2 r1 (.v _) hk'
          · have hr := hgen.2.2 hroom
            have hcap := grownCap_ge w (es.length + ys.length) cap e
            have hdel := hs.del b
            have hed := Ext.del F w σ b
            have hg := grown_holds (F := F) hdel (e := e) (z := ze) (cap := grownCap w (es.length + ys.length) cap e) false k6 m1 n1 m4 n4 m5 n5 hcap
            obtain ⟨r1, r2⟩ := rel_alloc_frz hdel _ _ _ hg
            have hk' := hk _ [] _ (fresh_none hdel (Nat.le_refl _)) (by simpa using hcap)
            simp only [List.length_nil, Nat.zero_mul, Nat.sub_zero, List.nil_append] at hk'
            exact opOk_value (hgo _ _ (by rw [ex]; exact hr)) (hed.trans r2) r1 (.v _) hk'
      · exact h.elim
    | _ => simp [htd] at h
end
end Go.Av

/-
  The program logic, part 10: maps; least and greatest of two; interfaces that hold exact values.
  Conditions: keys are numbers, texts or yes-or-no. None beyond (a library of definitions and lemmas over any program).
-/
namespace Go.Av
open Go Go.RowKit Go.MapKept

/-- Is it a key of this kind? -/
def keyOk : TD → Value → Bool
  | .int k, .int k' _ => decide (k = k')
  | .str, .string _ => true
  | .bool, .bool _ => true
  | _, _ => false
def keyEq : Value → Value → Bool
  | .int _ a, .int _ b => decide (a = b)
  | .string a, .string b => decide (a = b)
  | .bool a, .bool b => a == b
  | _, _ => false
/-- What stands under a key. -/
def mFind (x : Value) : List (Value × AV) → Option AV
  | [] => none
  | (y, u) :: l => if keyEq x y then some u else mFind x l
def mPut (x : Value) (v : AV) : List (Value × AV) → List (Value × AV)
  | [] => [(x, v)]
  | (y, u) :: l => if keyEq x y then (x, v) :: l else (y, u) :: mPut x v l
def mDel (x : Value) : List (Value × AV) → List (Value × AV)
  | [] => []
  | (y, u) :: l => if keyEq x y then l else (y, u) :: mDel x l

section
variable {P : Program} {o : Oper} {n : Nat} {fr : Fr} {a : Act} {F : Froz} {w : World} {σ : St} {k : AV → St → Prop}

theorem td_map {d : TypeDesc} {ke e : TypeId} (h : tdOf P d = .map ke e) : d = .map ke e := by
  cases d with
  | array n e => simp only [tdOf] at h; (repeat' split at h) <;> cases h
  | struct e => simp only [tdOf] at h; (repeat' split at h) <;> cases h
  | slice e => simp only [tdOf] at h; (repeat' split at h) <;> cases h
  | map a b => simp [tdOf] at h; rw [h.1, h.2]
  | _ => simp [tdOf] at h
theorem td_bool {d : TypeDesc} (h : tdOf P d = .bool) : d = .bool := by
  cases d with
  | array n e => simp only [tdOf] at h; (repeat' split at h) <;> cases h
  | struct e => simp only [tdOf] at h; (repeat' split at h) <;> cases h
  | slice e => simp only [tdOf] at h; (repeat' split at h) <;> cases h
  | bool => rfl
  | _ => simp [tdOf] at h
theorem isKey_of {d : TypeDesc} {x : Value} (h : keyOk (tdOf P d) x = true) : IsKey d x := by
  generalize hd : tdOf P d = td at h
  cases td <;> cases x <;> simp only [keyOk] at h <;> try (cases h; done)
  · rename_i k k' _
    have := td_int (P := P) hd
    subst this
    simpa [IsKey, eq_comm] using h
  · have := td_bool (P := P) hd
    subst this
    simp [IsKey]
  · have := td_str (P := P) hd
    subst this
    simp [IsKey]
theorem sameNow_of {d : TypeDesc} {x y : Value} (hx : IsKey d x) (hy : IsKey d y) : Instr.sameNow d x y = some (keyEq x y) := by
  obtain ⟨r, h1, h2⟩ := sameNow_of_keys hx hy
  rw [h1]
  congr 1
  have : keyEq x y = true ↔ x = y := by
    cases d <;> cases x <;> cases y <;> simp_all [IsKey, keyEq]
  cases r with
  | true => exact (this.2 (h2.1 rfl)).symm
  | false =>
    cases hq : keyEq x y with
    | false => rfl
    | true => exact absurd (h2.2 (this.1 hq)) (by simp)
theorem keyEq_eq {d : TypeDesc} {x y : Value} (hx : IsKey d x) (hy : IsKey d y) (h : keyEq x y = true) : x = y := by
  cases d <;> cases x <;> cases y <;> simp_all [IsKey, keyEq]

/-- What the machine finds; what becomes of the entries. -/
theorem find_ok {d : TypeDesc} {x : Value} (hx : IsKey d x) : ∀ (kv : List (Value × AV)) (es : List MapEntry) (i : Nat), KVs F w kv es → (∀ p ∈ kv, IsKey d p.1) →
    (mFind x kv = none ∧ Instr.findNow d x es i = some none ∧ (∀ F' w', KVs F' w' kv es → KVs F' w' (mDel x kv) es) ∧ ∀ F' w' v e, KVs F' w' kv es → e.key = x → RV F' w' v e.val → KVs F' w' (mPut x v kv) (es ++ [e])) ∨
    (∃ j u e, mFind x kv = some u ∧ Instr.findNow d x es i = some (some (i + j, e.val)) ∧ RV F w u e.val ∧ es[j]? = some e ∧ e.key = x ∧ (∀ F' w', KVs F' w' kv es → KVs F' w' (mDel x kv) (es.eraseIdx j)) ∧
      ∀ F' w' v val, KVs F' w' kv es → RV F' w' v val → KVs F' w' (mPut x v kv) (es.modify j fun e => { e with key := x, val := val }))
  | [], [], i, h, hk => .inl ⟨rfl, rfl, fun _ _ h => h, fun F' w' v e _ he hv => ⟨he, hv, trivial⟩⟩
  | (y, u) :: l, e :: es, i, h, hk => by
    have hy := hk (y, u) (by simp)
    have hs := sameNow_of hx hy
    rw [← h.1] at hs
    simp only [h.1] at hs
    cases hq : keyEq x y with
    | true =>
      refine .inr ⟨0, u, e, by simp [mFind, hq], by simp [Instr.findNow, h.1, hs, hq], h.2.1, rfl, by rw [h.1]; exact (keyEq_eq hx hy hq).symm, fun F' w' h' => ?_, fun F' w' v val h' hv => ?_⟩
      · simp only [mDel, hq, if_true, List.eraseIdx_cons_zero]
        exact h'.2.2
      · simp only [mPut, hq, if_true, List.modify_zero_cons]
        exact ⟨rfl, hv, h'.2.2⟩
    | false =>
      rcases find_ok hx l es (i + 1) h.2.2 (fun p hp => hk p (by simp [hp])) with ⟨h1, h2, h3, h4⟩ | ⟨j, u', e', h1, h2, h3, h4, h5, h6, h7⟩
      · refine .inl ⟨by simp [mFind, hq, h1], by simp [Instr.findNow, h.1, hs, hq, h2], fun F' w' h' => ?_, fun F' w' v e' h' he hv => ?_⟩
        · simp only [mDel, hq]
          exact ⟨h'.1, h'.2.1, h3 _ _ h'.2.2⟩
        · simp only [mPut, hq]
          exact ⟨h'.1, h'.2.1, h4 _ _ _ _ h'.2.2 he hv⟩
      · refine .inr ⟨j + 1, u', e', by simp [mFind, hq, h1], by simp [Instr.findNow, h.1, hs, hq, h2]; omega, h3, by simpa using h4, h5, fun F' w' h' => ?_, fun F' w' v val h' hv => ?_⟩
        · simp only [mDel, hq, List.eraseIdx_cons_succ]
          exact ⟨h'.1, h'.2.1, h6 _ _ h'.2.2⟩
        · simp only [mPut, hq, List.modify_succ_cons]
          exact ⟨h'.1, h'.2.1, h7 _ _ _ _ h'.2.2 hv⟩
  | [], _ :: _, _, h, _ => h.elim
  | _ :: _, [], _, h, _ => h.elim

/-- A tracked block that is no row is laid anew. -/
theorem set_ext (hs : Rel F w σ) {b : Nat} {t : AObj} (hb : σ b = some t) (hF : F b = 0) (ob : Obj) (t' : AObj) (ht : Keeps F w F { w with heap := w.heap.setIfInBounds b ob } → Holds F { w with heap := w.heap.setIfInBounds b ob } b t') :
    Rel F { w with heap := w.heap.setIfInBounds b ob } (σ.set b t') ∧ Ext F w σ F { w with heap := w.heap.setIfInBounds b ob } (σ.set b t') := by
  have hlt := hs.lt_size hb
  have hoth : ∀ x, x ≠ b → (w.heap.setIfInBounds b ob)[x]? = w.heap[x]? := fun x hx => by simp [Ne.symm hx]
  have hkp : Keeps F w F { w with heap := w.heap.setIfInBounds b ob } := ⟨fun _ => Nat.le_refl _, fun x off ho => by
    have hne : x ≠ b := fun e => by subst e; omega
    exact World.cell?_of_block (w := w) (hoth x hne)⟩
  refine ⟨⟨fun x y hx => ?_, fun x hx => hs.lt x (by simpa using hx)⟩, ⟨hkp, rfl, rfl, rfl, by simp, fun x hx hn => ?_⟩⟩
  · simp only [St.set] at hx
    by_cases hxb : x = b
    · rw [if_pos hxb] at hx
      injection hx with hx
      subst hx
      subst hxb
      exact ht hkp
    · rw [if_neg hxb] at hx
      exact (hs.obj x y hx).mono hkp (hoth x hxb) rfl
  · have hne : x ≠ b := fun e => by subst e; simp [hb] at hn
    exact ⟨hoth x hne, by simp [St.set, hne, hn], rfl⟩

/-! ### makeMap, lookup, update, delete -/
def aMkMap (σ : St) (k : AV → St → Prop) : Prop := ∀ b, σ b = none → k (.v (.map (some b))) (σ.set b (.map []))
def aLook (P : Program) (i : Option TK) (σ : St) (m x : AV) (ok : Bool) (k : AV → Prop) : Prop :=
  match i with
  | some i => match i.td with
    | .map kt et => match tk P kt, tk P et, m, x with
      | some kk, some ke, .v (.map none), .v x => keyOk kk.td x = true ∧ k (if ok then .tup [ke.zav, .v (.bool false)] else ke.zav)
      | some kk, some ke, .v (.map (some b)), .v x => match σ b with
        | some (.map kv) => keyOk kk.td x = true ∧ (∀ p ∈ kv, keyOk kk.td p.1 = true) ∧ match mFind x kv with
          | some u => k (if ok then .tup [u, .v (.bool true)] else u)
          | none => k (if ok then .tup [ke.zav, .v (.bool false)] else ke.zav)
        | _ => False
      | _, _, _, _ => False
    | _ => False
  | none => False
def aMapPut (P : Program) (i : Option TK) (σ : St) (m x v : AV) (k : St → Prop) : Prop :=
  match i with
  | some i => match i.td with
    | .map kt et => match tk P kt, m, x with
      | some kk, .v (.map (some b)), .v x => match σ b with
        | some (.map kv) => keyOk kk.td x = true ∧ (∀ p ∈ kv, keyOk kk.td p.1 = true) ∧ k (σ.set b (.map (mPut x v kv)))
        | _ => False
      | _, _, _ => False
    | _ => False
  | none => False
def aMapDel (P : Program) (i : Option TK) (σ : St) (m x : AV) (k : AV → St → Prop) : Prop :=
  match i with
  | some i => match i.td with
    | .map kt et => match tk P kt, m, x with
      | some kk, .v (.map (some b)), .v x => match σ b with
        | some (.map kv) => keyOk kk.td x = true ∧ (∀ p ∈ kv, keyOk kk.td p.1 = true) ∧ k (.tup []) (σ.set b (.map (mDel x kv)))
        | _ => False
      | _, _, _ => False
    | _ => False
  | none => False

theorem rv_tup2 {u v : AV} {x y : Value} (h1 : RV F w u x) (h2 : RV F w v y) : RV F w (.tup [u, v]) (.tuple #[x, y]) :=
  .tup _ _ rfl fun j hj => by
    match j, hj with
    | 0, _ => exact h1
    | 1, _ => exact h2

theorem sound_mkmap {t : TypeId} (ho : o.op = .makeMap t none) (hs : Rel F w σ) (h : aMkMap σ k) : OpOk P o a F w σ k := by
  obtain ⟨r1, r2⟩ := rel_alloc hs (.map #[] 0) (.map []) ⟨#[], 0, heap_alloc_new w _, hs.lt _ (Nat.le_refl _), trivial⟩
  exact opOk_value (x := .map (some w.heap.size)) (by simp only [execOp, ho, Option.map_none, Sem.run_bind]; rfl) r2 r1 (.v _) (h _ (fresh_none hs (Nat.le_refl _)))

theorem sound_look {t : TypeId} {m x : Operand} {ok : Bool} {k : AV → Prop} (ho : o.op = .lookup t m x ok) (hm : opdIn n m = true) (hx : opdIn n x = true) (hf : FrRel F w n fr a) (hs : Rel F w σ) (h : aLook P (tk P t) σ (fr.ev m) (fr.ev x) ok k) : Quiet P o a F w k := by
  cases ht : tk P t with
  | none => simp [ht, aLook] at h
  | some i =>
    obtain ⟨inf, d, z, h1, h2, h3, h4, h5, h6, h7, h8⟩ := tk_info ht
    simp only [ht, aLook] at h
    have hmv := hf.ev m hm
    have hxv := hf.ev x hx
    revert h hmv hxv
    generalize fr.ev m = mm
    generalize fr.ev x = xx
    intro h hmv hxv
    split at h
    · rename_i kt et htd
      obtain rfl := td_map (P := P) (d := d) (by rw [← h7, htd])
      split at h
      · rename_i kk ke x' hkk hke
        obtain ⟨_, d1, _, g1, g2, g3, g4, g5, g6, g7, g8⟩ := tk_info hkk
        obtain ⟨_, z', q1, q2, q3⟩ := tk_zero hke F w
        have hkey : IsKey d1 x' := isKey_of (P := P) (by rw [← g7]; exact h.1)
        have hz := run_zero' (P := P) q1 q2 w
        refine ⟨if ok then .tuple #[z', .bool false] else z', _, ?_, ?_, h.2⟩
        · simp only [execOp, ho, hmv.eq, hxv.eq, Instr.lookup, Sem.run_bind, run_underlying h2, Result.andThen_ok, Sem.run_pure, run_checkKey g2 hkey, Array.toList_empty, run_findKey (l := []) (a := none) g2 rfl, hz]
        · cases ok
          · exact q3
          · exact rv_tup2 q3 (.v _)
      · rename_i kk ke b x' hkk hke
        obtain ⟨_, d1, _, g1, g2, g3, g4, g5, g6, g7, g8⟩ := tk_info hkk
        obtain ⟨_, z', q1, q2, q3⟩ := tk_zero hke F w
        split at h
        · rename_i kv hb
          obtain ⟨es, clk, r1, r2, r3⟩ := hs.obj b _ hb
          have hkey : IsKey d1 x' := isKey_of (P := P) (by rw [← g7]; exact h.1)
          have hkeys : ∀ p ∈ kv, IsKey d1 p.1 := fun p hp => isKey_of (P := P) (by rw [← g7]; exact h.2.1 p hp)
          have hz := run_zero' (P := P) q1 q2 w
          rcases find_ok hkey kv es.toList 0 r3 hkeys with ⟨f1, f2, _⟩ | ⟨j, u, e, f1, f2, f3, _⟩
          · rw [f1] at h
            refine ⟨if ok then .tuple #[z', .bool false] else z', _, ?_, ?_, h.2.2⟩
            · simp only [execOp, ho, hmv.eq, hxv.eq, Instr.lookup, Sem.run_bind, run_underlying h2, Result.andThen_ok, Sem.run_pure, Go.MapKept.run_getObj_map r1, run_checkKey g2 hkey, run_findKey g2 f2, hz]
            · cases ok
              · exact q3
              · exact rv_tup2 q3 (.v _)
          · rw [f1] at h
            refine ⟨if ok then .tuple #[e.val, .bool true] else e.val, _, ?_, ?_, h.2.2⟩
            · simp only [execOp, ho, hmv.eq, hxv.eq, Instr.lookup, Sem.run_bind, run_underlying h2, Result.andThen_ok, Sem.run_pure, Go.MapKept.run_getObj_map r1, run_checkKey g2 hkey, run_findKey g2 f2]
            · cases ok
              · exact f3
              · exact rv_tup2 f3 (.v _)
        · exact h.elim
      · exact h.elim
    · exact h.elim

theorem sound_mapput {t : TypeId} {m x y : Operand} {k : St → Prop} (ho : o.op = .mapUpdate t m x y) (hm : opdIn n m = true) (hx : opdIn n x = true) (hy : opdIn n y = true) (hf : FrRel F w n fr a) (hs : Rel F w σ) (h : aMapPut P (tk P t) σ (fr.ev m) (fr.ev x) (fr.ev y) k) : OpOk P o a F w σ fun v σ' => v = .v undef ∧ k σ' := by
  cases ht : tk P t with
  | none => simp [ht, aMapPut] at h
  | some i =>
    obtain ⟨inf, d, z, h1, h2, h3, h4, h5, h6, h7, h8⟩ := tk_info ht
    simp only [ht, aMapPut] at h
    have hmv := hf.ev m hm
    have hxv := hf.ev x hx
    have hyv := hf.ev y hy
    revert h hmv hxv hyv
    generalize fr.ev m = mm
    generalize fr.ev x = xx
    generalize fr.ev y = yy
    intro h hmv hxv hyv
    split at h
    · rename_i kt et htd
      obtain rfl := td_map (P := P) (d := d) (by rw [← h7, htd])
      split at h
      · rename_i kk b x' hkk
        obtain ⟨_, d1, _, g1, g2, g3, g4, g5, g6, g7, g8⟩ := tk_info hkk
        split at h
        · rename_i kv hb
          obtain ⟨es, clk, r1, r2, r3⟩ := hs.obj b _ hb
          have hkey : IsKey d1 x' := isKey_of (P := P) (by rw [← g7]; exact h.1)
          have hkeys : ∀ p ∈ kv, IsKey d1 p.1 := fun p hp => isKey_of (P := P) (by rw [← g7]; exact h.2.1 p hp)
          have hlt := hs.lt_size hb
          have hnew : ∀ ob, ({ w with heap := w.heap.setIfInBounds b ob } : World).heap[b]? = some ob := fun ob => by simp [hlt]
          rcases find_ok hkey kv es.toList 0 r3 hkeys with ⟨f1, f2, f3, f4⟩ | ⟨j, u, e, f1, f2, f3, f4, f5, f6, f7⟩
          · obtain ⟨e1, e2⟩ := set_ext hs hb r2 (.map (es.push { key := x', val := a.eval y, born := clk }) (clk + 1)) (.map (mPut x' yy kv)) fun hkp => ⟨_, _, hnew _, r2, by
              rw [Array.toList_push]
              exact f4 _ _ _ _ (r3.mono hkp) rfl (hyv.mono hkp)⟩
            refine opOk_skip ?_ e2 e1 ⟨rfl, h.2.2⟩
            simp only [execOp, ho, hmv.eq, hxv.eq, Instr.mapUpdate, Sem.run_bind, run_underlying h2, Result.andThen_ok, Sem.run_pure, Go.MapKept.run_getObj_map r1, run_checkKey g2 hkey, run_findKey g2 f2, Go.MapKept.run_setObj_map _ r1]
          · obtain ⟨e1, e2⟩ := set_ext hs hb r2 (.map (es.modify j fun e => { e with key := x', val := a.eval y }) clk) (.map (mPut x' yy kv)) fun hkp => ⟨_, _, hnew _, r2, by
              rw [Array.toList_modify]
              exact f7 _ _ _ _ (r3.mono hkp) (hyv.mono hkp)⟩
            refine opOk_skip ?_ e2 e1 ⟨rfl, h.2.2⟩
            have hold : ((es[j]?).map (·.key)).getD x' = x' := by
              rw [Array.getElem?_toList] at f4
              rw [f4]
              exact f5
            have hst := run_keyThatStays (P := P) (w := w) hkey
            simp only [execOp, ho, hmv.eq, hxv.eq, Instr.mapUpdate, Sem.run_bind, run_underlying h2, Result.andThen_ok, Sem.run_pure, Go.MapKept.run_getObj_map r1, run_checkKey g2 hkey, run_findKey g2 f2, Nat.zero_add, hold, hst, Go.MapKept.run_setObj_map _ r1]
        · exact h.elim
      · exact h.elim
    · exact h.elim

theorem sound_mapdel {t : TypeId} {ts : Array TypeId} {m x : Operand} {t2 : TypeId} (ho : o.op = .call { callee := .builtin .delete, args := #[m, x], argTypes := #[t, t2] }) (hm : opdIn n m = true) (hx : opdIn n x = true) (hf : FrRel F w n fr a) (hs : Rel F w σ) (h : aMapDel P (tk P t) σ (fr.ev m) (fr.ev x) k) : OpOk P o a F w σ k := by
  cases ht : tk P t with
  | none => simp [ht, aMapDel] at h
  | some i =>
    obtain ⟨inf, d, z, h1, h2, h3, h4, h5, h6, h7, h8⟩ := tk_info ht
    simp only [ht, aMapDel] at h
    have hmv := hf.ev m hm
    have hxv := hf.ev x hx
    revert h hmv hxv
    generalize fr.ev m = mm
    generalize fr.ev x = xx
    intro h hmv hxv
    split at h
    · rename_i kt et htd
      obtain rfl := td_map (P := P) (d := d) (by rw [← h7, htd])
      split at h
      · rename_i kk b x' hkk
        obtain ⟨_, d1, _, g1, g2, g3, g4, g5, g6, g7, g8⟩ := tk_info hkk
        split at h
        · rename_i kv hb
          obtain ⟨es, clk, r1, r2, r3⟩ := hs.obj b _ hb
          have hkey : IsKey d1 x' := isKey_of (P := P) (by rw [← g7]; exact h.1)
          have hkeys : ∀ p ∈ kv, IsKey d1 p.1 := fun p hp => isKey_of (P := P) (by rw [← g7]; exact h.2.1 p hp)
          have hlt := hs.lt_size hb
          have hnew : ∀ ob, ({ w with heap := w.heap.setIfInBounds b ob } : World).heap[b]? = some ob := fun ob => by simp [hlt]
          have hgo : ∀ y w', (Builtin.delete_ #[t, t2] o.type #[a.eval m, a.eval x]).run P w = .ok y w' → (execOp a.eval o).run P w = .ok (.value y) w' := fun y w' hy => by
            simp [execOp, ho, resolve, invoke, builtin, hy]
          have hem : RV F { w with heap := w.heap.setIfInBounds b (.map es clk) } (.tup []) (.tuple #[]) := .tup _ _ rfl fun j hj => by simp at hj
          rcases find_ok hkey kv es.toList 0 r3 hkeys with ⟨f1, f2, f3, f4⟩ | ⟨j, u, e, f1, f2, f3, f4, f5, f6, f7⟩
          · obtain ⟨e1, e2⟩ := set_ext hs hb r2 (.map es clk) (.map (mDel x' kv)) fun hkp => ⟨_, _, hnew _, r2, f3 _ _ (r3.mono hkp)⟩
            refine opOk_value (hgo _ _ ?_) e2 e1 hem h.2.2
            simp only [hmv.eq, hxv.eq, Builtin.delete_, Sem.run_bind, run_underlying h2, Result.andThen_ok, Sem.run_pure, Go.MapKept.run_getObj_map r1, run_checkKey g2 hkey, run_findKey g2 f2, Go.MapKept.run_setObj_map _ r1, List.getElem?_toArray, List.getElem?_cons_zero, List.getElem?_cons_succ]
          · obtain ⟨e1, e2⟩ := set_ext hs hb r2 (.map (es.eraseIdxIfInBounds j) clk) (.map (mDel x' kv)) fun hkp => ⟨_, _, hnew _, r2, by
              have : (es.eraseIdxIfInBounds j).toList = es.toList.eraseIdx j := by
                unfold Array.eraseIdxIfInBounds
                split
                · simp
                · rename_i hj
                  rw [List.eraseIdx_of_length_le (by simpa using hj)]
              rw [this]
              exact f6 _ _ (r3.mono hkp)⟩
            refine opOk_value (x := .tuple #[]) (hgo _ _ ?_) e2 e1 (.tup _ _ rfl fun j hj => by simp at hj) h.2.2
            simp only [hmv.eq, hxv.eq, Builtin.delete_, Sem.run_bind, run_underlying h2, Result.andThen_ok, Sem.run_pure, Go.MapKept.run_getObj_map r1, run_checkKey g2 hkey, run_findKey g2 f2, Go.MapKept.run_setObj_map _ r1, Nat.zero_add, List.getElem?_toArray, List.getElem?_cons_zero, List.getElem?_cons_succ]
        · exact h.elim
      · exact h.elim
    · exact h.elim
end
end Go.Av

/-
  The program logic, part 11: the operations that came later, in one: maps, least and greatest of two, interfaces that hold exact values; what they look at, that they hand more on.
  Conditions: none (a library of definitions and lemmas over any program).
-/
namespace Go.Av
open Go Go.RowKit

def aMin (x y : AV) (k : AV → Prop) : Prop :=
  match x, y with
  | .v (.int i a), .v (.int _ b) => k (.v (.int i (min a b)))
  | _, _ => False
def aMax (x y : AV) (k : AV → Prop) : Prop :=
  match x, y with
  | .v (.int i a), .v (.int _ b) => k (.v (.int i (max a b)))
  | _, _ => False
/-- The type is no interface. -/
def isConc (P : Program) (t : TypeId) : Bool :=
  match P.underlying t with
  | some (.interface _) => false
  | some _ => true
  | none => false
def aMkI (P : Program) (t : TypeId) (x : AV) (k : AV → Prop) : Prop :=
  isConc P t = true ∧ match x with
  | .v y => k (.v (.iface t y))
  | _ => False
def aTyA (P : Program) (u : TypeId) (x : AV) (k : AV → Prop) : Prop :=
  isConc P u = true ∧ match x with
  | .v (.iface t y) => t = u ∧ k (.v y)
  | _ => False
/-- A part of a row is cleared. -/
def aClear (i : Option TK) (σ : St) (x : AV) (k : AV → St → Prop) : Prop :=
  match i with
  | none => False
  | some i => match i.td with
    | .sl q _ ez _ => match x with
      | .v (.slice none _ _) => k (.tup []) σ
      | .v (.slice (some ⟨b, p, none⟩) n _) => if n = 0 then k (.tup []) σ else match σ b with
        | some (.rows q' es false cap) => q' = q ∧ 0 < q ∧ p % q = 0 ∧ p / q + n ≤ es.length ∧ ez.all Value.oneCell' = true ∧ k (.tup []) (σ.set b (.rows q (es.take (p / q) ++ List.replicate n (ez.map .v) ++ es.drop (p / q + n)) false cap))
        | _ => False
      | _ => False
    | _ => False
/-- A builtin. -/
def aBI (P : Program) (b : Builtin) (args : List AV) (ts : List TypeId) (σ : St) (k : AV → St → Prop) : Prop :=
  match b with
  | .delete => match args, ts with
    | [m, x], [t, _] => aMapDel P (tk P t) σ m x k
    | _, _ => False
  | .min => match args with
    | [x, y] => aMin x y fun v => k v σ
    | _ => False
  | .max => match args with
    | [x, y] => aMax x y fun v => k v σ
    | _ => False
  | .clear => match args, ts with
    | [x], [t] => aClear (tk P t) σ x k
    | _, _ => False
  | _ => False
/-- A new row of zeros. -/
def aMkSl (i : Option TK) (σ : St) (l c : AV) (k : AV → St → Prop) : Prop :=
  match i with
  | some i => match i.td with
    | .sl q eby ez _ => match l, c with
      | .v (.int _ l), .v (.int _ c) => 0 < q ∧ 0 < eby ∧ ez.all Value.oneCell' = true ∧ 0 ≤ l ∧ l ≤ c ∧ (eby : Int) * c ≤ 281474976710656 ∧
        ∀ b, σ b = none → k (.v (.slice (some ⟨b, 0, none⟩) l.toNat c.toNat)) (σ.set b (.rows q (List.replicate l.toNat (ez.map .v)) false c.toNat))
      | _, _ => False
    | _ => False
  | none => False
/-- A function that will be called at the end, and does nothing then. -/
def aDefer (P : Program) (c : Call) (fr : Fr) (σ : St) (k : AV → St → Prop) : Prop :=
  match c.callee, c.args.toList with
  | .value (.tmp t), [] => match fr t with
    | .v (.func (.func f) first captured) => (∃ fn, P.funcs[f]? = some fn ∧ fn.body.isSome = true ∧ fn.name ≠ "runtime.NumGoroutine") ∧ IdleF P f (first ++ captured) ∧ k (.v undef) σ
    | _ => False
  | _, _ => False
def aMore (P : Program) (o : Op) (fr : Fr) (σ : St) (k : AV → St → Prop) : Prop :=
  match o with
  | .makeSlice t l c => aMkSl (tk P t) σ (fr.ev l) (fr.ev c) k
  | .defer c => aDefer P c fr σ k
  | .makeMap _ none => aMkMap σ k
  | .lookup t m x ok => aLook P (tk P t) σ (fr.ev m) (fr.ev x) ok fun v => k v σ
  | .mapUpdate t m x y => aMapPut P (tk P t) σ (fr.ev m) (fr.ev x) (fr.ev y) fun σ' => k (.v undef) σ'
  | .makeInterface t x => aMkI P t (fr.ev x) fun v => k v σ
  | .typeAssert x _ u false => aTyA P u (fr.ev x) fun v => k v σ
  | _ => False

section
variable {P : Program} {o : Oper} {n : Nat} {fr : Fr} {a : Act} {F : Froz} {w : World} {σ : St} {k : AV → St → Prop}

theorem OpOk.mono {k' : AV → St → Prop} (h : OpOk P o a F w σ k) (hk : ∀ v σ', k v σ' → k' v σ') : OpOk P o a F w σ k' :=
  fun ro next Q hd hn => h ro next Q hd fun F' w' x v σ' ds h1 h2 h3 h4 h5 => hn F' w' x v σ' ds h1 h2 h3 (hk v σ' h4) h5

theorem quiet_ok {k1 : AV → Prop} (h : Quiet P o a F w k1) (hs : Rel F w σ) (hk : ∀ v, k1 v → k v σ) : OpOk P o a F w σ k :=
  (h.ok hs).mono fun v σ' ⟨e, h⟩ => by subst e; exact hk v h

theorem conc_of {t : TypeId} (h : isConc P t = true) : ∃ d, P.underlying t = some d ∧ ∀ ms, d ≠ .interface ms := by
  unfold isConc at h
  split at h
  · cases h
  · rename_i d hne hd
    exact ⟨_, hd, fun ms e => hne ms e⟩
  · cases h

theorem splice_rows {q : Nat} {es ys : List (List AV)} {m i : Nat} : (es.take m ++ ys ++ es.drop (m + ys.length)).getD i [] = if i < m ∧ m ≤ es.length then es.getD i [] else if m ≤ es.length ∧ i < m + ys.length then ys.getD (i - m) [] else (es.take m ++ ys ++ es.drop (m + ys.length)).getD i [] := by
  by_cases hm : m ≤ es.length
  · by_cases h1 : i < m
    · rw [if_pos ⟨h1, hm⟩, List.append_assoc]
      simp only [List.getD_eq_getElem?_getD]
      rw [List.getElem?_append_left (by simp; omega), List.getElem?_take, if_pos h1]
    · rw [if_neg (by omega)]
      by_cases h2 : i < m + ys.length
      · rw [if_pos ⟨hm, h2⟩, List.append_assoc]
        simp only [List.getD_eq_getElem?_getD]
        rw [List.getElem?_append_right (by simp; omega), List.getElem?_append_left (by simp; omega)]
        simp [Nat.min_eq_left hm]
      · rw [if_neg (by omega)]
  · rw [if_neg (by omega), if_neg (by omega)]
/-- A row's elements from m on are laid anew. -/
theorem rows_set (hs : Rel F w σ) {b q m : Nat} {es ys : List (List AV)} {cap : Nat} {news : List Value} (hb : σ b = some (.rows q es false cap)) (hm : m + ys.length ≤ es.length) (hq : 0 < q) (n1 : news.length = ys.length * q) (n4 : ∀ e ∈ ys, e.length = q ∧ e.all AV.one = true)
    (n5 : ∀ i j, i < ys.length → j < q → RV F w ((ys.getD i []).getD j (.v undef)) (news.getD (i * q + j) undef)) :
    Rel F (w.setCells b (m * q) news) (σ.set b (.rows q (es.take m ++ ys ++ es.drop (m + ys.length)) false cap)) ∧ Ext F w σ F (w.setCells b (m * q) news) (σ.set b (.rows q (es.take m ++ ys ++ es.drop (m + ys.length)) false cap)) ∧ w.there b (m * q) news.length := by
  obtain ⟨c, e', mm, g1, g2, g3, g4, g5, g6, g7⟩ := hs.obj b _ hb
  have g6' : F b = 0 := g6
  have hle : m ≤ es.length := by omega
  have hfit : m * q + news.length ≤ c.size := by
    rw [n1, ← Nat.add_mul]
    exact Nat.le_trans (Nat.mul_le_mul_right _ (by omega)) g2
  have hth : w.there b (m * q) news.length := fun j hj => by
    have hlt : m * q + j < c.size := by omega
    refine ⟨by simp [World.cell?, g1, hlt], ?_⟩
    have := g5 (m * q + j) hlt
    simp only [World.frozen?, g1]
    simpa using this
  obtain ⟨c', q1, q2, q3⟩ := heap_setCells b e' mm news (m * q) w c g1
  obtain ⟨r1, r2⟩ := store_ext hs hb g6' (m * q) news (.rows q (es.take m ++ ys ++ es.drop (m + ys.length)) false cap) fun hkp => by
    have hlen : (es.take m ++ ys ++ es.drop (m + ys.length)).length = es.length := by
      simp [Nat.min_eq_left hle]
      omega
    refine ⟨c', e', mm, q1, by rw [q2]; exact g2, by rw [hlen]; exact g3, fun x hx => ?_, by rw [q2]; exact g5, g6', fun i j hi hj => ?_⟩
    · rcases List.mem_append.1 hx with h' | h'
      · rcases List.mem_append.1 h' with h' | h'
        · exact g4 x (List.mem_of_mem_take h')
        · exact n4 x h'
      · exact g4 x (List.mem_of_mem_drop h')
    · rw [hlen] at hi
      by_cases h1 : i < m
      · have hlt : i * q + j < m * q := by
          have : (i + 1) * q ≤ m * q := Nat.mul_le_mul_right _ h1
          rw [Nat.succ_mul] at this
          omega
        have e2 : c'.getD (i * q + j) undef = c.getD (i * q + j) undef := by rw [q3, if_neg (by omega)]
        rw [splice_rows (q := q), if_pos ⟨h1, hle⟩, e2]
        exact (g7 i j hi hj).mono hkp
      · by_cases h2 : i < m + ys.length
        · have hlt : (i - m) * q + j < news.length := by
            rw [n1]
            have : (i - m + 1) * q ≤ ys.length * q := Nat.mul_le_mul_right _ (by omega)
            rw [Nat.succ_mul] at this
            omega
          have hidx : i * q + j = m * q + ((i - m) * q + j) := by
            rw [← Nat.add_assoc, ← Nat.add_mul, show m + (i - m) = i by omega]
          have e2 : c'.getD (i * q + j) undef = news.getD ((i - m) * q + j) undef := by
            rw [q3, if_pos (by omega), show i * q + j - m * q = (i - m) * q + j by omega]
          rw [splice_rows (q := q), if_neg (by omega), if_pos ⟨hle, h2⟩, e2]
          exact (n5 _ j (by omega) hj).mono hkp
        · have e1 : (es.take m ++ ys ++ es.drop (m + ys.length)).getD i [] = es.getD i [] := by
            simp only [List.getD_eq_getElem?_getD]
            rw [List.getElem?_append_right (by simp; omega), List.getElem?_drop]
            congr 2
            simp [Nat.min_eq_left hle]
            omega
          have hge : m * q + news.length ≤ i * q := by
            rw [n1, ← Nat.add_mul]
            exact Nat.mul_le_mul_right _ (by omega)
          have e2 : c'.getD (i * q + j) undef = c.getD (i * q + j) undef := by rw [q3, if_neg (by omega)]
          rw [e1, e2]
          exact (g7 i j hi hj).mono hkp
  exact ⟨r1, r2, hth⟩

theorem sound_clear {t : TypeId} {x : Operand} (ho : o.op = .call { callee := .builtin .clear, args := #[x], argTypes := #[t] }) (hx : opdIn n x = true) (hf : FrRel F w n fr a) (hs : Rel F w σ) (h : aClear (tk P t) σ (fr.ev x) k) : OpOk P o a F w σ k := by
  cases ht : tk P t with
  | none => simp [ht, aClear] at h
  | some i =>
    obtain ⟨inf, d, z, h1, h2, h3, h4, h5, h6, h7, h8⟩ := tk_info ht
    simp only [ht, aClear] at h
    have hv := hf.ev x hx
    revert h hv
    generalize fr.ev x = xx
    intro h hv
    have hgo : ∀ y w', (Builtin.clear_ #[t] o.type #[a.eval x]).run P w = .ok y w' → (execOp a.eval o).run P w = .ok (.value y) w' := fun y w' hy => by
      simp [execOp, ho, resolve, invoke, builtin, hy]
    split at h
    · rename_i q eby ez byt htd
      obtain ⟨e, ie, ze, rfl, k1, rfl, rfl, k4, rfl, k6, k7⟩ := td_sl (P := P) (d := d) (by rw [← h7, htd])
      split at h
      · refine opOk_value (x := .tuple #[]) (hgo _ _ ?_) (.refl F w σ) hs (.tup _ _ rfl fun j hj => by simp at hj) h
        simp [hv.eq, Builtin.clear_, run_underlying h2]
      · rename_i b p len cap
        by_cases hn : len = 0
        · rw [if_pos hn] at h
          subst hn
          refine opOk_value (x := .tuple #[]) (hgo _ _ ?_) (.refl F w σ) hs (.tup _ _ rfl fun j hj => by simp at hj) h
          simp [hv.eq, Builtin.clear_, run_underlying h2]
        · rw [if_neg hn] at h
          split at h
          · rename_i q' es cap' hb
            obtain ⟨rfl, hq, hp, hle, hez, hk⟩ := h
            have hz1 : ze.cells.toList.length = ie.size := by simpa using k6
            obtain ⟨r1, r2, r3⟩ := rows_set (m := p / ie.size) (ys := List.replicate len (ze.cells.toList.map .v)) (news := (Builtin.zeroCells ze.cells len).toList) hs hb (by simpa using hle) hq (by simp [zeroCells_size, k6]) (fun e he => by
              obtain ⟨_, rfl⟩ := List.mem_replicate.1 he
              exact ⟨by simp [k6], by rw [List.all_map]; exact hez⟩) (fun i j hi hj => by
              rw [List.length_replicate] at hi
              have hjz : j < ze.cells.size := by omega
              have e1 : ((List.replicate len (ze.cells.toList.map AV.v)).getD i []).getD j (.v undef) = .v ze.cells[j] := by
                have e0 : (List.replicate len (ze.cells.toList.map AV.v)).getD i [] = ze.cells.toList.map AV.v := by
                  rw [List.getD_eq_getElem?_getD, List.getElem?_replicate, if_pos hi]
                  rfl
                rw [e0]
                simp [List.getD_eq_getElem?_getD, hjz]
              have hlt : i * ie.size + j < len * ze.cells.size := by
                have : (i + 1) * ie.size ≤ len * ie.size := Nat.mul_le_mul_right _ hi
                rw [Nat.succ_mul] at this
                rw [k6]
                omega
              have hm : (i * ie.size + j) % ze.cells.size = j := by
                rw [k6, Nat.add_comm, Nat.add_mul_mod_self_right, Nat.mod_eq_of_lt hj]
              have e2 : (Builtin.zeroCells ze.cells len).toList.getD (i * ie.size + j) undef = ze.cells[j] := by
                simp [Builtin.zeroCells, List.getD_eq_getElem?_getD, hlt, hm, hjz]
              rw [e1, e2]
              exact .v _)
            rw [List.length_replicate] at r1 r2
            refine opOk_value (x := .tuple #[]) (hgo _ _ ?_) r2 r1 (.tup _ _ rfl fun j hj => by simp at hj) hk
            have hpq : p / ie.size * ie.size = p := by
              have := Nat.div_add_mod p ie.size
              rw [hp, Nat.mul_comm] at this
              omega
            rw [hpq] at r3 ⊢
            have hst := run_storeCells_cells (P := P) b p (Builtin.zeroCells ze.cells len).toList 0 w (fun j hj => by simpa using (r3 j hj).1) (fun j hj => by simpa using (r3 j hj).2) (fun v hv => by
              simp only [Builtin.zeroCells, Array.toList_map, Array.toList_range, List.mem_map, List.mem_range] at hv
              obtain ⟨i, hi, rfl⟩ := hv
              have hpos : 0 < ze.cells.size := by omega
              have hlt : i % ze.cells.size < ze.cells.size := Nat.mod_lt _ hpos
              rw [getElem!_pos ze.cells _ hlt]
              exact List.all_eq_true.1 hez _ (by simp))
            rw [Nat.add_zero] at hst
            obtain ⟨len', rfl⟩ : ∃ l, len = l + 1 := ⟨len - 1, by omega⟩
            simp only [hv.eq, Builtin.clear_, Sem.run_bind, run_underlying h2, Result.andThen_ok, List.getElem?_toArray, List.getElem?_cons_zero, run_zero' k1 k4, hst, Sem.run_pure]
          · exact h.elim
      · exact h.elim
    · exact h.elim

theorem aBI_sound {b : Builtin} {args : List Operand} {ts : List TypeId} (ho : o.op = .call { callee := .builtin b, args := args.toArray, argTypes := ts.toArray }) (hargs : ∀ x ∈ args, opdIn n x = true) (hf : FrRel F w n fr a) (hs : Rel F w σ)
    (h : aBI P b (args.map fr.ev) ts σ k) : OpOk P o a F w σ k := by
  unfold aBI at h
  split at h
  · split at h
    · rename_i m x t t2 hx
      match args, hx with
      | [m', x'], hx =>
        simp only [List.map_cons, List.map_nil, List.cons.injEq, and_true] at hx
        obtain ⟨rfl, rfl⟩ := hx
        exact sound_mapdel (ts := #[]) ho (hargs _ (by simp)) (hargs _ (by simp)) hf hs h
    · exact h.elim
  · split at h
    · rename_i x y hx
      match args, hx with
      | [x', y'], hx =>
        simp only [List.map_cons, List.map_nil, List.cons.injEq, and_true] at hx
        obtain ⟨rfl, rfl⟩ := hx
        have hxv := hf.ev x' (hargs _ (by simp))
        have hyv := hf.ev y' (hargs _ (by simp))
        revert h hxv hyv
        generalize fr.ev x' = xx
        generalize fr.ev y' = yy
        intro h hxv hyv
        unfold aMin at h
        split at h
        · refine opOk_pure hs (x := .int _ _) ?_ (.v _) h
          have := Go.Lib.run_min_ints (P := P) w ts.toArray o.type
          simp [execOp, ho, resolve, invoke, builtin, hxv.eq, hyv.eq, this]
        · exact h.elim
    · exact h.elim
  · split at h
    · rename_i x y hx
      match args, hx with
      | [x', y'], hx =>
        simp only [List.map_cons, List.map_nil, List.cons.injEq, and_true] at hx
        obtain ⟨rfl, rfl⟩ := hx
        have hxv := hf.ev x' (hargs _ (by simp))
        have hyv := hf.ev y' (hargs _ (by simp))
        revert h hxv hyv
        generalize fr.ev x' = xx
        generalize fr.ev y' = yy
        intro h hxv hyv
        unfold aMax at h
        split at h
        · refine opOk_pure hs (x := .int _ _) ?_ (.v _) h
          have := Go.Lib.run_max_ints (P := P) w ts.toArray o.type
          simp [execOp, ho, resolve, invoke, builtin, hxv.eq, hyv.eq, this]
        · exact h.elim
    · exact h.elim
  · split at h
    · rename_i x t hx
      match args, hx with
      | [x'], hx =>
        simp only [List.map_cons, List.map_nil, List.cons.injEq, and_true] at hx
        obtain rfl := hx
        exact sound_clear ho (hargs _ (by simp)) hf hs h
    · exact h.elim
  · exact h.elim

theorem rows_new {F : Froz} {w : World} {σ : St} (h : Rel F w σ) {q cap : Nat} {es : List (List AV)} {vs : Array Value} (e : TypeId) (hc : cap * q ≤ vs.size) (hl : es.length ≤ cap) (h1 : ∀ e ∈ es, e.length = q ∧ e.all AV.one = true)
    (hv : ∀ i j, i < es.length → j < q → RV F w ((es.getD i []).getD j (.v undef)) (vs.getD (i * q + j) undef)) : Holds F (w.alloc (.cells vs e)) w.heap.size (.rows q es false cap) := by
  have hkp := Keeps.alloc h (.cells vs e)
  exact ⟨vs, e, (0, 0), heap_alloc_new w _, hc, hl, h1, fun i _ hi => by simp at hi, h.lt _ (Nat.le_refl _), fun i j hi hj => (hv i j hi hj).mono hkp⟩
theorem sound_mksl {t : TypeId} {l c : Operand} (ho : o.op = .makeSlice t l c) (hl : opdIn n l = true) (hc : opdIn n c = true) (hf : FrRel F w n fr a) (hs : Rel F w σ) (h : aMkSl (tk P t) σ (fr.ev l) (fr.ev c) k) : OpOk P o a F w σ k := by
  cases ht : tk P t with
  | none => simp [ht, aMkSl] at h
  | some i =>
    obtain ⟨inf, d, z, h1, h2, h3, h4, h5, h6, h7, h8⟩ := tk_info ht
    simp only [ht, aMkSl] at h
    cases htd : i.td with
    | sl q eby ez byt =>
      obtain ⟨e, ie, ze, rfl, k1, rfl, rfl, k4, rfl, k6, k7⟩ := td_sl (P := P) (by rw [← h7, htd])
      simp only [htd] at h
      have hvl := hf.ev l hl
      have hvc := hf.ev c hc
      revert h hvl hvc
      generalize fr.ev l = L
      generalize fr.ev c = C
      intro h hvl hvc
      split at h
      · rename_i kl l0 kc c0
        obtain ⟨hq, hb, hez, g0, g1, g2, h⟩ := h
        have h63 : c0 ≤ 9223372036854775807 := by
          have : c0 ≤ (ie.bytes : Int) * c0 := by
            have : 1 * c0 ≤ (ie.bytes : Int) * c0 := Int.mul_le_mul_of_nonneg_right (by omega) (by omega)
            omega
          omega
        have hr := run_make w t e ie ze h2 k1 k4 kl kc l0 c0 g0 g1 g2 h63
        have hrun : (execOp a.eval o).run P w = .ok (.value (.slice (some ⟨w.heap.size, 0, none⟩) l0.toNat c0.toNat)) (w.alloc (.cells (madeCells ze.cells (c0.toNat * ie.size)) e)) := by
          simp only [execOp, ho, hvl.eq, hvc.eq, Sem.run_bind, hr, Result.andThen_ok, Sem.run_pure]
        have hzl : (ze.cells.toList.map AV.v).length = ie.size := by simp [k6]
        obtain ⟨r1, r2⟩ := rel_alloc hs (.cells (madeCells ze.cells (c0.toNat * ie.size)) e) (.rows ie.size (List.replicate l0.toNat (ze.cells.toList.map .v)) false c0.toNat) (rows_new hs e (by simp [madeCells]) (by simp; omega) (fun x hx => by
          obtain ⟨_, rfl⟩ := List.mem_replicate.1 hx
          exact ⟨hzl, by rw [List.all_map]; exact hez⟩) fun i j hi hj => by
          simp only [List.length_replicate] at hi
          have hlt : i * ie.size + j < c0.toNat * ie.size := by
            have : (i + 1) * ie.size ≤ c0.toNat * ie.size := Nat.mul_le_mul_right _ (by omega)
            rw [Nat.succ_mul] at this
            omega
          have e1 : (List.replicate l0.toNat (ze.cells.toList.map AV.v)).getD i [] = ze.cells.toList.map AV.v := by simp [List.getD_eq_getElem?_getD, hi]
          have hm : (i * ie.size + j) % ie.size = j := by rw [Nat.mul_comm i ie.size, Nat.mul_add_mod, Nat.mod_eq_of_lt hj]
          have e2 : (madeCells ze.cells (c0.toNat * ie.size)).getD (i * ie.size + j) undef = ze.cells.getD j undef := by
            simp [madeCells, hlt, k6, hm, hj]
          rw [e1, e2, getD_map_v _ _ (by simp [k6]; exact hj)]
          simp
          exact .v _)
        exact opOk_value hrun r2 r1 (.v _) (h _ (fresh_none hs (Nat.le_refl _)))
      · exact h.elim
    | _ => simp [htd] at h
theorem sound_defer {c : Call} (ho : o.op = .defer c) (hin : ∀ x, x ∈ o.op.operands → opdIn n x = true) (hf : FrRel F w n fr a) (hs : Rel F w σ) (h : aDefer P c fr σ k) : OpOk P o a F w σ k := by
  obtain ⟨callee, args, ts⟩ := c
  simp only [aDefer] at h
  split at h
  · rename_i t hargs
    obtain rfl : args = #[] := by apply Array.ext'; simpa using hargs
    split at h
    · rename_i f first captured hfr
      obtain ⟨⟨fn, h1, h2, h3⟩, h4, h5⟩ := h
      have hev := hf.ev (.tmp t) (hin _ (by simp [ho, Op.operands, Call.operands]))
      simp only [Fr.ev, hfr] at hev
      have he := hev.eq
      intro ro next Q hd hn
      have hro : ro = none := by
        rcases hd with h | h
        · exact h
        · rw [ho] at h; cases h
      subst hro
      refine ⟨fun _ _ => trivial, ?_⟩
      have hrun : (execOp a.eval o).run P w = .ok (.defer { target := .fn (.func f) captured, args := first }) w := by
        simp [execOp, ho, resolve, he, Deferred.ofValue]
      rw [show o.semAt (wd none).round a.eval = execOp a.eval o from rfl, hrun, Oper.uponIn_defer]
      have := hn F w undef (.v undef) σ [{ target := .fn (.func f) captured, args := first }] (.refl F w σ) hs (.v _) h5 (fun d hd => by
        simp only [List.mem_singleton] at hd
        subst hd
        refine ⟨.func f, captured, f, first ++ captured, rfl, fun w => ?_, h4⟩
        have hb : fn.body ≠ none := by intro e; rw [e] at h2; cases h2
        simp [invoke, callFunc, h1, h3, hb])
      rw [← put_some] at this
      exact this
    · exact h.elim
  · exact h.elim

theorem aMore_sound (hin : ∀ x, x ∈ o.op.operands → opdIn n x = true) (hf : FrRel F w n fr a) (hs : Rel F w σ) (h : aMore P o.op fr σ k) : OpOk P o a F w σ k := by
  cases ho : o.op with
  | makeSlice t l c =>
    rw [ho] at h
    exact sound_mksl ho (hin _ (by simp [ho, Op.operands])) (hin _ (by simp [ho, Op.operands])) hf hs h
  | defer c =>
    rw [ho] at h
    exact sound_defer ho hin hf hs h
  | makeMap t r =>
    cases r with
    | none =>
      rw [ho] at h
      exact sound_mkmap ho hs h
    | some r => rw [ho] at h; exact h.elim
  | lookup t m x ok =>
    rw [ho] at h
    simp only [aMore] at h
    exact quiet_ok (sound_look ho (hin _ (by simp [ho, Op.operands])) (hin _ (by simp [ho, Op.operands])) hf hs h) hs fun _ h => h
  | mapUpdate t m x y =>
    rw [ho] at h
    simp only [aMore] at h
    exact (sound_mapput ho (hin _ (by simp [ho, Op.operands])) (hin _ (by simp [ho, Op.operands])) (hin _ (by simp [ho, Op.operands])) hf hs h).mono fun v σ' ⟨e, h⟩ => by subst e; exact h
  | makeInterface t x =>
    rw [ho] at h
    simp only [aMore, aMkI] at h
    obtain ⟨hc, h⟩ := h
    obtain ⟨d, hd, hne⟩ := conc_of hc
    have hv := hf.ev x (hin _ (by simp [ho, Op.operands]))
    revert h hv
    generalize fr.ev x = y
    intro h hv
    split at h
    · refine opOk_pure hs (x := .iface t _) ?_ (.v _) h
      have hr : ∀ y, (Instr.makeInterface t y).run P w = .ok (.iface t y) w := fun y => by
        cases d <;> first | exact absurd rfl (hne _) | simp [Instr.makeInterface, run_underlying hd]
      simp only [execOp, ho, Sem.run_bind, hr, hv.eq, Result.andThen_ok, Sem.run_pure]
    · exact h.elim
  | typeAssert x t u ok =>
    cases ok with
    | true => rw [ho] at h; exact h.elim
    | false =>
      rw [ho] at h
      simp only [aMore, aTyA] at h
      obtain ⟨hc, h⟩ := h
      obtain ⟨d, hd, hne⟩ := conc_of hc
      have hv := hf.ev x (hin _ (by simp [ho, Op.operands]))
      revert h hv
      generalize fr.ev x = y
      intro h hv
      split at h
      · rename_i t' y'
        obtain ⟨rfl, h⟩ := h
        refine opOk_pure hs (x := y') ?_ (.v _) h
        have hr : (Instr.typeAssert (.iface t' y') t t' false).run P w = .ok y' w := by
          cases d <;> first | exact absurd rfl (hne _) | simp [Instr.typeAssert, run_underlying hd]
        simp only [execOp, ho, Sem.run_bind, hv.eq, hr, Result.andThen_ok, Sem.run_pure]
      · exact h.elim
  | _ => rw [ho] at h; exact h.elim

theorem aMore_congr {o : Op} {fr fr' : Fr} (h : ∀ x ∈ o.operands, fr.ev x = fr'.ev x) : aMore P o fr σ k = aMore P o fr' σ k := by
  cases o with
  | makeMap t r => cases r <;> rfl
  | makeSlice t l c => simp only [aMore, h l (by simp [Op.operands]), h c (by simp [Op.operands])]
  | defer c =>
    obtain ⟨callee, args, ts⟩ := c
    simp only [aMore, aDefer]
    split
    · rename_i t ha
      have := h (.tmp t) (by simp [Op.operands, Call.operands])
      simp only [Fr.ev] at this
      simp only [this]
    · rfl
  | lookup t m x ok => simp only [aMore, h m (by simp [Op.operands]), h x (by simp [Op.operands])]
  | mapUpdate t m x y => simp only [aMore, h m (by simp [Op.operands]), h x (by simp [Op.operands]), h y (by simp [Op.operands])]
  | makeInterface t x => simp only [aMore, h x (by simp [Op.operands])]
  | typeAssert x t u ok => cases ok <;> simp only [aMore, h x (by simp [Op.operands])]
  | _ => rfl
end
end Go.Av

/-
  The program logic, part 10: whole operations, regions, branches, loops, functions and calls.
  Conditions: none (a library of definitions and lemmas over any program).
-/
namespace Go.Av
open Go Go.RowKit

/-! ### Calls -/
def callable (P : Program) (f : FuncId) : Bool :=
  match P.funcs[f]? with
  | some fn => fn.body.isSome && fn.name != "runtime.NumGoroutine"
  | none => false

/-- The function for which the model stands in: maps.clone. -/
def isClone (P : Program) (f : FuncId) : Bool :=
  match P.funcs[f]? with
  | some fn => fn.body.isNone && fn.name == "maps.clone" && (Extern.findNext fn).isNone
  | none => false
def aClone (args : List AV) (σ : St) (k : AV → St → Prop) : Prop :=
  match args with
  | [.v (.iface t (.map (some r)))] => match σ r with
    | some (.map kv) => ∀ b, σ b = none → k (.v (.iface t (.map (some b)))) (σ.set b (.map kv))
    | _ => False
  | _ => False
theorem aClone_mono {args : List AV} {σ : St} {k k' : AV → St → Prop} (hk : ∀ v σ, k v σ → k' v σ) (h : aClone args σ k) : aClone args σ k' := by
  unfold aClone at h ⊢
  split at h
  · split at h
    · exact fun b hb => hk _ _ (h b hb)
    · exact h.elim
  · exact h.elim
/-- Called with values that read as args, where σ is tracked, f returns what reads as r, σ' being tracked then, of which Q holds. What was not tracked is as it was. -/
def AT (P : Program) (f : FuncId) (args : List AV) (σ : St) (Q : AV → St → Prop) : Prop :=
  (callable P f = true ∧ ∀ F w vs, Rel F w σ → RVs F w args vs →
    Calls P f vs.toArray w fun e w' => ∃ x F' σ' r, e = .returned x ∧ Ext F w σ F' w' σ' ∧ Rel F' w' σ' ∧ RV F' w' r x ∧ Q r σ') ∨
  (isClone P f = true ∧ aClone args σ Q)

theorem AT.mono {P : Program} {f : FuncId} {args : List AV} {σ : St} {Q Q' : AV → St → Prop} (h : AT P f args σ Q) (hq : ∀ r σ', Q r σ' → Q' r σ') : AT P f args σ Q' :=
  h.imp (fun h => ⟨h.1, fun F w vs hs hv => (h.2 F w vs hs hv).mono fun e w' ⟨x, F', σ', r, h1, h2, h3, h4, h5⟩ => ⟨x, F', σ', r, h1, h2, h3, h4, hq r σ' h5⟩⟩) fun h => ⟨h.1, aClone_mono hq h.2⟩

/-! ### One operation -/
def notInt : Option TK → Bool
  | some { td := .int _, .. } => false
  | some _ => true
  | none => false

/-- A call of what a loop over a function hands to it. -/
def YC (P : Program) (l : Nat) (args : List AV) (σ : St) (k : AV → St → Prop) : Prop :=
  ∀ F w vs, Rel F w σ → RVs F w args vs → ∃ f tmps assign body, (Instr.yield l vs.toArray).run P w = .ok (.round l f tmps assign body) w ∧
    RoundIn Fence.wide 0 P l f tmps assign body w fun e w' => ∃ x F' σ' r, e = .returned x ∧ Ext F w σ F' w' σ' ∧ Rel F' w' σ' ∧ RV F' w' r x ∧ k r σ'
theorem YC.mono {P : Program} {l : Nat} {args : List AV} {σ : St} {k k' : AV → St → Prop} (h : YC P l args σ k) (hk : ∀ v σ, k v σ → k' v σ) : YC P l args σ k' := fun F w vs hs hv => by
  obtain ⟨f, tmps, assign, body, h1, h2⟩ := h F w vs hs hv
  exact ⟨f, tmps, assign, body, h1, h2.mono fun e w' ⟨x, F', σ', r, g1, g2, g3, g4, g5⟩ => ⟨x, F', σ', r, g1, g2, g3, g4, hk _ _ g5⟩⟩
/-- A call of a function value. -/
def aCallV (P : Program) (x : AV) (args : List AV) (σ : St) (k : AV → St → Prop) : Prop :=
  match x with
  | .v (.func (.yield l) first captured) => first.toList = [] ∧ captured.toList = [] ∧ YC P l args σ k
  | .v (.func (.func f) first captured) => AT P f (first.toList.map .v ++ args ++ captured.toList.map .v) σ k
  | _ => False
def aCallOp (P : Program) (c : Call) (fr : Fr) (σ : St) (k : AV → St → Prop) : Prop :=
  match c.callee with
  | .value (.func f) => AT P f (c.args.toList.map fr.ev) σ k
  | .value (.tmp t) => aCallV P (fr t) (c.args.toList.map fr.ev) σ k
  | .builtin .len => match c.args.toList, c.argTypes.toList with
    | [x], [t] => aLen (tk P t) (fr.ev x) fun v => k v σ
    | _, _ => False
  | .builtin .append => match c.args.toList, c.argTypes.toList with
    | [s, x], [t1, t2] => notInt (tk P t2) = true ∧ aApp (tk P t1) σ (fr.ev s) (fr.ev x) k
    | _, _ => False
  | .builtin b => aBI P b (c.args.toList.map fr.ev) c.argTypes.toList σ k
  | _ => False

def exact? : AV → Option Value
  | .v x => some x
  | _ => none
def exacts (ev : Operand → AV) : List Operand → Option (List Value)
  | [] => some []
  | x :: r => match ev x with
    | .v y => match exacts ev r with
      | some ys => some (y :: ys)
      | none => none
    | _ => none
/-- A function value: what it has caught must be values as they are. -/
def aFunc (fn : Fn) (ev : Operand → AV) (first captured : List Operand) (k : AV → Prop) : Prop :=
  match exacts ev first, exacts ev captured with
  | some xs, some ys => k (.v (.func fn xs.toArray ys.toArray))
  | _, _ => False

def aOp (P : Program) (o : Op) (fr : Fr) (σ : St) (k : AV → St → Prop) : Prop :=
  match o with
  | .move x => k (fr.ev x) σ
  | .assign x => k (fr.ev x) σ
  | .pick c x y => aPick (fr.ev c) (fr.ev x) (fr.ev y) fun v => k v σ
  | .alloc e => aAlloc (tk P e) σ k
  | .box _ x => aBox (fr.ev x) σ k
  | .build t ps => aBuild (tk P t) (evs fr.ev ps.toList) fun v => k v σ
  | .buildSlice t n ps => aBuildS (tk P t) n (evs fr.ev ps.toList) fun v => k v σ
  | .load t x => aLoad (tk P t) σ (fr.ev x) fun v => k v σ
  | .store t x y => aStore (tk P t) σ (fr.ev x) (fr.ev y) fun σ' => k (.v undef) σ'
  | .nilCheck x => aNil (fr.ev x) fun v => k v σ
  | .binOp op t x y _ => aBin P op t (fr.ev x) (fr.ev y) fun v => k v σ
  | .unOp op _ x => aUn op (fr.ev x) fun v => k v σ
  | .convert s d x => aConv (tk P s) (tk P d) σ (fr.ev x) k
  | .makeFunc fn first captured => aFunc fn fr.ev first.toList captured.toList fun v => k v σ
  | .slice t x lo hi mx => aSli (tk P t) σ (fr.ev x) (lo.map fr.ev) (hi.map fr.ev) (mx.map fr.ev) fun v => k v σ
  | .fieldAddr s x f => aFadr (tk P s) f (fr.ev x) fun v => k v σ
  | .field s x f => aFld (tk P s) f (fr.ev x) fun v => k v σ
  | .indexAddr t x ix => aIadr (tk P t) σ (fr.ev x) (fr.ev ix) fun v => k v σ
  | .index t x ix => aIdx (tk P t) (fr.ev x) (fr.ev ix) fun v => k v σ
  | .extract x j => aExt (fr.ev x) j fun v => k v σ
  | .call c => aCallOp P c fr σ k
  | o => aMore P o fr σ k

section
variable {P : Program} {o : Oper} {n : Nat} {fr : Fr} {a : Act} {F : Froz} {w : World} {σ : St} {k : AV → St → Prop}

theorem exacts_ok (hf : FrRel F w n fr a) : ∀ (l : List Operand) (ys : List Value), (∀ x ∈ l, opdIn n x = true) → exacts fr.ev l = some ys → l.map a.eval = ys
  | [], ys, _, h => by
    simp only [exacts, Option.some.injEq] at h
    subst h
    rfl
  | x :: l, ys, hin, h => by
    simp only [exacts] at h
    split at h
    · rename_i y hy
      split at h
      · rename_i zs hz
        injection h with h
        subst h
        have h1 := hf.ev x (hin x (by simp))
        rw [hy] at h1
        rw [List.map_cons, h1.eq, exacts_ok hf l zs (fun x hx => hin x (by simp [hx])) hz]
      · cases h
    · cases h

theorem args_ok (hf : FrRel F w n fr a) (l : List Operand) (hin : ∀ x ∈ l, opdIn n x = true) : RVs F w (l.map fr.ev) (l.map a.eval) :=
  ⟨by simp, fun j hj => by
    simp at hj
    have e1 : (l.map fr.ev).getD j (.v undef) = fr.ev l[j] := by simp [List.getD_eq_getElem?_getD, hj]
    have e2 : (l.map a.eval).getD j undef = a.eval l[j] := by simp [List.getD_eq_getElem?_getD, hj]
    rw [e1, e2]
    exact hf.ev _ (hin _ (List.getElem_mem hj))⟩
theorem RVs.append {cs cs' : List AV} {vs vs' : List Value} (h : RVs F w cs vs) (h' : RVs F w cs' vs') : RVs F w (cs ++ cs') (vs ++ vs') :=
  ⟨by simp [h.1, h'.1], fun j hj => by
    simp only [List.getD_eq_getElem?_getD]
    by_cases hlt : j < cs.length
    · rw [List.getElem?_append_left hlt, List.getElem?_append_left (by rw [h.1]; exact hlt)]
      simpa [List.getD_eq_getElem?_getD] using h.2 j hlt
    · rw [List.getElem?_append_right (by omega), List.getElem?_append_right (by rw [h.1]; omega), h.1]
      have := h'.2 (j - cs.length) (by simp at hj; omega)
      simpa [List.getD_eq_getElem?_getD] using this⟩

theorem call_ok {f : FuncId} {args : List AV} {vs : List Value} (hex : (execOp a.eval o).run P w = (callFunc f vs.toArray).run P w) (hs : Rel F w σ) (hv : RVs F w args vs) (h : AT P f args σ k) : OpOk P o a F w σ k := by
  rcases h with ⟨hc, h⟩ | ⟨hc, h⟩
  · intro ro next Q _ hn
    replace hn := next0 hn
    have hrun : (callFunc f vs.toArray).run P w = .ok (.enter f vs.toArray) w := by
      unfold callable at hc
      split at hc
      · rename_i fn hfn
        simp only [Bool.and_eq_true] at hc
        have h1 : ¬ fn.name = "runtime.NumGoroutine" := by
          have := hc.2
          simpa [bne] using this
        have h2 : ¬ fn.body = none := by intro e; simp [e] at hc
        simp [callFunc, hfn, h1, h2]
      · cases hc
    refine ⟨fun _ _ => trivial, ?_⟩
    rw [semAt_of _ (hex.trans hrun) (fun d h => by cases h), hex, hrun]
    refine ⟨(fun h => by cases h), ?_⟩
    refine (callsIn_wide (n := 0)).2 ((h F w vs hs hv).mono ?_)
    rintro e w' ⟨x, F', σ', r, h1, h2, h3, h4, h5⟩
    subst h1
    exact hn F' w' x r σ' h2 h3 h4 h5
  · unfold isClone at hc
    split at hc
    · rename_i fn hfn
      simp only [Bool.and_eq_true, beq_iff_eq] at hc
      unfold aClone at h
      split at h
      · rename_i t r
        have hv1 : vs = [.iface t (.map (some r))] := by
          match vs, hv with
          | [x], hv => rw [show x = _ from (hv.2 0 (by simp)).eq]
          | [], hv => exact absurd hv.1 (by simp)
          | _ :: _ :: _, hv => exact absurd hv.1 (by simp)
        split at h
        · rename_i kv hr
          obtain ⟨es, clk, g1, g2, g3⟩ := hs.obj r _ hr
          have hfind : Extern.find fn = some Extern.MapsClone.clone := by
            unfold Extern.find
            rw [hc.1.2]
            rfl
          have hnext : Extern.findNext fn = none := by
            cases hq : Extern.findNext fn with
            | none => rfl
            | some x => rw [hq] at hc; exact absurd hc.2 (by simp)
          have hrun := run_callFunc_extern (P := P) hfn (by rw [hc.1.2]; rfl) hc.1.1 hnext hfind #[.iface t (.map (some r))] w
          have hcl : (Extern.MapsClone.clone #[.iface t (.map (some r))]).run P w = .ok (.iface t (.map (some w.heap.size))) (w.alloc (.map es clk)) := by
            have e : Extern.MapsClone.clone #[.iface t (.map (some r))] = (getObj r >>= fun o => match o with
                | .map entries clock => (newObj (.map entries clock) >>= fun n => pure (.iface t (.map (some n))))
                | _ => stuck "maps.clone: a map expected") := rfl
            rw [e]
            simp only [Sem.run_bind, Go.MapKept.run_getObj_map g1, Result.andThen_ok]
            rfl
          obtain ⟨r1, r2⟩ := rel_alloc hs (.map es clk) (.map kv) ⟨es, clk, heap_alloc_new w _, hs.lt _ (Nat.le_refl _), g3.mono (Keeps.alloc hs _)⟩
          have hrun2 : (execOp a.eval o).run P w = .ok (.value (.iface t (.map (some w.heap.size)))) (w.alloc (.map es clk)) := by
            rw [hex, hv1, show ([Value.iface t (.map (some r))].toArray) = #[.iface t (.map (some r))] from rfl, hrun, hcl]
            rfl
          intro ro next Q _ hn
          replace hn := next0 hn
          refine ⟨fun _ _ => trivial, ?_⟩
          rw [semAt_of _ hrun2 (fun d h => by cases h), hrun2]
          exact hn F _ _ _ _ r2 r1 (.v _) (h _ (fresh_none hs (Nat.le_refl _)))
        · exact h.elim
      · exact h.elim
    · cases hc

theorem okOper_opd {ops : Array Oper} (h : okOper n ops o = true) (x : Operand) (hx : x ∈ o.op.operands) : opdIn n x = true := by
  simp only [okOper, Bool.and_eq_true] at h
  exact Array.all_eq_true_iff_forall_mem.1 h.1.1 x hx
theorem okOper_dst {ops : Array Oper} (h : okOper n ops o = true) (t : Nat) (ht : o.dst = some t) : t < n := by
  simp only [okOper, Bool.and_eq_true, ht] at h
  simpa using h.1.2

theorem aOp_sound {ops : Array Oper} (hok : okOper n ops o = true) (hf : FrRel F w n fr a) (hs : Rel F w σ) (h : aOp P o.op fr σ k) : OpOk P o a F w σ k := by
  have hin := fun x => okOper_opd (o := o) hok x
  cases ho : o.op with
  | move x =>
    rw [ho] at h
    simp only [aOp] at h
    exact opOk_pure hs (x := a.eval x) (by simp [execOp, ho]) (hf.ev x (hin x (by simp [ho, Op.operands]))) h
  | assign x =>
    rw [ho] at h
    simp only [aOp] at h
    exact opOk_pure hs (x := a.eval x) (by simp [execOp, ho]) (hf.ev x (hin x (by simp [ho, Op.operands]))) h
  | pick c x y =>
    rw [ho] at h
    simp only [aOp] at h
    exact quiet_ok (sound_pick ho (hin _ (by simp [ho, Op.operands])) (hin _ (by simp [ho, Op.operands])) (hin _ (by simp [ho, Op.operands])) hf h) hs fun _ h => h
  | alloc e =>
    rw [ho] at h
    simp only [aOp] at h
    exact sound_alloc ho hs h
  | box e x =>
    rw [ho] at h
    simp only [aOp] at h
    exact sound_box ho (hin _ (by simp [ho, Op.operands])) hf hs h
  | build t ps =>
    rw [ho] at h
    simp only [aOp] at h
    refine quiet_ok (sound_build ho (fun p hp => hin _ ?_) hf h) hs fun _ h => h
    simp only [ho, Op.operands, List.mem_toArray]
    exact List.mem_map.2 ⟨p, hp, rfl⟩
  | buildSlice t len ps =>
    rw [ho] at h
    simp only [aOp] at h
    refine (sound_buildS ho (fun p hp => hin _ ?_) hf hs h).mono fun v σ' ⟨e, h⟩ => by subst e; exact h
    simp only [ho, Op.operands, List.mem_toArray]
    exact List.mem_map.2 ⟨p, hp, rfl⟩
  | load t x =>
    rw [ho] at h
    simp only [aOp] at h
    exact (sound_load ho (hin _ (by simp [ho, Op.operands])) hf hs h).mono fun v σ' ⟨e, h⟩ => by subst e; exact h
  | store t x y =>
    rw [ho] at h
    simp only [aOp] at h
    exact (sound_store ho (hin _ (by simp [ho, Op.operands])) (hin _ (by simp [ho, Op.operands])) hf hs h).mono fun v σ' ⟨e, h⟩ => by subst e; exact h
  | nilCheck x =>
    rw [ho] at h
    simp only [aOp] at h
    exact quiet_ok (sound_nil ho (hin _ (by simp [ho, Op.operands])) hf h) hs fun _ h => h
  | binOp op t x y ty =>
    rw [ho] at h
    simp only [aOp] at h
    exact quiet_ok (sound_bin ho (hin _ (by simp [ho, Op.operands])) (hin _ (by simp [ho, Op.operands])) hf h) hs fun _ h => h
  | unOp op t x =>
    rw [ho] at h
    simp only [aOp] at h
    exact quiet_ok (sound_un ho (hin _ (by simp [ho, Op.operands])) hf h) hs fun _ h => h
  | convert s d x =>
    rw [ho] at h
    simp only [aOp] at h
    exact sound_conv ho (hin _ (by simp [ho, Op.operands])) hf hs h
  | makeFunc fn first captured =>
    rw [ho] at h
    simp only [aOp, aFunc] at h
    split at h
    · rename_i xs ys hx hy
      have e1 := exacts_ok hf _ _ (fun x hm => hin x (by simp [ho, Op.operands]; left; simpa using hm)) hx
      have e2 := exacts_ok hf _ _ (fun x hm => hin x (by simp [ho, Op.operands]; right; simpa using hm)) hy
      refine opOk_pure hs (x := .func fn xs.toArray ys.toArray) ?_ (.v _) h
      have f1 : first.map a.eval = xs.toArray := by apply Array.ext'; simpa using e1
      have f2 : captured.map a.eval = ys.toArray := by apply Array.ext'; simpa using e2
      simp [execOp, ho, Instr.makeFunc, f1, f2]
    · exact h.elim
  | slice t x lo hi mx =>
    rw [ho] at h
    simp only [aOp] at h
    refine quiet_ok (sound_sli ho (hin _ (by simp [ho, Op.operands])) (fun y hy => hin y (by simp [ho, Op.operands, hy])) (fun y hy => hin y (by simp [ho, Op.operands, hy])) (fun y hy => hin y (by simp [ho, Op.operands, hy])) hf hs h) hs fun _ h => h
  | fieldAddr s x f =>
    rw [ho] at h
    simp only [aOp] at h
    exact quiet_ok (sound_fadr ho (hin _ (by simp [ho, Op.operands])) hf h) hs fun _ h => h
  | field s x f =>
    rw [ho] at h
    simp only [aOp] at h
    exact quiet_ok (sound_fld ho (hin _ (by simp [ho, Op.operands])) hf h) hs fun _ h => h
  | indexAddr t x ix =>
    rw [ho] at h
    simp only [aOp] at h
    exact quiet_ok (sound_iadr ho (hin _ (by simp [ho, Op.operands])) (hin _ (by simp [ho, Op.operands])) hf h) hs fun _ h => h
  | index t x ix =>
    rw [ho] at h
    simp only [aOp] at h
    exact quiet_ok (sound_idx ho (hin _ (by simp [ho, Op.operands])) (hin _ (by simp [ho, Op.operands])) hf h) hs fun _ h => h
  | extract x j =>
    rw [ho] at h
    simp only [aOp] at h
    exact quiet_ok (sound_ext ho (hin _ (by simp [ho, Op.operands])) hf h) hs fun _ h => h
  | call c =>
    rw [ho] at h
    obtain ⟨callee, args, argTypes⟩ := c
    simp only [aOp, aCallOp] at h
    have hargs : ∀ x ∈ args.toList, opdIn n x = true := fun x hx => hin x (by simp [ho, Op.operands, Call.operands]; right; simpa using hx)
    cases callee with
    | value y =>
      cases y with
      | func f =>
        refine call_ok (vs := args.toList.map a.eval) ?_ hs (args_ok hf _ hargs) h
        have : args.map a.eval = (args.toList.map a.eval).toArray := by apply Array.ext'; simp
        simp [execOp, ho, resolve, Deferred.ofValue, Act.eval, invoke, this]
      | tmp t =>
        simp only [aCallV] at h
        split at h
        · rename_i l first captured hfr
          obtain ⟨h1, h2, h⟩ := h
          have hev := hf.ev (.tmp t) (hin _ (by simp [ho, Op.operands, Call.operands]))
          simp only [Fr.ev, hfr] at hev
          have he := hev.eq
          have hfi : first = #[] := by apply Array.ext'; simpa using h1
          have hca : captured = #[] := by apply Array.ext'; simpa using h2
          obtain ⟨f, tmps, assign, body, hy, hr⟩ := h F w (args.toList.map a.eval) hs (args_ok hf _ hargs)
          have hrun : (execOp a.eval o).run P w = .ok (.round l f tmps assign body) w := by
            have : args.map a.eval = (args.toList.map a.eval).toArray := by apply Array.ext'; simp
            simp only [execOp, ho, resolve, he, hfi, hca, Deferred.ofValue, Sem.run_bind, Sem.run_pure, Result.andThen_ok, invoke, this, Array.empty_append]
            exact hy
          intro ro next Q _ hn
          replace hn := next0 hn
          refine ⟨fun _ _ => trivial, ?_⟩
          rw [semAt_of _ hrun (fun d h => by cases h), hrun]
          refine ⟨(fun h => by cases h), ?_⟩
          refine RoundIn.mono (F := Fence.wide) (n := 0) hr ?_
          rintro e w' ⟨x, F', σ', r, g1, g2, g3, g4, g5⟩
          subst g1
          exact hn F' w' x r σ' g2 g3 g4 g5
        · rename_i f first captured hfr
          have hev := hf.ev (.tmp t) (hin _ (by simp [ho, Op.operands, Call.operands]))
          simp only [Fr.ev, hfr] at hev
          have he := hev.eq
          refine call_ok (vs := first.toList ++ args.toList.map a.eval ++ captured.toList) ?_ hs (((RVs.ofVals F w _).append (args_ok hf _ hargs)).append (RVs.ofVals F w _)) h
          have : first ++ args.map a.eval ++ captured = (first.toList ++ args.toList.map a.eval ++ captured.toList).toArray := by apply Array.ext'; simp
          simp only [execOp, ho, resolve, he, Deferred.ofValue, Sem.run_bind, Sem.run_pure, Result.andThen_ok, invoke, this]
        · exact h.elim
      | _ => exact h.elim
    | invoke r m => exact h.elim
    | builtin b =>
      cases b <;> simp only at h
      case len =>
        split at h
        · rename_i x t hx ht
          obtain rfl : args = #[x] := by apply Array.ext'; simpa using hx
          obtain rfl : argTypes = #[t] := by apply Array.ext'; simpa using ht
          exact quiet_ok (sound_len ho (hargs x (by simp)) hf h) hs fun _ h => h
        · exact h.elim
      case append =>
        split at h
        · rename_i s x t1 t2 hx ht
          obtain rfl : args = #[s, x] := by apply Array.ext'; simpa using hx
          obtain rfl : argTypes = #[t1, t2] := by apply Array.ext'; simpa using ht
          refine sound_app ho (hargs s (by simp)) (hargs x (by simp)) hf hs ?_ h.2
          have hn := h.1
          cases hq : tk P t2 with
          | none => rw [hq] at hn; cases hn
          | some j =>
            refine ⟨j, rfl, fun q e => ?_⟩
            rw [hq] at hn
            obtain ⟨ag, sz, zr, td⟩ := j
            simp only at e
            subst e
            cases hn
        · exact h.elim
      all_goals first
        | exact h.elim
        | exact aBI_sound (args := args.toList) (ts := argTypes.toList) (by rw [ho]) hargs hf hs h
  | _ => exact aMore_sound hin hf hs (by rw [ho] at h ⊢; exact h)
end
end Go.Av
