/-
  The program logic, part 1: values as trees, tracked blocks, and what holds of them in a world.
  Conditions: none (a library of definitions and plain lemmas).
-/
import Derived.WalkKit
import Derived.KernelRfl
import Derived.Deep.MidRow
import Derived.RangeFuncRecord
set_option linter.unusedVariables false
set_option linter.unusedSimpArgs false
namespace Go.Av
open Go Go.RowKit

/-- A value, seen as a tree: `v` a value as it is; `sl` a slice over frozen cells (k cells an element), seen as its elements; `fsl` the same, its capacity being its length; `fp` a pointer to frozen cells; `rp` a pointer into a tracked row; `agg` a struct or an array by its cells; `tup` several results. -/
inductive AV where
  | v (x : Value)
  | sl (k : Nat) (es : List (List AV))
  | fsl (k : Nat) (es : List (List AV))
  | fp (cs : List AV)
  | rp (b k i f : Nat)
  | agg (cs : List AV)
  | tup (vs : List AV)
instance : Inhabited AV := ⟨.v undef⟩

def AV.cells : AV → List AV
  | .agg cs => cs
  | .v (.agg cs) => cs.toList.map .v
  | x => [x]

/-- Is it the value of one cell? -/
def AV.one : AV → Bool
  | .v x => x.oneCell'
  | .agg _ | .tup _ => false
  | _ => true

/-- A frame: what each slot holds. -/
abbrev Fr := Nat → AV

/-! ### What lies in a frame of n slots -/
/-- Operands that lie in the frame. -/
def opdIn (n : Nat) : Operand → Bool
  | .tmp t => t < n
  | _ => true
/-- Operands and result of an operation lie in the frame. -/
def okOper (n : Nat) (ops : Array Oper) (o : Oper) : Bool :=
  (o.op.operands.all (opdIn n)) && (match o.dst with | some d => decide (d < n) | none => true) && (match o.guard with | some (j, _) => (match (ops[j]?).bind (·.dst) with | some d => decide (d < n) | none => true) | none => true)
/-- Slots and operands lie in the frame. -/
def okCode (n : Nat) : Code → Bool
  | .region _ ops _ => ops.all (okOper n ops)
  | .seq x y => okCode n x && okCode n y
  | .cond c x y => opdIn n c && okCode n x && okCode n y
  | .block _ x | .loop x | .scope x => okCode n x
  | .rangeFunc g ps x y => opdIn n g && ps.all (fun t => decide (t < n)) && okCode n x && okCode n y
  | _ => true
def notDefer : Op → Bool
  | .defer _ => false
  | _ => true
/-- No loop over a function, no scope, no deferred call within. -/
def flat : Code → Bool
  | .region _ ops _ => ops.toList.all fun o => notDefer o.op
  | .seq x y | .cond _ x y => flat x && flat y
  | .block _ x | .loop x => flat x
  | .scope _ | .rangeFunc .. => false
  | _ => true

/-- What is tracked of a block: `cells`: its first cells; `rows`: a row of elements of k cells each, in a block with room for `cap` elements; frz: are these cells frozen? -/
inductive AObj where
  | cells (cs : List AV)
  | rows (k : Nat) (es : List (List AV)) (frz : Bool) (cap : Nat)
  | map (kv : List (Value × AV))
  | loop (fr : Fr) (n : Nat) (ps : List Nat) (assign body : Code) (st : LoopState) (pend : Option Code)

abbrev St := Nat → Option AObj
def St.set (σ : St) (b : Nat) (o : AObj) : St := fun x => if x = b then some o else σ x
def St.del (σ : St) (b : Nat) : St := fun x => if x = b then none else σ x

abbrev Froz := Nat → Nat

/-- The value x, in the world w, reads as the tree. F b: how many of block b's first cells are frozen. -/
inductive RV (F : Froz) (w : World) : AV → Value → Prop
  | v (x : Value) : RV F w (.v x) x
  | sl0 (k : Nat) (a : Option Addr) (cap : Nat) : RV F w (.sl k []) (.slice a 0 cap)
  | sl (k : Nat) (es : List (List AV)) (b o : Nat) (c : Nat → Value) (n cap : Nat) (hn : n = es.length) (hk : ∀ e ∈ es, e.length = k ∧ e.all AV.one = true) (hcap : n ≤ cap)
      (hF : o + es.length * k ≤ F b) (hc : ∀ j, j < es.length * k → w.cell? ⟨b, o + j, none⟩ = some (c j))
      (hr : ∀ i j, i < es.length → j < k → RV F w ((es.getD i []).getD j (.v undef)) (c (i * k + j))) : RV F w (.sl k es) (.slice (some ⟨b, o, none⟩) n cap)
  | fsl0 (k : Nat) (a : Option Addr) : RV F w (.fsl k []) (.slice a 0 0)
  | fsl (k : Nat) (es : List (List AV)) (b o : Nat) (c : Nat → Value) (n : Nat) (hn : n = es.length) (hk : ∀ e ∈ es, e.length = k ∧ e.all AV.one = true)
      (hF : o + es.length * k ≤ F b) (hc : ∀ j, j < es.length * k → w.cell? ⟨b, o + j, none⟩ = some (c j))
      (hr : ∀ i j, i < es.length → j < k → RV F w ((es.getD i []).getD j (.v undef)) (c (i * k + j))) : RV F w (.fsl k es) (.slice (some ⟨b, o, none⟩) n n)
  | fp (cs : List AV) (b o : Nat) (c : Nat → Value) (h1 : cs.all AV.one = true) (hF : o + cs.length ≤ F b) (hc : ∀ j, j < cs.length → w.cell? ⟨b, o + j, none⟩ = some (c j))
      (hr : ∀ j, j < cs.length → RV F w (cs.getD j (.v undef)) (c j)) : RV F w (.fp cs) (.pointer (some ⟨b, o, none⟩))
  | rp (b k i f : Nat) : RV F w (.rp b k i f) (.pointer (some ⟨b, i * k + f, none⟩))
  | agg (cs : List AV) (vs : Array Value) (hl : vs.size = cs.length) (h : ∀ j, j < cs.length → RV F w (cs.getD j (.v undef)) (vs.getD j undef)) : RV F w (.agg cs) (.agg vs)
  | tup (cs : List AV) (vs : Array Value) (hl : vs.size = cs.length) (h : ∀ j, j < cs.length → RV F w (cs.getD j (.v undef)) (vs.getD j undef)) : RV F w (.tup cs) (.tuple vs)

theorem RV.eq {F : Froz} {w : World} {q x : Value} (h : RV F w (.v q) x) : x = q := by cases h; rfl

/-- What was frozen is as it was, and is still frozen. -/
structure Keeps (F : Froz) (w : World) (F' : Froz) (w' : World) : Prop where
  le : ∀ b, F b ≤ F' b
  cell : ∀ b o, o < F b → w'.cell? ⟨b, o, none⟩ = w.cell? ⟨b, o, none⟩

theorem Keeps.refl (F : Froz) (w : World) : Keeps F w F w := ⟨fun _ => Nat.le_refl _, fun _ _ _ => rfl⟩
theorem Keeps.trans {F1 F2 F3 : Froz} {w1 w2 w3 : World} (h : Keeps F1 w1 F2 w2) (h' : Keeps F2 w2 F3 w3) : Keeps F1 w1 F3 w3 :=
  ⟨fun b => Nat.le_trans (h.le b) (h'.le b), fun b o ho => (h'.cell b o (Nat.lt_of_lt_of_le ho (h.le b))).trans (h.cell b o ho)⟩

theorem RV.mono {F F' : Froz} {w w' : World} (hk : Keeps F w F' w') {a : AV} {x : Value} (h : RV F w a x) : RV F' w' a x := by
  induction h with
  | v x => exact .v x
  | sl0 k a cap => exact .sl0 k a cap
  | sl k es b o c n cap hn hk' hcap hF hc hr ih =>
    exact .sl k es b o c n cap hn hk' hcap (Nat.le_trans hF (hk.le b)) (fun j hj => (hk.cell b (o + j) (by omega)).trans (hc j hj)) ih
  | fsl0 k a => exact .fsl0 k a
  | fsl k es b o c n hn hk' hF hc hr ih =>
    exact .fsl k es b o c n hn hk' (Nat.le_trans hF (hk.le b)) (fun j hj => (hk.cell b (o + j) (by omega)).trans (hc j hj)) ih
  | fp cs b o c h1 hF hc hr ih =>
    exact .fp cs b o c h1 (Nat.le_trans hF (hk.le b)) (fun j hj => (hk.cell b (o + j) (by omega)).trans (hc j hj)) ih
  | rp b k i f => exact .rp b k i f
  | agg cs vs hl h ih => exact .agg cs vs hl ih
  | tup cs vs hl h ih => exact .tup cs vs hl ih

/-- The cells of what is read, one by one. -/
def RVs (F : Froz) (w : World) (cs : List AV) (vs : List Value) : Prop := vs.length = cs.length ∧ ∀ j, j < cs.length → RV F w (cs.getD j (.v undef)) (vs.getD j undef)

theorem RVs.mono {F F' : Froz} {w w' : World} (hk : Keeps F w F' w') {cs : List AV} {vs : List Value} (h : RVs F w cs vs) : RVs F' w' cs vs := ⟨h.1, fun j hj => (h.2 j hj).mono hk⟩

theorem RV.cells {F : Froz} {w : World} {a : AV} {x : Value} (h : RV F w a x) : RVs F w a.cells x.cells.toList := by
  cases h with
  | v x =>
    cases x with
    | agg cs =>
      refine ⟨by simp [AV.cells, Value.cells], fun j hj => ?_⟩
      simp [AV.cells] at hj
      simp [AV.cells, Value.cells, List.getD_eq_getElem?_getD, hj]
      exact .v _
    | _ =>
      refine ⟨by simp [AV.cells, Value.cells], fun j hj => ?_⟩
      simp [AV.cells] at hj
      subst hj
      exact .v _
  | agg cs vs hl h =>
    refine ⟨by simpa [AV.cells, Value.cells] using hl, fun j hj => ?_⟩
    simp only [AV.cells] at hj
    have := h j hj
    simpa [AV.cells, Value.cells] using this
  | sl0 k a cap => exact ⟨rfl, fun j hj => by obtain rfl : j = 0 := by simpa [AV.cells] using hj
                                              exact .sl0 k a cap⟩
  | sl k es b o c n cap hn hk hcap hF hc hr => exact ⟨rfl, fun j hj => by obtain rfl : j = 0 := by simpa [AV.cells] using hj
                                                                          exact .sl k es b o c n cap hn hk hcap hF hc hr⟩
  | fsl0 k a => exact ⟨rfl, fun j hj => by obtain rfl : j = 0 := by simpa [AV.cells] using hj
                                           exact .fsl0 k a⟩
  | fsl k es b o c n hn hk hF hc hr => exact ⟨rfl, fun j hj => by obtain rfl : j = 0 := by simpa [AV.cells] using hj
                                                                  exact .fsl k es b o c n hn hk hF hc hr⟩
  | fp cs b o c h1 hF hc hr => exact ⟨rfl, fun j hj => by obtain rfl : j = 0 := by simpa [AV.cells] using hj
                                                          exact .fp cs b o c h1 hF hc hr⟩
  | rp b k i f => exact ⟨rfl, fun j hj => by obtain rfl : j = 0 := by simpa [AV.cells] using hj
                                             exact .rp b k i f⟩
  | tup cs vs hl h => exact ⟨rfl, fun j hj => by obtain rfl : j = 0 := by simpa [AV.cells] using hj
                                                 exact .tup cs vs hl h⟩

theorem RV.one {F : Froz} {w : World} {a : AV} {x : Value} (h : RV F w a x) (h1 : a.one = true) : x.oneCell' = true := by
  cases h <;> first | exact h1 | rfl | (simp [AV.one] at h1)

/-- A map's entries, one by one. -/
def KVs (F : Froz) (w : World) : List (Value × AV) → List MapEntry → Prop
  | [], [] => True
  | (x, v) :: l, e :: es => e.key = x ∧ RV F w v e.val ∧ KVs F w l es
  | _, _ => False
theorem KVs.mono {F F' : Froz} {w w' : World} (hk : Keeps F w F' w') : ∀ {kv : List (Value × AV)} {es : List MapEntry}, KVs F w kv es → KVs F' w' kv es
  | [], [], h => h
  | (x, v) :: l, e :: es, h => ⟨h.1, h.2.1.mono hk, h.2.2.mono hk⟩
  | [], _ :: _, h => h.elim
  | _ :: _, [], h => h.elim

/-- What is tracked of block b holds in the world. -/
def Holds (F : Froz) (w : World) (b : Nat) : AObj → Prop
  | .cells cs => ∃ c e m, w.heap[b]? = some (.cells c e m) ∧ c.size = cs.length ∧ (∀ i, i < c.size → ¬ (m.1 ≤ i ∧ i < m.2)) ∧ F b = 0 ∧ cs.all AV.one = true ∧ ∀ j, j < cs.length → RV F w (cs.getD j (.v undef)) (c.getD j undef)
  | .rows k es frz cap => ∃ c e m, w.heap[b]? = some (.cells c e m) ∧ cap * k ≤ c.size ∧ es.length ≤ cap ∧ (∀ e ∈ es, e.length = k ∧ e.all AV.one = true) ∧ (∀ i, i < c.size → ¬ (m.1 ≤ i ∧ i < m.2)) ∧ F b = (if frz then es.length * k else 0) ∧
      ∀ i j, i < es.length → j < k → RV F w ((es.getD i []).getD j (.v undef)) (c.getD (i * k + j) undef)
  | .map kv => ∃ es clk, w.heap[b]? = some (.map es clk) ∧ F b = 0 ∧ KVs F w kv es.toList
  | .loop fr n ps assign body st pend => ∃ r, w.heap[b]? = some (.loop r) ∧ F b = 0 ∧ r.params.toList = ps ∧ r.assign = assign ∧ r.body = body ∧ r.state = st ∧ r.pending = pend ∧ r.tmps.size = n ∧ (okCode n assign = true ∧ okCode n body = true ∧ ∀ t ∈ ps, t < n) ∧ ∀ t, t < n → RV F w (fr t) (r.tmps.getD t undef)

/-- Of each block what is tracked holds; of no block more cells are frozen than there are. -/
structure Rel (F : Froz) (w : World) (σ : St) : Prop where
  obj : ∀ b o, σ b = some o → Holds F w b o
  lt : ∀ b, w.heap.size ≤ b → F b = 0

theorem Rel.lt_size {F : Froz} {w : World} {σ : St} (h : Rel F w σ) {b : Nat} {o : AObj} (hb : σ b = some o) : b < w.heap.size := by
  have := h.obj b o hb
  rcases Nat.lt_or_ge b w.heap.size with h' | h'
  · exact h'
  · cases o <;> simp [Holds, Array.getElem?_eq_none h'] at this

/-- From (F, w), of which σ is tracked, to (F', w'), of which σ' is: what was frozen is kept; what was there and was not tracked is as it was, and is not tracked. -/
structure Ext (F : Froz) (w : World) (σ : St) (F' : Froz) (w' : World) (σ' : St) : Prop where
  keeps : Keeps F w F' w'
  os : w'.os = w.os
  tape : w'.tape = w.tape
  output : w'.output = w.output
  size : w.heap.size ≤ w'.heap.size
  old : ∀ b, b < w.heap.size → σ b = none → w'.heap[b]? = w.heap[b]? ∧ σ' b = none ∧ F' b = F b

theorem Ext.refl (F : Froz) (w : World) (σ : St) : Ext F w σ F w σ := ⟨.refl F w, rfl, rfl, rfl, Nat.le_refl _, fun b _ h => ⟨rfl, h, rfl⟩⟩
theorem Ext.trans {F1 F2 F3 : Froz} {w1 w2 w3 : World} {σ1 σ2 σ3 : St} (h : Ext F1 w1 σ1 F2 w2 σ2) (h' : Ext F2 w2 σ2 F3 w3 σ3) : Ext F1 w1 σ1 F3 w3 σ3 :=
  ⟨h.keeps.trans h'.keeps, h'.os.trans h.os, h'.tape.trans h.tape, h'.output.trans h.output, Nat.le_trans h.size h'.size, fun b hb hs => by
    obtain ⟨h1, h2, h3⟩ := h.old b hb hs
    obtain ⟨k1, k2, k3⟩ := h'.old b (Nat.lt_of_lt_of_le hb h.size) h2
    exact ⟨k1.trans h1, k2, k3.trans h3⟩⟩

theorem Keeps.drew (F : Froz) (w : World) : Keeps F w F w.drew := ⟨fun _ => Nat.le_refl _, fun _ _ _ => rfl⟩
theorem Ext.drew {F F' : Froz} {w w' : World} {σ σ' : St} (h : Ext F w σ F' w' σ') : Ext F w σ F' w'.drew σ' :=
  h.trans ⟨.drew _ _, rfl, rfl, rfl, Nat.le_refl _, fun b _ h => ⟨rfl, h, rfl⟩⟩

theorem Holds.mono {F F' : Froz} {w w' : World} (hk : Keeps F w F' w') {b : Nat} {o : AObj} (h : Holds F w b o) (hb : w'.heap[b]? = w.heap[b]?) (hF : F' b = F b) : Holds F' w' b o := by
  cases o with
  | cells cs =>
    obtain ⟨c, e, m, h1, h2, h3, h4, h4', h5⟩ := h
    exact ⟨c, e, m, hb.trans h1, h2, h3, hF.trans h4, h4', fun j hj => (h5 j hj).mono hk⟩
  | rows k es frz cap =>
    obtain ⟨c, e, m, h1, h2, h3, h4, h5, h6, h7⟩ := h
    exact ⟨c, e, m, hb.trans h1, h2, h3, h4, h5, hF.trans h6, fun i j hi hj => (h7 i j hi hj).mono hk⟩
  | map kv =>
    obtain ⟨es, clk, h1, h2, h3⟩ := h
    exact ⟨es, clk, hb.trans h1, hF.trans h2, h3.mono hk⟩
  | loop fr n ps assign body st pend =>
    obtain ⟨r, h1, h2, h3, h4, h5, h6, h7, h8, h9, h10⟩ := h
    exact ⟨r, hb.trans h1, hF.trans h2, h3, h4, h5, h6, h7, h8, h9, fun t ht => (h10 t ht).mono hk⟩

theorem Rel.drew {F : Froz} {w : World} {σ : St} (h : Rel F w σ) : Rel F w.drew σ :=
  ⟨fun b o hb => (h.obj b o hb).mono (.drew F w) rfl rfl, h.lt⟩

def Fr.up (fr : Fr) (t : Nat) (v : AV) : Fr := fun x => if x = t then v else fr x
def Fr.put (fr : Fr) : Option Nat → AV → Fr
  | some t, v => fr.up t v
  | none, _ => fr

structure FrRel (F : Froz) (w : World) (n : Nat) (fr : Fr) (a : Act) : Prop where
  size : a.tmps.size = n
  slot : ∀ t, t < n → RV F w (fr t) (a.tmps.getD t undef)

theorem FrRel.mono {F F' : Froz} {w w' : World} {n : Nat} {fr : Fr} {a : Act} (hk : Keeps F w F' w') (h : FrRel F w n fr a) : FrRel F' w' n fr a :=
  ⟨h.size, fun t ht => (h.slot t ht).mono hk⟩

theorem FrRel.put {F : Froz} {w : World} {n : Nat} {fr : Fr} {a : Act} (h : FrRel F w n fr a) (d : Option Nat) (hd : ∀ t, d = some t → t < n) {v : AV} {x : Value} (hv : RV F w v x) : FrRel F w n (fr.put d v) (a.put d x) := by
  cases d with
  | none => exact h
  | some t =>
    have ht := hd t rfl
    refine ⟨by simpa [Act.put] using h.size, fun s hs => ?_⟩
    simp only [Fr.put, Fr.up, Act.put]
    by_cases hst : s = t
    · subst hst
      rw [if_pos rfl]
      simp [Array.getElem?_setIfInBounds, h.size, ht]
      exact hv
    · rw [if_neg hst]
      have := h.slot s hs
      simp only [Array.getD_eq_getD_getElem?, Array.getElem?_setIfInBounds] at this ⊢
      rw [if_neg (by omega)]
      exact this

/-- A constant as a tree. -/
def ofConst : Value → AV
  | .agg cs => .agg (cs.toList.map .v)
  | .tuple cs => .tup (cs.toList.map .v)
  | x => .v x

theorem RV.ofConst (F : Froz) (w : World) (x : Value) : RV F w (ofConst x) x := by
  cases x <;> first
    | exact .v _
    | (refine .agg _ _ (by simp) (fun j hj => ?_); simp at hj; simp [List.getD_eq_getElem?_getD, hj]; exact .v _)
    | (refine .tup _ _ (by simp) (fun j hj => ?_); simp at hj; simp [List.getD_eq_getElem?_getD, hj]; exact .v _)

def Fr.ev (fr : Fr) : Operand → AV
  | .tmp t => fr t
  | .const v => ofConst v
  | .global g => .v (.pointer (some ⟨g, 0, none⟩))
  | .func f => .v (.func (.func f) #[] #[])

theorem FrRel.ev {F : Froz} {w : World} {n : Nat} {fr : Fr} {a : Act} (h : FrRel F w n fr a) (x : Operand) (hx : opdIn n x = true) : RV F w (fr.ev x) (a.eval x) := by
  cases x with
  | tmp t => exact h.slot t (by simpa [opdIn] using hx)
  | const v => exact .ofConst F w v
  | global g => exact .v _
  | func f => exact .v _

end Go.Av
