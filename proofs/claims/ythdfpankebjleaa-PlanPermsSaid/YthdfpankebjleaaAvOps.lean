/-
  The program logic, part 2: what each operation does to trees and tracked blocks; and that it does so.
  Conditions: none (a library of definitions and lemmas over any program).
-/
import Derived.Test.YthdfpankebjleaaAvBase
import Derived.Maps.AppendAt
import Derived.Laws.BytesArg
import Derived.Laws.Slices
import Derived.Laws.MakeOwn
import Derived.Lib.ConvBytes
import Derived.RangeFuncLeaves
set_option linter.unusedVariables false
set_option linter.unusedSimpArgs false
namespace Go.Av
open Go Go.RowKit

/-- The kind of a type. `sl`: the element's cells, bytes and zero cells, is it a byte?; `arr`: how many, the element's cells, is the element a struct or an array?; `st`: of each field its offset, its cells, is it a struct or an array? -/
inductive TD where
  | int (k : IntKind)
  | bool
  | str
  | ptr (e : TypeId)
  | sl (esz eby : Nat) (ez : List Value) (byt : Bool)
  | arr (n esz : Nat) (eag : Bool)
  | st (fs : List (Nat × Nat × Bool))
  | map (k e : TypeId)
  | iface
  | other

/-- What the operations ask of a type. -/
structure TK where
  ag : Bool
  sz : Nat
  zr : List Value
  td : TD

def tdOf (P : Program) : TypeDesc → TD
  | .int k => .int k
  | .bool => .bool
  | .string => .str
  | .pointer e => .ptr e
  | .slice e => match P.info? e with
    | some i => match i.zero with
      | some z => if z.cells.size = i.size then .sl i.size i.bytes z.cells.toList (match P.underlying e with | some (.int .u8) => true | _ => false) else .other
      | none => .other
    | none => .other
  | .array n e => match P.info? e with
    | some i => match P.underlying e with
      | some d => .arr n i.size d.isRow
      | none => .other
    | none => .other
  | .struct fs => if fs.toList.all (fun f => (P.info? f.type).isSome && (P.underlying f.type).isSome) then .st (fs.toList.map fun f => (f.offset, P.cellsOf f.type, match P.underlying f.type with | some d => d.isRow | none => false)) else .other
  | .map k e => .map k e
  | .interface _ => .iface
  | _ => .other

def isAggV : Value → Bool
  | .agg _ => true
  | _ => false
/-- The zero value, as a tree. -/
def TK.zav (k : TK) : AV := if k.ag then .agg (k.zr.map .v) else .v (k.zr.headD undef)
def tk (P : Program) (t : TypeId) : Option TK :=
  match P.info? t with
  | some i => match P.underlying t with
    | some d => match i.zero with
      | some z => if z.cells.toList.all Value.oneCell' && (isAggV z == d.isRow) then some { ag := d.isRow, sz := i.size, zr := z.cells.toList, td := tdOf P d } else none
      | none => none
    | none => none
  | none => none

section
variable {P : Program}
theorem tk_info {t : TypeId} {k : TK} (h : tk P t = some k) : ∃ i d z, P.info? t = some i ∧ P.underlying t = some d ∧ i.zero = some z ∧ k.ag = d.isRow ∧ k.sz = i.size ∧ k.zr = z.cells.toList ∧ k.td = tdOf P d ∧ k.zr.all Value.oneCell' = true := by
  unfold tk at h
  cases hi : P.info? t with
  | none => simp [hi] at h
  | some i =>
    cases hd : P.underlying t with
    | none => simp [hi, hd] at h
    | some d =>
      cases hz : i.zero with
      | none => simp [hi, hd, hz] at h
      | some z =>
        simp only [hi, hd, hz] at h
        split at h
        · rename_i hone
          replace hone := (Bool.and_eq_true _ _ ▸ hone : _ ∧ _).1
          simp only [Option.some.injEq] at h
          subst h
          exact ⟨i, d, z, rfl, rfl, hz, rfl, rfl, rfl, rfl, hone⟩
        · cases h

theorem tk_zero {t : TypeId} {k : TK} (h : tk P t = some k) (F : Froz) (w : World) : ∃ i z, P.info? t = some i ∧ i.zero = some z ∧ RV F w k.zav z := by
  unfold tk at h
  cases hi : P.info? t with
  | none => simp [hi] at h
  | some i =>
    cases hd : P.underlying t with
    | none => simp [hi, hd] at h
    | some d =>
      cases hz : i.zero with
      | none => simp [hi, hd, hz] at h
      | some z =>
        simp only [hi, hd, hz] at h
        split at h
        · rename_i hone
          have hag := (Bool.and_eq_true _ _ ▸ hone : _ ∧ _).2
          simp only [Option.some.injEq] at h
          subst h
          refine ⟨i, z, rfl, hz, ?_⟩
          unfold TK.zav
          simp only
          rw [beq_iff_eq] at hag
          rw [← hag]
          cases z with
          | agg cs => exact RV.ofConst F w (.agg cs)
          | _ => exact RV.v _
        · cases h

theorem run_isAgg {t : TypeId} {d : TypeDesc} (h : P.underlying t = some d) (w : World) : (isAgg t).run P w = .ok d.isRow w := by
  unfold isAgg
  rw [Sem.run_bind, run_underlying h w]
  cases d <;> simp [TypeDesc.isRow]

theorem run_sizeOf' {t : TypeId} {i : TypeInfo} (h : P.info? t = some i) (w : World) : (sizeOf t).run P w = .ok i.size w := by
  simp [sizeOf, typeInfo, h]
theorem run_zero' {t : TypeId} {i : TypeInfo} {z : Value} (h : P.info? t = some i) (hz : i.zero = some z) (w : World) : (zeroValue t).run P w = .ok z w := by
  simp [zeroValue, typeInfo, h, hz]
end

/-! ### The operation is carried out -/
/-- The fence that lets all in, within a round or not. -/
def wd (ro : Option Nat) : Fence := { Fence.wide with round := ro }
theorem semAt_of {P : Program} {o : Oper} {ρ : Operand → Value} {w w' : World} {y : Next} (ro : Option Nat) (hr : (execOp ρ o).run P w = .ok y w') (hy : ∀ d, y ≠ .defer d) : o.semAt ro ρ = execOp ρ o :=
  Oper.semAt_eq _ _ _ fun c hc => by
    simp only [execOp, hc, Sem.run_bind] at hr
    cases hq : (resolve ρ c o.type).run P w with
    | ok d w2 =>
      rw [hq] at hr
      simp only [Result.andThen_ok, Sem.run_pure] at hr
      injection hr with hr _
      exact hy _ hr.symm
    | _ => rw [hq] at hr; cases hr
/-- Called as a deferred call where nothing panics, the function does nothing. -/
def IdleF (P : Program) (f : FuncId) (vs : Array Value) : Prop :=
  ∀ w, CallsDIn Fence.wide 0 P f vs .returning w fun e u' w' => (∃ v, e = .returned v) ∧ u' = .returning ∧ w' = w
def IdleD (P : Program) (d : Deferred) : Prop :=
  ∃ fv cap f args, d.target = .fn fv cap ∧ (∀ w, (invoke d.target d.args).run P w = .ok (.enter f args) w) ∧ IdleF P f args
/-- Wherever what is tracked holds, the operation comes to a value, and on to k. -/
def OpOk (P : Program) (o : Oper) (a : Act) (F : Froz) (w : World) (σ : St) (k : AV → St → Prop) : Prop :=
  ∀ (ro : Option Nat) (next : Act → World → Prop) (Q : Exit → Act → World → Prop), (ro = none ∨ notDefer o.op = true) →
    (∀ F' w' x v σ' ds, Ext F w σ F' w' σ' → Rel F' w' σ' → RV F' w' v x → k v σ' → (∀ d ∈ ds, IdleD P d) → next { (a.put o.dst x) with defers := ds ++ a.defers } w') → o.wpIn (wd ro) 0 P a w next Q
theorem put_none (a : Act) (d : Option Nat) (x : Value) : ({ (a.put d x) with defers := [] ++ a.defers } : Act) = a.put d x := by cases d <;> rfl
theorem put_some (a : Act) (d : Option Nat) (x : Value) (l : List Deferred) : ({ a with defers := l ++ a.defers } : Act).put d x = { (a.put d x) with defers := l ++ a.defers } := by cases d <;> rfl

section
variable {P : Program} {o : Oper} {a : Act} {F : Froz} {w : World} {σ : St} {k : AV → St → Prop}
theorem next0 {next : Act → World → Prop} (hn : ∀ F' w' x v σ' ds, Ext F w σ F' w' σ' → Rel F' w' σ' → RV F' w' v x → k v σ' → (∀ d ∈ ds, IdleD P d) → next { (a.put o.dst x) with defers := ds ++ a.defers } w') :
    ∀ F' w' x v σ', Ext F w σ F' w' σ' → Rel F' w' σ' → RV F' w' v x → k v σ' → next (a.put o.dst x) w' := fun F' w' x v σ' h1 h2 h3 h4 => by
  have := hn F' w' x v σ' [] h1 h2 h3 h4 (fun d hd => by cases hd)
  rw [put_none] at this
  exact this
theorem opOk_value {x : Value} {v : AV} {F' : Froz} {w' : World} {σ' : St} (hr : (execOp a.eval o).run P w = .ok (.value x) w') (he : Ext F w σ F' w' σ') (hs : Rel F' w' σ') (hv : RV F' w' v x) (hk : k v σ') : OpOk P o a F w σ k := by
  intro ro next Q _ hn
  refine ⟨fun _ _ => trivial, ?_⟩
  rw [semAt_of _ hr (fun d h => by cases h), hr]
  have := hn F' w' x v σ' [] he hs hv hk (fun d hd => by cases hd)
  rw [put_none] at this
  exact this
theorem opOk_pure {x : Value} {v : AV} (hs : Rel F w σ) (hr : (execOp a.eval o).run P w = .ok (.value x) w) (hv : RV F w v x) (hk : k v σ) : OpOk P o a F w σ k :=
  opOk_value hr (.refl F w σ) hs hv hk
theorem opOk_skip {F' : Froz} {w' : World} {σ' : St} (hr : (execOp a.eval o).run P w = .ok .skip w') (he : Ext F w σ F' w' σ') (hs : Rel F' w' σ') (hk : k (.v undef) σ') : OpOk P o a F w σ k := by
  intro ro next Q _ hn
  refine ⟨fun _ _ => trivial, ?_⟩
  rw [semAt_of _ hr (fun d h => by cases h), hr]
  have := hn F' w' undef (.v undef) σ' [] he hs (.v _) hk (fun d hd => by cases hd)
  rw [put_none] at this
  exact this
end

/-! ### New blocks -/
section
variable {F : Froz} {w : World} {σ : St}
theorem fresh_none (h : Rel F w σ) {b : Nat} (hb : w.heap.size ≤ b) : σ b = none := by
  cases hs : σ b with
  | none => rfl
  | some o => exact absurd (h.lt_size hs) (by omega)

theorem Keeps.alloc (h : Rel F w σ) (o : Obj) : Keeps F w F (w.alloc o) :=
  ⟨fun _ => Nat.le_refl _, fun b off ho => by
    have : b < w.heap.size := by
      rcases Nat.lt_or_ge b w.heap.size with h' | h'
      · exact h'
      · have := h.lt b h'; omega
    exact World.cell?_alloc_lt w o _ this⟩

/-- A new block, tracked. -/
theorem rel_alloc (h : Rel F w σ) (o : Obj) (t : AObj) (ht : Holds F (w.alloc o) w.heap.size t) : Rel F (w.alloc o) (σ.set w.heap.size t) ∧ Ext F w σ F (w.alloc o) (σ.set w.heap.size t) := by
  have hkp := Keeps.alloc h o
  refine ⟨⟨fun b x hb => ?_, fun b hb => h.lt b (by simp at hb; omega)⟩, ⟨hkp, rfl, rfl, rfl, by simp, fun b hb hs => ⟨Below.heap_alloc w o b hb, ?_, rfl⟩⟩⟩
  · simp only [St.set] at hb
    by_cases hbb : b = w.heap.size
    · rw [if_pos hbb] at hb
      injection hb with hb
      subst hb
      subst hbb
      exact ht
    · rw [if_neg hbb] at hb
      exact (h.obj b x hb).mono hkp (Below.heap_alloc w o b (h.lt_size hb)) rfl
  · simp only [St.set]
    rw [if_neg (by omega)]
    exact hs

/-- A new block of cells, frozen at once, not tracked. -/
def frzAt (F : Froz) (b n : Nat) : Froz := fun x => if x = b then n else F x
theorem keeps_frz (h : Rel F w σ) (o : Obj) (n : Nat) : Keeps F w (frzAt F w.heap.size n) (w.alloc o) :=
  ⟨fun b => by
      unfold frzAt
      split
      · rename_i hb; rw [hb, h.lt _ (Nat.le_refl _)]; exact Nat.zero_le _
      · exact Nat.le_refl _, (Keeps.alloc h o).cell⟩
theorem rel_frz (h : Rel F w σ) (o : Obj) (n : Nat) : Rel (frzAt F w.heap.size n) (w.alloc o) σ ∧ Ext F w σ (frzAt F w.heap.size n) (w.alloc o) σ := by
  have hkp := keeps_frz h o n
  refine ⟨⟨fun b x hb => ?_, fun b hb => ?_⟩, ⟨hkp, rfl, rfl, rfl, by simp, fun b hb hs => ⟨Below.heap_alloc w o b hb, hs, ?_⟩⟩⟩
  · have hlt := h.lt_size hb
    exact (h.obj b x hb).mono hkp (Below.heap_alloc w o b hlt) (by unfold frzAt; rw [if_neg (by omega)])
  · simp at hb
    unfold frzAt
    rw [if_neg (by omega)]
    exact h.lt b (by omega)
  · unfold frzAt
    rw [if_neg (by omega)]
end

theorem getD_map_v (l : List Value) (j : Nat) (hj : j < l.length) : (l.map AV.v).getD j (.v undef) = .v (l.getD j undef) := by
  simp [List.getD_eq_getElem?_getD, hj]
theorem RVs.ofVals (F : Froz) (w : World) (l : List Value) : RVs F w (l.map .v) l := ⟨by simp, fun j hj => by
  simp at hj
  rw [getD_map_v l j hj]
  exact .v _⟩

/-! ### alloc, box -/
def aAlloc (i : Option TK) (σ : St) (k : AV → St → Prop) : Prop :=
  match i with
  | some i => ∀ b, σ b = none → k (.v (.pointer (some ⟨b, 0, none⟩))) (σ.set b (.cells (i.zr.map .v)))
  | none => False
def aBox (x : AV) (σ : St) (k : AV → St → Prop) : Prop := x.cells.all AV.one = true ∧ ∀ b, σ b = none → k (.v (.pointer (some ⟨b, 0, none⟩))) (σ.set b (.cells x.cells))

theorem holds_new {F : Froz} {w : World} {σ : St} (h : Rel F w σ) {cs : List AV} {vs : Array Value} (e : TypeId) (hv : RVs F w cs vs.toList) (h1 : cs.all AV.one = true) : Holds F (w.alloc (.cells vs e)) w.heap.size (.cells cs) := by
  have hkp := Keeps.alloc h (.cells vs e)
  have hl : vs.size = cs.length := by have := hv.1; simpa using this
  refine ⟨vs, e, (0, 0), heap_alloc_new w _, hl, fun i _ hi => by simp at hi, h.lt _ (Nat.le_refl _), h1, fun j hj => ?_⟩
  have := (hv.2 j hj).mono hkp
  simpa using this

section
variable {P : Program} {o : Oper} {n : Nat} {fr : Fr} {a : Act} {F : Froz} {w : World} {σ : St} {k : AV → St → Prop}
theorem sound_alloc {e : TypeId} (ho : o.op = .alloc e) (hs : Rel F w σ) (h : aAlloc (tk P e) σ k) : OpOk P o a F w σ k := by
  cases ht : tk P e with
  | none => simp [ht, aAlloc] at h
  | some i =>
    obtain ⟨inf, d, z, h1, h2, h3, h4, h5, h6, h7, h8⟩ := tk_info ht
    simp only [ht, aAlloc] at h
    obtain ⟨r1, r2⟩ := rel_alloc hs (.cells z.cells e) (.cells (i.zr.map .v)) (holds_new hs e (by rw [h6]; exact RVs.ofVals F w _) (by rw [List.all_map]; exact h8))
    refine opOk_value (x := .pointer (some ⟨w.heap.size, 0, none⟩)) ?_ r2 r1 (.v _) (h _ (fresh_none hs (Nat.le_refl _)))
    simp [execOp, ho, Instr.alloc, run_zero' h1 h3, newVar, newRow]
theorem sound_box {e : TypeId} {x : Operand} (ho : o.op = .box e x) (hx : opdIn n x = true) (hf : FrRel F w n fr a) (hs : Rel F w σ) (h : aBox (fr.ev x) σ k) : OpOk P o a F w σ k := by
  have hv := (hf.ev x hx).cells
  obtain ⟨r1, r2⟩ := rel_alloc hs (.cells (a.eval x).cells e) (.cells (fr.ev x).cells) (holds_new hs e hv h.1)
  refine opOk_value (x := .pointer (some ⟨w.heap.size, 0, none⟩)) ?_ r2 r1 (.v _) (h.2 _ (fresh_none hs (Nat.le_refl _)))
  simp [execOp, ho, Instr.box, newVar, newRow]
end

/-! ### load, store, addresses -/
def aLoad (i : Option TK) (σ : St) (p : AV) (k : AV → Prop) : Prop :=
  match i with
  | none => False
  | some i => match p with
    | .fp cs => if i.ag then i.sz ≤ cs.length ∧ k (.agg (cs.take i.sz)) else 0 < cs.length ∧ k (cs.getD 0 (.v undef))
    | .v (.pointer (some ⟨b, o, none⟩)) => match σ b with
      | some (.cells cs) => if i.ag then o + i.sz ≤ cs.length ∧ k (.agg ((cs.drop o).take i.sz)) else o < cs.length ∧ k (cs.getD o (.v undef))
      | _ => False
    | .rp b q j f => match σ b with
      | some (.rows q' es _ _) => q' = q ∧ j < es.length ∧ (if i.ag then f + i.sz ≤ q ∧ k (.agg (((es.getD j []).drop f).take i.sz)) else f < q ∧ k ((es.getD j []).getD f (.v undef)))
      | _ => False
    | _ => False

/-- The cells o, o + 1, .. of cs lie in block b from offset p on. -/
theorem run_load_of {P : Program} {w : World} {t : TypeId} {i : TK} (ht : tk P t = some i) {F : Froz} {cs : List AV} {b p o : Nat} {c : Nat → Value}
    (hc : ∀ j, j < cs.length → w.cell? ⟨b, p + j, none⟩ = some (c j)) (hr : ∀ j, j < cs.length → RV F w (cs.getD j (.v undef)) (c j))
    (hag : i.ag = true → o + i.sz ≤ cs.length) (hna : i.ag = false → o < cs.length) :
    ∃ x, (Instr.loadAt t (.pointer (some ⟨b, p + o, none⟩))).run P w = .ok x w ∧ RV F w (if i.ag then .agg ((cs.drop o).take i.sz) else cs.getD o (.v undef)) x := by
  obtain ⟨inf, d, z, h1, h2, h3, h4, h5, h6, h7, h8⟩ := tk_info ht
  cases hg : i.ag with
  | true =>
    have hl := hag hg
    have hvl : (((List.range i.sz).map fun j => c (o + j)) : List Value).length = i.sz := by simp
    refine ⟨.agg ((List.range i.sz).map fun j => c (o + j)).toArray, ?_, ?_⟩
    · refine run_loadAt_mid w b (p + o) t _ d (fun j v hv => ?_) h2 (by rw [← h4, hg]) (by rw [h1, hvl]; simp [h5])
      simp only [List.getElem?_map, List.getElem?_range] at hv
      have hj : j < i.sz := by
        rcases Nat.lt_or_ge j i.sz with h | h
        · exact h
        · rw [List.getElem?_eq_none (by simpa using h)] at hv; simp at hv
      simp [List.getElem?_range, hj] at hv
      subst hv
      have := hc (o + j) (by omega)
      rwa [← Nat.add_assoc] at this
    · rw [if_pos rfl]
      refine .agg _ _ (by simp; omega) (fun j hj => ?_)
      have hj' : j < i.sz := by simp at hj; omega
      have e1 : ((cs.drop o).take i.sz).getD j (.v undef) = cs.getD (o + j) (.v undef) := by
        simp [List.getD_eq_getElem?_getD, List.getElem?_take, hj', List.getElem?_drop]
      have e2 : (((List.range i.sz).map fun j => c (o + j)).toArray).getD j undef = c (o + j) := by
        simp [hj']
      rw [e1, e2]
      exact hr (o + j) (by omega)
  | false =>
    have hl := hna hg
    refine ⟨c o, ?_, by simpa using hr o hl⟩
    have ha := run_isAgg (P := P) h2 w
    rw [← h4, hg] at ha
    simp [Instr.loadAt, Instr.sureAddr, loadVar, ha, hc o hl]

section
variable {P : Program} {o : Oper} {n : Nat} {fr : Fr} {a : Act} {F : Froz} {w : World} {σ : St} {k : AV → Prop}
theorem sound_load {t : TypeId} {x : Operand} (ho : o.op = .load t x) (hx : opdIn n x = true) (hf : FrRel F w n fr a) (hs : Rel F w σ) (h : aLoad (tk P t) σ (fr.ev x) k) : OpOk P o a F w σ fun v σ' => σ' = σ ∧ k v := by
  cases ht : tk P t with
  | none => simp [ht, aLoad] at h
  | some i =>
    have hv := hf.ev x hx
    have fin : ∀ y v, (Instr.loadAt t (a.eval x)).run P w = .ok y w → RV F w v y → k v → OpOk P o a F w σ fun v σ' => σ' = σ ∧ k v := by
      intro y v hr hv hk
      refine opOk_pure hs (x := y) ?_ hv ⟨rfl, hk⟩
      simp [execOp, ho, hr]
    simp only [ht, aLoad] at h
    cases hq : fr.ev x with
    | fp cs =>
      rw [hq] at hv h
      simp only at h
      cases hv' : a.eval x with
      | pointer q =>
        rw [hv'] at hv
        cases hv with
        | fp _ b off c hone hF hc hr =>
          have hag : i.ag = true → 0 + i.sz ≤ cs.length := fun hg => by rw [if_pos hg] at h; omega
          have hna : i.ag = false → 0 < cs.length := fun hg => by rw [if_neg (by simp [hg])] at h; exact h.1
          obtain ⟨y, hy, hyv⟩ := run_load_of ht (o := 0) hc hr hag hna
          refine fin y _ (by rw [hv']; exact hy) hyv ?_
          cases hg : i.ag with
          | true => rw [if_pos hg] at h; simpa using h.2
          | false => rw [if_neg (by simp [hg])] at h; simpa using h.2
      | _ => rw [hv'] at hv; cases hv
    | v q =>
      rw [hq] at hv h
      have hv' := hv.eq
      cases q with
      | pointer ad =>
        cases ad with
        | none => simp at h
        | some ad =>
          obtain ⟨b, off, sp⟩ := ad
          cases sp with
          | some _ => simp at h
          | none =>
            simp only at h
            cases hb : σ b with
            | none => simp [hb] at h
            | some ob =>
              cases ob with
              | rows _ _ _ _ => simp [hb] at h
              | map _ => simp [hb] at h
              | loop _ _ _ _ _ _ _ => simp [hb] at h
              | cells cs =>
                simp only [hb] at h
                obtain ⟨c, e, m, g1, g2, g3, g4, g4', g5⟩ := hs.obj b _ hb
                have hcell : ∀ j, j < cs.length → w.cell? ⟨b, 0 + j, none⟩ = some (c.getD j undef) := fun j hj => by
                  simp [World.cell?, g1, Array.getD_eq_getD_getElem?, g2, hj]
                have hag : i.ag = true → off + i.sz ≤ cs.length := fun hg => by rw [if_pos hg] at h; exact h.1
                have hna : i.ag = false → off < cs.length := fun hg => by rw [if_neg (by simp [hg])] at h; exact h.1
                obtain ⟨y, hy, hyv⟩ := run_load_of ht (o := off) hcell g5 hag hna
                rw [Nat.zero_add] at hy
                refine fin y _ (by rw [hv']; exact hy) hyv ?_
                cases hg : i.ag with
                | true => rw [if_pos hg] at h; simpa using h.2
                | false => rw [if_neg (by simp [hg])] at h; simpa using h.2
      | _ => simp at h
    | rp b q j f =>
      rw [hq] at hv h
      cases hv' : a.eval x with
      | pointer ad =>
        rw [hv'] at hv
        cases hv
        simp only at h
        cases hb : σ b with
        | none => simp [hb] at h
        | some ob =>
          cases ob with
          | cells _ => simp [hb] at h
          | map _ => simp [hb] at h
          | loop _ _ _ _ _ _ _ => simp [hb] at h
          | rows q' es frz cap =>
            simp only [hb] at h
            obtain ⟨rfl, hj, h⟩ := h
            obtain ⟨c, e, m, g1, g2, g3, g4, g5, g6, g7⟩ := hs.obj b _ hb
            have hlen : (es.getD j []).length = q' := by
              rw [List.getD_eq_getElem?_getD, List.getElem?_eq_getElem hj]
              exact (g4 _ (List.getElem_mem hj)).1
            have hjq : j * q' + q' ≤ c.size := by
              have : (j + 1) * q' ≤ cap * q' := Nat.mul_le_mul_right _ (by omega)
              rw [Nat.succ_mul] at this
              omega
            have hcell : ∀ x, x < (es.getD j []).length → w.cell? ⟨b, j * q' + x, none⟩ = some (c.getD (j * q' + x) undef) := fun x hx => by
              have hlt : j * q' + x < c.size := by omega
              simp [World.cell?, g1, Array.getD_eq_getD_getElem?, hlt]
            have hag : i.ag = true → f + i.sz ≤ (es.getD j []).length := fun hg => by rw [if_pos hg] at h; omega
            have hna : i.ag = false → f < (es.getD j []).length := fun hg => by rw [if_neg (by simp [hg])] at h; omega
            obtain ⟨y, hy, hyv⟩ := run_load_of ht (o := f) hcell (fun x hx => g7 j x hj (by omega)) hag hna
            refine fin y _ (by rw [hv']; exact hy) hyv ?_
            cases hg : i.ag with
            | true => rw [if_pos hg] at h; simpa using h.2
            | false => rw [if_neg (by simp [hg])] at h; simpa using h.2
      | _ => rw [hv'] at hv; cases hv
    | _ => rw [hq] at h; simp at h
end

end Go.Av
