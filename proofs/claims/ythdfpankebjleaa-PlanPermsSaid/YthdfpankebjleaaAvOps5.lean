/-
  The program logic, part 6: built structs, arrays and slices; arithmetic, comparisons, conversions.
  Conditions: none (a library of definitions and lemmas over any program).
-/
import Derived.Test.YthdfpankebjleaaAvOps4
set_option linter.unusedVariables false
set_option linter.unusedSimpArgs false
namespace Go.Av
open Go Go.RowKit

section
variable {P : Program} {o : Oper} {n : Nat} {fr : Fr} {a : Act} {F : Froz} {w : World} {σ : St}

theorem fill_one (vs : Array Value) (off : Nat) : ∀ (l : List Value) (s : Nat) (cs : Array Value),
    let r := (l.zipIdx s).foldl (fun cs (c, j) => cs.setIfInBounds (off + j) c) cs
    r.size = cs.size ∧ ∀ x, r.getD x undef = if off + s ≤ x ∧ x < off + s + l.length ∧ x < cs.size then l.getD (x - (off + s)) undef else cs.getD x undef
  | [], s, cs => ⟨rfl, fun x => by simp only [List.zipIdx_nil, List.foldl_nil, List.length_nil]; rw [if_neg (by omega)]⟩
  | v :: l, s, cs => by
    obtain ⟨h1, h2⟩ := fill_one vs off l (s + 1) (cs.setIfInBounds (off + s) v)
    simp only [List.zipIdx_cons, List.foldl_cons]
    refine ⟨by rw [h1]; simp, fun x => ?_⟩
    rw [h2 x]
    simp only [Array.size_setIfInBounds, List.length_cons]
    by_cases c1 : off + (s + 1) ≤ x ∧ x < off + (s + 1) + l.length ∧ x < cs.size
    · rw [if_pos c1, if_pos (by omega), show x - (off + s) = (x - (off + (s + 1))) + 1 by omega]
      simp
    · rw [if_neg c1]
      by_cases hx : x = off + s
      · subst hx
        by_cases hlt : off + s < cs.size
        · rw [if_pos (by omega)]
          simp [Array.getElem?_setIfInBounds, hlt]
        · rw [if_neg (by omega)]
          simp [Array.getElem?_setIfInBounds, hlt, Array.getElem?_eq_none (Nat.le_of_not_lt hlt)]
      · rw [if_neg (by omega)]
        simp only [Array.getD_eq_getD_getElem?, Array.getElem?_setIfInBounds]
        rw [if_neg (by omega)]

/-! ### build -/
def aFill (fs : Nat → Option (Nat × Nat)) (k : AV → Prop) : List AV → List (Nat × AV) → Prop
  | cs, [] => k (.agg cs)
  | cs, (j, x) :: r => match fs j with
    | some (off, sz) => x.cells.length = sz ∧ off + sz ≤ cs.length ∧ aFill fs k (splice cs off x.cells) r
    | none => False

def evs (ev : Operand → AV) (ps : List (Nat × Operand)) : List (Nat × AV) := ps.map fun p => (p.1, ev p.2)

theorem run_fill {k : AV → Prop} (hf : FrRel F w n fr a) (fs : Nat → Option (Nat × Nat)) : ∀ (ps : List (Nat × Operand)) (cs : List AV) (vs : Array Value), (∀ p ∈ ps, opdIn n p.2 = true) → vs.size = cs.length → (∀ j, j < cs.length → RV F w (cs.getD j (.v undef)) (vs.getD j undef)) →
    aFill fs k cs (evs fr.ev ps) → ∃ vs' cs', Instr.fill fs vs (ps.map fun p => (p.1, a.eval p.2)) = some vs' ∧ vs'.size = cs'.length ∧ (∀ j, j < cs'.length → RV F w (cs'.getD j (.v undef)) (vs'.getD j undef)) ∧ k (.agg cs')
  | [], cs, vs, _, hl, hr, h => ⟨vs, cs, rfl, hl, hr, h⟩
  | (j, x) :: ps, cs, vs, hin, hl, hr, h => by
    simp only [evs, List.map_cons, aFill] at h
    cases hj : fs j with
    | none => simp [hj] at h
    | some q =>
      obtain ⟨off, sz⟩ := q
      simp only [hj] at h
      obtain ⟨h1, h2, h3⟩ := h
      have hv := (hf.ev x (hin (j, x) (by simp))).cells
      have hsz : (a.eval x).cells.size = sz := by have := hv.1; simp at this; omega
      obtain ⟨g1, g2⟩ := fill_one vs off (a.eval x).cells.toList 0 vs
      obtain ⟨vs', cs', r1, r2, r3, r4⟩ := run_fill hf fs ps (splice cs off (fr.ev x).cells) _ (fun p hp => hin p (by simp [hp])) (by rw [g1, hl, splice_length _ _ _ (by omega)]) (fun y hy => by
        rw [splice_length _ _ _ (by omega)] at hy
        rw [splice_getD _ _ _ (by omega), g2 y]
        simp only [Nat.add_zero]
        by_cases hin : off ≤ y ∧ y < off + (fr.ev x).cells.length
        · rw [if_pos hin, if_pos (by rw [hv.1]; omega)]
          exact hv.2 (y - off) (by omega)
        · rw [if_neg hin, if_neg (by rw [hv.1]; omega)]
          exact hr y hy) h3
      refine ⟨vs', cs', ?_, r2, r3, r4⟩
      simp only [List.map_cons, Instr.fill, hj]
      rw [if_neg (by simp only [Bool.or_eq_true, decide_eq_true_eq]; omega)]
      rw [← Array.foldl_toList, Array.toList_zipIdx]
      exact r1

def aBuild (i : Option TK) (ps : List (Nat × AV)) (k : AV → Prop) : Prop :=
  match i with
  | some i => match i.td with
    | .st fs => aFill (fun j => (fs[j]?).map fun f => (f.1, f.2.1)) k (i.zr.map .v) ps
    | .arr _ esz _ => aFill (fun j => some (j * esz, esz)) k (i.zr.map .v) ps
    | _ => False
  | none => False

theorem sound_build {k : AV → Prop} {t : TypeId} {ps : Array (Nat × Operand)} (ho : o.op = .build t ps) (hps : ∀ p ∈ ps.toList, opdIn n p.2 = true) (hf : FrRel F w n fr a) (h : aBuild (tk P t) (evs fr.ev ps.toList) k) : Quiet P o a F w k := by
  cases ht : tk P t with
  | none => simp [ht, aBuild] at h
  | some i =>
    obtain ⟨inf, d, z, h1, h2, h3, h4, h5, h6, h7, h8⟩ := tk_info ht
    simp only [ht, aBuild] at h
    have hz : ∀ j, j < (i.zr.map AV.v).length → RV F w ((i.zr.map AV.v).getD j (.v undef)) (z.cells.getD j undef) := fun j hj => by
      simp at hj
      rw [getD_map_v _ _ hj, h6]
      simp
      exact .v _
    have hzl : z.cells.size = (i.zr.map AV.v).length := by rw [h6]; simp
    unfold Quiet
    have hgo : ∀ y, (Instr.build t (ps.map fun (i, x) => (i, a.eval x))).run P w = .ok y w → (execOp a.eval o).run P w = .ok (.value y) w := fun y hy => by
      simp [execOp, ho, hy]
    have hmap : (ps.map fun (i, x) => (i, a.eval x)).toList = ps.toList.map fun p => (p.1, a.eval p.2) := by simp
    cases htd : i.td with
    | st fs =>
      simp only [htd] at h
      obtain ⟨gs, rfl, hgs, hgn⟩ := td_st (P := P) (by rw [← h7, htd])
      obtain ⟨vs', cs', r1, r2, r3, r4⟩ := run_fill hf _ ps.toList (i.zr.map .v) z.cells hps hzl hz h
      have hplaces : ∀ (l : List Field), (∀ f ∈ l, ∃ i, P.info? f.type = some i) → (l.mapM fun f => (do pure (f.offset, ← sizeOf f.type) : Sem (Nat × Nat))).run P w = .ok (l.map fun f => (f.offset, P.cellsOf f.type)) w := by
        intro l
        induction l with
        | nil => intro _; simp
        | cons f l ih =>
          intro hl
          obtain ⟨ii, hii⟩ := hl f (by simp)
          have := ih (fun g hg => hl g (by simp [hg]))
          simp only [List.mapM_cons, Sem.run_bind, run_sizeOf' hii, Result.andThen_ok, Sem.run_pure, this, List.map_cons]
          simp [Program.cellsOf, hii]
      have hinfo : ∀ f ∈ gs.toList, ∃ i, P.info? f.type = some i := fun f hf' => by
        obtain ⟨j, hj, rfl⟩ := List.getElem_of_mem hf'
        have hj' : j < gs.size := by simpa using hj
        obtain ⟨i, e, h, _⟩ := hgs j gs.toList[j] (by simp [hj'])
        exact ⟨i, h⟩
      have hp := hplaces gs.toList hinfo
      have hfs : (fun j : Nat => (fs[j]?).map fun f : Nat × Nat × Bool => (f.1, f.2.1)) = (((gs.toList.map fun f => (f.offset, P.cellsOf f.type)).toArray)[·]?) := by
        funext j
        cases hj : gs[j]? with
        | none =>
          have : fs[j]? = none := by
            cases hq : fs[j]? with
            | none => rfl
            | some q => have := hgn j (by simp [hq]); simp [hj] at this
          simp [this, hj]
        | some g =>
          obtain ⟨i, e, k1, k2, k3⟩ := hgs j g hj
          simp [k3, hj, Program.cellsOf, k1]
      refine ⟨.agg vs', _, hgo _ ?_, .agg _ _ r2 r3, r4⟩
      rw [hfs] at r1
      have hpa : (gs.mapM fun f => (do pure (f.offset, ← sizeOf f.type) : Sem (Nat × Nat))).run P w = .ok ((gs.toList.map fun f => (f.offset, P.cellsOf f.type)).toArray) w := by
        rw [Array.mapM_eq_mapM_toList, map_eq_pure_bind, Sem.run_bind, hp]
        rfl
      simp only [Instr.build, Sem.run_bind, run_zero' h1 h3, Result.andThen_ok, run_underlying h2, hpa, hmap]
      rw [r1]
      simp
    | arr m esz ag =>
      obtain ⟨e, ie, g, rfl, k1, rfl, k3, k4⟩ := td_arr (P := P) (by rw [← h7, htd])
      simp only [htd] at h
      obtain ⟨vs', cs', r1, r2, r3, r4⟩ := run_fill hf _ ps.toList (i.zr.map .v) z.cells hps hzl hz h
      refine ⟨.agg vs', _, hgo _ ?_, .agg _ _ r2 r3, r4⟩
      simp only [Instr.build, Sem.run_bind, run_zero' h1 h3, Result.andThen_ok, run_underlying h2, run_sizeOf' k1, hmap]
      rw [r1]
      simp
    | _ => simp [htd] at h

/-! ### buildSlice: its cells are frozen at once -/
def aFillS (esz : Nat) (k : List (List AV) → Prop) : List (List AV) → List (Nat × AV) → Prop
  | es, [] => k es
  | es, (j, x) :: r => j < es.length ∧ x.cells.length = esz ∧ x.cells.all AV.one = true ∧ aFillS esz k (es.set j x.cells) r

theorem run_fillS {k : List (List AV) → Prop} (hf : FrRel F w n fr a) (q : Nat) : ∀ (ps : List (Nat × Operand)) (es : List (List AV)) (vs : Array Value), (∀ p ∈ ps, opdIn n p.2 = true) → (∀ e ∈ es, e.length = q ∧ e.all AV.one = true) → vs.size = es.length * q →
    (∀ i j, i < es.length → j < q → RV F w ((es.getD i []).getD j (.v undef)) (vs.getD (i * q + j) undef)) → aFillS q k es (evs fr.ev ps) →
    ∃ vs' es', Instr.fill (fun i => some (i * q, q)) vs (ps.map fun p => (p.1, a.eval p.2)) = some vs' ∧ es'.length = es.length ∧ (∀ e ∈ es', e.length = q ∧ e.all AV.one = true) ∧ vs'.size = es'.length * q ∧
      (∀ i j, i < es'.length → j < q → RV F w ((es'.getD i []).getD j (.v undef)) (vs'.getD (i * q + j) undef)) ∧ k es'
  | [], es, vs, _, he, hl, hr, h => ⟨vs, es, rfl, rfl, he, hl, hr, h⟩
  | (j, x) :: ps, es, vs, hin, he, hl, hr, h => by
    simp only [evs, List.map_cons, aFillS] at h
    obtain ⟨h1, h2, h2', h3⟩ := h
    have hv := (hf.ev x (hin (j, x) (by simp))).cells
    have hsz : (a.eval x).cells.size = q := by have := hv.1; simp at this; omega
    have hjq : j * q + q ≤ es.length * q := by rw [← Nat.succ_mul]; exact Nat.mul_le_mul_right _ h1
    obtain ⟨g1, g2⟩ := fill_one vs (j * q) (a.eval x).cells.toList 0 vs
    obtain ⟨vs', es', r1, r2, r3, r4, r5, r6⟩ := run_fillS hf q ps (es.set j (fr.ev x).cells) _ (fun p hp => hin p (by simp [hp])) (fun e hm => by
        rcases List.mem_or_eq_of_mem_set hm with h' | rfl
        · exact he e h'
        · exact ⟨h2, h2'⟩) (by rw [g1, hl]; simp) (fun i y hi hy => by
        simp only [List.length_set] at hi
        rw [g2 (i * q + y)]
        simp only [Nat.add_zero]
        by_cases hij : i = j
        · subst hij
          have e1 : (es.set i (fr.ev x).cells).getD i [] = (fr.ev x).cells := by simp [List.getD_eq_getElem?_getD, hi]
          rw [e1, if_pos (by rw [hv.1]; omega), show i * q + y - i * q = y by omega]
          exact hv.2 y (by omega)
        · have e1 : (es.set j (fr.ev x).cells).getD i [] = es.getD i [] := by simp [List.getD_eq_getElem?_getD, List.getElem?_set, Ne.symm hij]
          rw [e1, if_neg ?_]
          · exact hr i y hi hy
          · rw [hv.1]
            intro hcon
            rcases Nat.lt_or_gt_of_ne hij with hlt | hgt
            · have : (i + 1) * q ≤ j * q := Nat.mul_le_mul_right _ (by omega)
              rw [Nat.succ_mul] at this
              omega
            · have : (j + 1) * q ≤ i * q := Nat.mul_le_mul_right _ (by omega)
              rw [Nat.succ_mul] at this
              omega) h3
    refine ⟨vs', es', ?_, by rw [r2]; simp, r3, r4, r5, r6⟩
    simp only [List.map_cons, Instr.fill]
    rw [if_neg (by simp only [Bool.or_eq_true, decide_eq_true_eq]; omega)]
    rw [← Array.foldl_toList, Array.toList_zipIdx]
    exact r1

def aBuildS (i : Option TK) (len : Nat) (ps : List (Nat × AV)) (k : AV → Prop) : Prop :=
  match i with
  | some i => match i.td with
    | .sl esz _ ez _ => 0 < esz ∧ len * esz ≤ 16777216 ∧ ez.all Value.oneCell' = true ∧ aFillS esz (fun es => k (.fsl esz es)) (List.replicate len (ez.map .v)) ps
    | _ => False
  | none => False

theorem sound_buildS {k : AV → Prop} {t : TypeId} {len : Nat} {ps : Array (Nat × Operand)} (ho : o.op = .buildSlice t len ps) (hps : ∀ p ∈ ps.toList, opdIn n p.2 = true) (hf : FrRel F w n fr a) (hs : Rel F w σ) (h : aBuildS (tk P t) len (evs fr.ev ps.toList) k) :
    OpOk P o a F w σ fun v σ' => σ' = σ ∧ k v := by
  cases ht : tk P t with
  | none => simp [ht, aBuildS] at h
  | some i =>
    obtain ⟨inf, d, z, h1, h2, h3, h4, h5, h6, h7, h8⟩ := tk_info ht
    simp only [ht, aBuildS] at h
    cases htd : i.td with
    | sl q eby ez byt =>
      obtain ⟨e, ie, ze, rfl, k1, rfl, k3, k4, rfl, k6, k7⟩ := td_sl (P := P) (by rw [← h7, htd])
      simp only [htd] at h
      obtain ⟨hq, hsmall, hez, h⟩ := h
      have hzl : (ze.cells.toList.map AV.v).length = ie.size := by simp [k6]
      have hlit : ∀ x, x < len * ie.size → ((Array.range (len * ie.size)).map (ze.cells[· % ze.cells.size]!)).getD x undef = ze.cells.getD (x % ie.size) undef := fun x hx => by
        have hm : x % ie.size < ze.cells.size := by rw [k6]; exact Nat.mod_lt _ hq
        simp [hx, k6, Nat.mod_lt x hq]
      obtain ⟨vs', es', r1, r2, r3, r4, r5, r6⟩ := run_fillS hf ie.size ps.toList (List.replicate len (ze.cells.toList.map .v)) ((Array.range (len * ie.size)).map (ze.cells[· % ze.cells.size]!)) hps (fun e he => by
          obtain ⟨_, rfl⟩ := List.mem_replicate.1 he
          exact ⟨hzl, by rw [List.all_map]; exact hez⟩) (by simp) (fun i j hi hj => by
          simp only [List.length_replicate] at hi
          have hlt : i * ie.size + j < len * ie.size := by
            have : (i + 1) * ie.size ≤ len * ie.size := Nat.mul_le_mul_right _ hi
            rw [Nat.succ_mul] at this
            omega
          rw [hlit _ hlt, Nat.mul_comm i ie.size, Nat.mul_add_mod, Nat.mod_eq_of_lt hj]
          have e1 : (List.replicate len (ze.cells.toList.map AV.v)).getD i [] = ze.cells.toList.map AV.v := by simp [List.getD_eq_getElem?_getD, hi]
          rw [e1, getD_map_v _ _ (by simp [k6]; exact hj)]
          simp
          exact .v _) h
      simp only [List.length_replicate] at r2
      have hkp := keeps_frz hs (.cells vs' e) (len * ie.size)
      obtain ⟨q1, q2⟩ := rel_frz hs (.cells vs' e) (len * ie.size)
      refine opOk_value (x := .slice (some ⟨w.heap.size, 0, none⟩) len len) ?_ q2 q1 ?_ ⟨rfl, r6⟩
      · have hmap : (ps.map fun (i, x) => (i, a.eval x)).toList = ps.toList.map fun p => (p.1, a.eval p.2) := by simp
        have hns : ¬ len * ie.size > 2 ^ 24 := by omega
        by_cases h0 : len * ie.size = 0
        · have hrep : ((Array.range (len * ie.size)).map ((#[] : Array Value)[· % (#[] : Array Value).size]!)) = ((Array.range (len * ie.size)).map (ze.cells[· % ze.cells.size]!)) := by
            rw [h0]; simp
          simp only [execOp, ho, Instr.buildSlice, Sem.run_bind, run_underlying h2, Result.andThen_ok, run_sizeOf' k1, hns, if_false, h0, if_true, Sem.run_pure, hmap]
          rw [h0] at hrep r1
          simp only [pure_bind, hrep]
          rw [r1]
          simp [newRow]
        · simp only [execOp, ho, Instr.buildSlice, Sem.run_bind, run_underlying h2, Result.andThen_ok, run_sizeOf' k1, hns, if_false, h0, run_zero' k1 k4, Sem.run_pure, hmap]
          rw [r1]
          simp [newRow]
      · rcases Nat.eq_zero_or_pos len with h0 | h0
        · subst h0
          obtain rfl : es' = [] := List.eq_nil_of_length_eq_zero r2
          exact .fsl0 _ _
        · refine .fsl ie.size es' w.heap.size 0 (fun j => vs'.getD j undef) len r2.symm r3 (by unfold frzAt; rw [if_pos rfl, r2]; omega) (fun j hj => ?_) (fun i j hi hj => (r5 i j hi hj).mono hkp)
          have hlt : j < vs'.size := by rw [r4]; exact hj
          rw [Nat.zero_add, World.cell?_alloc_new]
          simp [hlt]
    | _ => simp [htd] at h
end
end Go.Av
