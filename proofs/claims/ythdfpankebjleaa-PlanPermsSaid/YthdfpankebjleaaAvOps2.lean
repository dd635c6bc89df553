/-
  The program logic, part 3: stores, addresses, indexes, slices.
  Conditions: none (a library of definitions and lemmas over any program).
-/
import Derived.Test.YthdfpankebjleaaAvOps
set_option linter.unusedVariables false
set_option linter.unusedSimpArgs false
namespace Go.Av
open Go Go.RowKit

/-! ### store -/
theorem heap_setCells_other (b : Nat) : ∀ (vs : List Value) (o : Nat) (w : World) (x : Nat), x ≠ b → (w.setCells b o vs).heap[x]? = w.heap[x]?
  | [], _, _, _, _ => rfl
  | v :: r, o, w, x, h => by rw [World.setCells, heap_setCells_other b r _ _ x h, Below.heap_setCell _ _ _ _ h]

theorem heap_setCells (b : Nat) (e : TypeId) (m : Nat × Nat) : ∀ (vs : List Value) (o : Nat) (w : World) (c : Array Value), w.heap[b]? = some (.cells c e m) →
    ∃ c', (w.setCells b o vs).heap[b]? = some (.cells c' e m) ∧ c'.size = c.size ∧ ∀ j, c'.getD j undef = if o ≤ j ∧ j < o + vs.length ∧ j < c.size then vs.getD (j - o) undef else c.getD j undef
  | [], o, w, c, h => ⟨c, h, rfl, fun j => by rw [if_neg (by simp; omega)]⟩
  | v :: r, o, w, c, h => by
    have h1 : (w.setCell ⟨b, o, none⟩ v).heap[b]? = some (.cells (c.setIfInBounds o v) e m) := by
      simp [World.setCell, Array.getElem?_modify, h]
    obtain ⟨c', g1, g2, g3⟩ := heap_setCells b e m r (o + 1) _ _ h1
    refine ⟨c', g1, by rw [g2]; simp, fun j => ?_⟩
    rw [g3 j]
    simp only [Array.size_setIfInBounds, List.length_cons]
    by_cases h1 : o + 1 ≤ j ∧ j < o + 1 + r.length ∧ j < c.size
    · rw [if_pos h1, if_pos (by omega)]
      rw [show j - o = (j - (o + 1)) + 1 by omega]
      simp
    · rw [if_neg h1]
      by_cases hj : j = o
      · subst hj
        by_cases hlt : j < c.size
        · rw [if_pos (by omega)]
          simp [Array.getD_eq_getD_getElem?, Array.getElem?_setIfInBounds, hlt]
        · rw [if_neg (by omega)]
          simp [Array.getD_eq_getD_getElem?, Array.getElem?_setIfInBounds, hlt, Array.getElem?_eq_none (Nat.le_of_not_lt hlt)]
      · rw [if_neg (by omega)]
        simp only [Array.getD_eq_getD_getElem?, Array.getElem?_setIfInBounds]
        rw [if_neg (by omega)]

theorem size_setCells (b : Nat) : ∀ (vs : List Value) (o : Nat) (w : World), (w.setCells b o vs).heap.size = w.heap.size
  | [], _, _ => rfl
  | v :: r, o, w => by rw [World.setCells, size_setCells b r]; simp
theorem rest_setCells (b : Nat) : ∀ (vs : List Value) (o : Nat) (w : World), (w.setCells b o vs).os = w.os ∧ (w.setCells b o vs).tape = w.tape ∧ (w.setCells b o vs).output = w.output
  | [], _, _ => ⟨rfl, rfl, rfl⟩
  | v :: r, o, w => by rw [World.setCells]; exact rest_setCells b r _ _

def splice (cs : List AV) (o : Nat) (xs : List AV) : List AV := cs.take o ++ xs ++ cs.drop (o + xs.length)
theorem splice_length (cs : List AV) (o : Nat) (xs : List AV) (h : o + xs.length ≤ cs.length) : (splice cs o xs).length = cs.length := by
  simp [splice]; omega
theorem splice_getD (cs : List AV) (o : Nat) (xs : List AV) (h : o + xs.length ≤ cs.length) (j : Nat) (d : AV) :
    (splice cs o xs).getD j d = if o ≤ j ∧ j < o + xs.length then xs.getD (j - o) d else cs.getD j d := by
  simp only [splice, List.getD_eq_getElem?_getD]
  by_cases h1 : j < o
  · rw [if_neg (by omega), List.append_assoc, List.getElem?_append_left (by simp; omega), List.getElem?_take_of_lt h1]
  · by_cases h2 : j < o + xs.length
    · rw [if_pos (by omega), List.append_assoc, List.getElem?_append_right (by simp; omega)]
      have : (cs.take o).length = o := by simp; omega
      rw [this, List.getElem?_append_left (by omega)]
    · rw [if_neg (by omega), List.getElem?_append_right (by simp; omega)]
      have : (cs.take o ++ xs).length = o + xs.length := by simp; omega
      rw [this, List.getElem?_drop]
      congr 2
      omega

theorem splice_one (cs : List AV) (o : Nat) (xs : List AV) (h1 : cs.all AV.one = true) (h2 : xs.all AV.one = true) : (splice cs o xs).all AV.one = true := by
  simp only [splice, List.all_append, Bool.and_eq_true]
  exact ⟨⟨List.all_eq_true.2 fun x hx => List.all_eq_true.1 h1 x (List.mem_of_mem_take hx), h2⟩, List.all_eq_true.2 fun x hx => List.all_eq_true.1 h1 x (List.mem_of_mem_drop hx)⟩

def aStore (i : Option TK) (σ : St) (p x : AV) (k : St → Prop) : Prop :=
  match i with
  | none => False
  | some i => x.cells.length = i.sz ∧ x.cells.all AV.one = true ∧ match p with
    | .v (.pointer (some ⟨b, o, none⟩)) => match σ b with
      | some (.cells cs) => o + i.sz ≤ cs.length ∧ k (σ.set b (.cells (splice cs o x.cells)))
      | _ => False
    | .rp b q j f => match σ b with
      | some (.rows q' es false cap) => q' = q ∧ j < es.length ∧ f + i.sz ≤ q ∧ k (σ.set b (.rows q (es.set j (splice (es.getD j []) f x.cells)) false cap))
      | _ => False
    | _ => False

section
variable {P : Program} {o : Oper} {n : Nat} {fr : Fr} {a : Act} {F : Froz} {w : World} {σ : St} {k : St → Prop}

/-- A store into an unfrozen block b that is tracked. -/
theorem store_ext (hs : Rel F w σ) {b : Nat} {t : AObj} (hb : σ b = some t) (hF : F b = 0) (p : Nat) (vs : List Value) (t' : AObj) (ht : Keeps F w F (w.setCells b p vs) → Holds F (w.setCells b p vs) b t') :
    Rel F (w.setCells b p vs) (σ.set b t') ∧ Ext F w σ F (w.setCells b p vs) (σ.set b t') := by
  have hkp : Keeps F w F (w.setCells b p vs) := ⟨fun _ => Nat.le_refl _, fun x off ho => by
    have hne : x ≠ b := fun e => by subst e; omega
    exact World.cell?_of_block (w := w) (heap_setCells_other b vs p w x hne)⟩
  obtain ⟨e1, e2, e3⟩ := rest_setCells b vs p w
  refine ⟨⟨fun x y hx => ?_, fun x hx => hs.lt x (by rw [size_setCells] at hx; exact hx)⟩, ⟨hkp, e1, e2, e3, by rw [size_setCells]; exact Nat.le_refl _, fun x hx hn => ?_⟩⟩
  · simp only [St.set] at hx
    by_cases hxb : x = b
    · rw [if_pos hxb] at hx
      injection hx with hx
      subst hx
      subst hxb
      exact ht hkp
    · rw [if_neg hxb] at hx
      exact (hs.obj x y hx).mono hkp (heap_setCells_other b vs p w x hxb) rfl
  · have hne : x ≠ b := fun e => by subst e; simp [hb] at hn
    exact ⟨heap_setCells_other b vs p w x hne, by simp [St.set, hne, hn], rfl⟩

theorem run_store_of {t : TypeId} {i : TK} (ht : tk P t = some i) {b p : Nat} {x : Value} (hl : x.cells.size = i.sz) (hone : ∀ v ∈ x.cells.toList, v.oneCell' = true) (hth : w.there b p i.sz) :
    (Instr.storeAt t (.pointer (some ⟨b, p, none⟩)) x).run P w = .ok () (w.setCells b p x.cells.toList) := by
  obtain ⟨inf, d, z, h1, h2, h3, h4, h5, h6, h7, h8⟩ := tk_info ht
  have := run_storeCells_cells (P := P) b p x.cells.toList 0 w (fun j hj => by simpa using (hth j (by simp at hj; omega)).1) (fun j hj => by simpa using (hth j (by simp at hj; omega)).2) hone
  simp only [Nat.add_zero] at this
  simp [Instr.storeAt, Instr.sureAddr, storeVar, run_sizeOf' h1, hl, h5, this]

theorem one_of_RVs {cs : List AV} {vs : List Value} (h : RVs F w cs vs) (h1 : cs.all AV.one = true) : ∀ v ∈ vs, v.oneCell' = true := by
  intro v hv
  obtain ⟨j, hj, rfl⟩ := List.getElem_of_mem hv
  have hj' : j < cs.length := by rw [← h.1]; exact hj
  have h2 := h.2 j hj'
  have e : vs.getD j undef = vs[j] := by simp [List.getD_eq_getElem?_getD, hj]
  rw [e] at h2
  refine h2.one ?_
  have : cs.getD j (.v undef) = cs[j] := by simp [List.getD_eq_getElem?_getD, hj']
  rw [this]
  exact (List.all_eq_true.1 h1) _ (List.getElem_mem hj')

theorem sound_store {t : TypeId} {x y : Operand} (ho : o.op = .store t x y) (hx : opdIn n x = true) (hy : opdIn n y = true) (hf : FrRel F w n fr a) (hs : Rel F w σ) (h : aStore (tk P t) σ (fr.ev x) (fr.ev y) k) : OpOk P o a F w σ fun v σ' => v = .v undef ∧ k σ' := by
  cases ht : tk P t with
  | none => simp [ht, aStore] at h
  | some i =>
    have hv := hf.ev x hx
    have hyc := (hf.ev y hy).cells
    simp only [ht, aStore] at h
    obtain ⟨hl, hone, h⟩ := h
    have hl' : (a.eval y).cells.size = i.sz := by have := hyc.1; simp at this; omega
    have hone' := one_of_RVs hyc hone
    cases hq : fr.ev x with
    | v q =>
      rw [hq] at hv h
      have hv' := hv.eq
      cases q with
      | pointer ad =>
        cases ad with
        | none => simp at h
        | some ad =>
          obtain ⟨b, off, sp⟩ := ad
          cases sp with
          | some _ => simp at h
          | none =>
            simp only at h
            cases hb : σ b with
            | none => simp [hb] at h
            | some ob =>
              cases ob with
              | rows _ _ _ _ => simp [hb] at h
              | map _ => simp [hb] at h
              | loop _ _ _ _ _ _ _ => simp [hb] at h
              | cells cs =>
                simp only [hb] at h
                obtain ⟨c, e, m, g1, g2, g3, g4, g4', g5⟩ := hs.obj b _ hb
                have hth : w.there b off i.sz := fun j hj => by
                  have hlt : off + j < c.size := by omega
                  refine ⟨by simp [World.cell?, g1, hlt], ?_⟩
                  have := g3 (off + j) hlt
                  simp only [World.frozen?, g1]
                  simpa using this
                have hr := run_store_of ht (x := a.eval y) hl' hone' hth
                obtain ⟨c', k1, k2, k3⟩ := heap_setCells b e m (a.eval y).cells.toList off w c g1
                obtain ⟨r1, r2⟩ := store_ext hs hb g4 off (a.eval y).cells.toList (.cells (splice cs off (fr.ev y).cells)) (fun hkp =>
                  ⟨c', e, m, k1, by rw [k2, g2, splice_length _ _ _ (by omega)], by rw [k2]; exact g3, g4, splice_one _ _ _ g4' hone, fun j hj => by
                    rw [splice_length _ _ _ (by omega)] at hj
                    rw [splice_getD _ _ _ (by omega), k3 j]
                    by_cases hin : off ≤ j ∧ j < off + (fr.ev y).cells.length
                    · rw [if_pos hin, if_pos (by rw [hyc.1]; omega)]
                      exact (hyc.2 (j - off) (by omega)).mono hkp
                    · rw [if_neg hin, if_neg (by rw [hyc.1]; omega)]
                      exact (g5 j hj).mono hkp⟩)
                refine opOk_skip ?_ r2 r1 ⟨rfl, h.2⟩
                simp [execOp, ho, hv', hr]
      | _ => simp at h
    | rp b q j f =>
      rw [hq] at hv h
      cases hv' : a.eval x with
      | pointer ad =>
        rw [hv'] at hv
        cases hv
        simp only at h
        cases hb : σ b with
        | none => simp [hb] at h
        | some ob =>
          cases ob with
          | cells _ => simp [hb] at h
          | map _ => simp [hb] at h
          | loop _ _ _ _ _ _ _ => simp [hb] at h
          | rows q' es frz cap =>
            cases frz with
            | true => simp [hb] at h
            | false =>
              simp only [hb] at h
              obtain ⟨rfl, hj, hfq, h⟩ := h
              obtain ⟨c, e, m, g1, g2, g3, g4, g5, g6, g7⟩ := hs.obj b _ hb
              have hlen : (es.getD j []).length = q' := by
                rw [List.getD_eq_getElem?_getD, List.getElem?_eq_getElem hj]
                exact (g4 _ (List.getElem_mem hj)).1
              have hjq : j * q' + q' ≤ c.size := by
                have : (j + 1) * q' ≤ cap * q' := Nat.mul_le_mul_right _ (by omega)
                rw [Nat.succ_mul] at this
                omega
              have hF0 : F b = 0 := by rw [g6]; rfl
              have hone1 : (es.getD j []).all AV.one = true := by
                rw [List.getD_eq_getElem?_getD, List.getElem?_eq_getElem hj]
                exact (g4 _ (List.getElem_mem hj)).2
              have hth : w.there b (j * q' + f) i.sz := fun x hx => by
                have hlt : j * q' + f + x < c.size := by omega
                refine ⟨by simp [World.cell?, g1, hlt], ?_⟩
                have := g5 (j * q' + f + x) hlt
                simp only [World.frozen?, g1]
                simpa using this
              have hr := run_store_of ht (x := a.eval y) hl' hone' hth
              obtain ⟨c', k1, k2, k3⟩ := heap_setCells b e m (a.eval y).cells.toList (j * q' + f) w c g1
              obtain ⟨r1, r2⟩ := store_ext hs hb hF0 (j * q' + f) (a.eval y).cells.toList (.rows q' (es.set j (splice (es.getD j []) f (fr.ev y).cells)) false cap) (fun hkp =>
                ⟨c', e, m, k1, by rw [k2]; exact g2, by simpa using g3, fun e' he' => by
                    rcases List.mem_or_eq_of_mem_set he' with h' | rfl
                    · exact g4 e' h'
                    · exact ⟨by rw [splice_length _ _ _ (by omega), hlen], splice_one _ _ _ hone1 hone⟩, by rw [k2]; exact g5, by rw [g6]; rfl, fun x y' hx hy' => by
                    simp only [List.length_set] at hx
                    rw [k3]
                    by_cases hxj : x = j
                    · subst hxj
                      have e1 : (es.set x (splice (es.getD x []) f (fr.ev y).cells)).getD x [] = splice (es.getD x []) f (fr.ev y).cells := by
                        simp [List.getD_eq_getElem?_getD, hj]
                      rw [e1, splice_getD _ _ _ (by omega)]
                      by_cases hin : f ≤ y' ∧ y' < f + (fr.ev y).cells.length
                      · rw [if_pos hin, if_pos (by rw [hyc.1]; omega)]
                        rw [show x * q' + y' - (x * q' + f) = y' - f by omega]
                        exact (hyc.2 (y' - f) (by omega)).mono hkp
                      · rw [if_neg hin, if_neg (by rw [hyc.1]; omega)]
                        exact (g7 x y' hx hy').mono hkp
                    · have e1 : (es.set j (splice (es.getD j []) f (fr.ev y).cells)).getD x [] = es.getD x [] := by
                        simp [List.getD_eq_getElem?_getD, List.getElem?_set, Ne.symm hxj]
                      rw [e1, if_neg ?_]
                      · exact (g7 x y' hx hy').mono hkp
                      · rw [hyc.1]
                        intro hcon
                        rcases Nat.lt_or_gt_of_ne hxj with hlt | hgt
                        · have : (x + 1) * q' ≤ j * q' := Nat.mul_le_mul_right _ (by omega)
                          rw [Nat.succ_mul] at this
                          omega
                        · have : (j + 1) * q' ≤ x * q' := Nat.mul_le_mul_right _ (by omega)
                          rw [Nat.succ_mul] at this
                          omega⟩)
              refine opOk_skip ?_ r2 r1 ⟨rfl, h⟩
              simp [execOp, ho, hv', hr]
      | _ => rw [hv'] at hv; cases hv
    | _ => rw [hq] at h; simp at h
end
end Go.Av
