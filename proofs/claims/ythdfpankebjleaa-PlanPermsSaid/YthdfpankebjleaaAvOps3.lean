/-
  The program logic, part 4: addresses, indexes, fields, slices, built values.
  Conditions: none (a library of definitions and lemmas over any program).
-/
import Derived.Test.YthdfpankebjleaaAvOps2
set_option linter.unusedVariables false
set_option linter.unusedSimpArgs false
namespace Go.Av
open Go Go.RowKit

section
variable {P : Program} {o : Oper} {n : Nat} {fr : Fr} {a : Act} {F : Froz} {w : World} {σ : St} {k : AV → Prop}

/-- The operation is quiet: it comes to v, and changes nothing. -/
def Quiet (P : Program) (o : Oper) (a : Act) (F : Froz) (w : World) (k : AV → Prop) : Prop := ∃ x v, (execOp a.eval o).run P w = .ok (.value x) w ∧ RV F w v x ∧ k v
theorem Quiet.ok (h : Quiet P o a F w k) (hs : Rel F w σ) : OpOk P o a F w σ fun v σ' => σ' = σ ∧ k v := by
  obtain ⟨x, v, hr, hv, hk⟩ := h
  exact opOk_pure hs hr hv ⟨rfl, hk⟩

theorem drop_one {cs : List AV} (h : cs.all AV.one = true) (j : Nat) : (cs.drop j).all AV.one = true := List.all_eq_true.2 fun x hx => List.all_eq_true.1 h x (List.mem_of_mem_drop hx)

/-! ### nilCheck -/
def aNil (x : AV) (k : AV → Prop) : Prop :=
  match x with
  | .v (.pointer (some a)) => k (.v (.pointer (some a)))
  | .v (.func (.func f) x y) => k (.v (.func (.func f) x y))
  | .v (.func (.yield f) x y) => k (.v (.func (.yield f) x y))
  | .fp cs => k (.fp cs)
  | .rp b q i f => k (.rp b q i f)
  | _ => False
theorem sound_nil {x : Operand} (ho : o.op = .nilCheck x) (hx : opdIn n x = true) (hf : FrRel F w n fr a) (h : aNil (fr.ev x) k) : Quiet P o a F w k := by
  have hv := hf.ev x hx
  revert h hv
  generalize fr.ev x = q
  intro h hv
  unfold aNil at h
  split at h
  · have e := hv.eq
    exact ⟨_, _, by simp [execOp, ho, e], .v _, h⟩
  · have e := hv.eq
    exact ⟨_, _, by simp [execOp, ho, e], .v _, h⟩
  · have e := hv.eq
    exact ⟨_, _, by simp [execOp, ho, e], .v _, h⟩
  · cases e : a.eval x with
    | pointer q =>
      rw [e] at hv
      refine ⟨a.eval x, _, ?_, by rw [e]; exact hv, h⟩
      cases hv
      simp [execOp, ho, e]
    | _ => rw [e] at hv; cases hv
  · cases e : a.eval x with
    | pointer q =>
      rw [e] at hv
      refine ⟨a.eval x, _, ?_, by rw [e]; exact hv, h⟩
      cases hv
      simp [execOp, ho, e]
    | _ => rw [e] at hv; cases hv
  · exact h.elim

/-! ### fieldAddr, field -/
def aFadr (i : Option TK) (f : Nat) (x : AV) (k : AV → Prop) : Prop :=
  match i with
  | some i => match i.td with
    | .st fs => match fs[f]? with
      | some (off, sz, _) => 0 < sz ∧ match x with
        | .v (.pointer (some ⟨b, p, none⟩)) => k (.v (.pointer (some ⟨b, p + off, none⟩)))
        | .fp cs => off ≤ cs.length ∧ k (.fp (cs.drop off))
        | .rp b q j g => k (.rp b q j (g + off))
        | _ => False
      | none => False
    | _ => False
  | none => False

theorem td_st {d : TypeDesc} {fs : List (Nat × Nat × Bool)} (h : tdOf P d = .st fs) : ∃ gs, d = .struct gs ∧ (∀ (j : Nat) (f : Field), gs[j]? = some f → ∃ i e, P.info? f.type = some i ∧ P.underlying f.type = some e ∧ fs[j]? = some (f.offset, i.size, e.isRow)) ∧ (∀ j : Nat, fs[j]?.isSome = true → gs[j]?.isSome = true) := by
  cases d with
  | struct gs =>
    simp only [tdOf] at h
    split at h
    · rename_i hall
      injection h with h
      subst h
      refine ⟨gs, rfl, fun j f hj => ?_, fun j hj => ?_⟩
      · have hmem : f ∈ gs.toList := by
          have := Array.mem_of_getElem? hj
          simpa using this
        have h2 := (List.all_eq_true.1 hall) f hmem
        simp only [Bool.and_eq_true] at h2
        obtain ⟨i, hi⟩ := Option.isSome_iff_exists.1 h2.1
        obtain ⟨e, he⟩ := Option.isSome_iff_exists.1 h2.2
        refine ⟨i, e, hi, he, ?_⟩
        have : gs.toList[j]? = some f := by simpa using hj
        simp [this, he, Program.cellsOf, hi]
      · simp only [List.getElem?_map] at hj
        simpa using hj
    · cases h
  | slice e => simp only [tdOf] at h; (repeat' split at h) <;> cases h
  | array n e => simp only [tdOf] at h; (repeat' split at h) <;> cases h
  | _ => simp [tdOf] at h

theorem run_fieldAt_of {s f : Nat} {gs : Array Field} {g : Field} {i : TypeInfo} (hu : P.underlying s = some (.struct gs)) (hg : gs[f]? = some g) (hi : P.info? g.type = some i) (h0 : 0 < i.size) (ad : Addr) :
    (Instr.fieldAt s (.pointer (some ad)) f).run P w = .ok (.pointer (some (ad.add g.offset))) w := by
  have : i.size ≠ 0 := by omega
  simp [Instr.fieldAt, run_underlying hu, hg, Instr.sureAddr, fieldPlace, run_sizeOf' hi, this]

theorem sound_fadr {s f : Nat} {x : Operand} (ho : o.op = .fieldAddr s x f) (hx : opdIn n x = true) (hf : FrRel F w n fr a) (h : aFadr (tk P s) f (fr.ev x) k) : Quiet P o a F w k := by
  cases ht : tk P s with
  | none => simp [ht, aFadr] at h
  | some i =>
    obtain ⟨inf, d, z, h1, h2, h3, h4, h5, h6, h7, h8⟩ := tk_info ht
    simp only [ht, aFadr] at h
    cases htd : i.td with
    | st fs =>
      simp only [htd] at h
      obtain ⟨gs, rfl, hgs, hgn⟩ := td_st (P := P) (by rw [← h7, htd])
      cases hfs : fs[f]? with
      | none => simp [hfs] at h
      | some q =>
        obtain ⟨off, sz, ag⟩ := q
        simp only [hfs] at h
        obtain ⟨g, hg⟩ := Option.isSome_iff_exists.1 (hgn f (by simp [hfs]))
        obtain ⟨j, e, hj, he, hjf⟩ := hgs f g hg
        rw [hfs] at hjf
        simp only [Option.some.injEq, Prod.mk.injEq] at hjf
        obtain ⟨rfl, rfl, rfl⟩ := hjf
        have hrun := fun ad => run_fieldAt_of (w := w) h2 hg hj h.1 ad
        have hv := hf.ev x hx
        have h' := h.2
        clear h
        revert h' hv
        generalize fr.ev x = q
        intro hv h'
        unfold Quiet execOp
        simp only [ho]
        split at h'
        · rename_i b p
          have e1 := hv.eq
          refine ⟨_, _, ?_, .v _, h'⟩
          rw [e1]
          simp [hrun, Addr.add_mid]
        · rename_i cs
          cases e1 : a.eval x with
          | pointer ad =>
            rw [e1] at hv
            cases hv with
            | fp _ b p c hone hF hc hr =>
              refine ⟨.pointer (some ⟨b, p + g.offset, none⟩), _, by simp [hrun, Addr.add_mid], ?_, h'.2⟩
              refine .fp _ b (p + g.offset) (fun y => c (g.offset + y)) (drop_one hone _) (by simp; omega) (fun y hy => ?_) (fun y hy => ?_)
              · simp at hy
                rw [Nat.add_assoc]
                exact hc _ (by omega)
              · simp at hy
                have := hr (g.offset + y) (by omega)
                simpa [List.getD_eq_getElem?_getD, List.getElem?_drop] using this
          | _ => rw [e1] at hv; cases hv
        · rename_i b q' j' g'
          cases e1 : a.eval x with
          | pointer ad =>
            rw [e1] at hv
            cases hv
            refine ⟨.pointer (some ⟨b, j' * q' + (g' + g.offset), none⟩), _, ?_, .rp _ _ _ _, h'⟩
            simp [hrun, Addr.add_mid, Nat.add_assoc]
          | _ => rw [e1] at hv; cases hv
        · exact h'.elim
    | _ => simp [htd] at h

/-- The part of some cells that a field of a struct, an element of an array takes. -/
def aPart (ag : Bool) (off sz : Nat) (cs : List AV) (k : AV → Prop) : Prop := if ag then off + sz ≤ cs.length ∧ k (.agg ((cs.drop off).take sz)) else off < cs.length ∧ k (cs.getD off (.v undef))
theorem run_part_of {t : TypeId} {i : TypeInfo} {d : TypeDesc} (hi : P.info? t = some i) (hd : P.underlying t = some d) {cs : List AV} {vs : Array Value} (off : Nat)
    (hl : vs.size = cs.length) (hr : ∀ j, j < cs.length → RV F w (cs.getD j (.v undef)) (vs.getD j undef)) (h : aPart d.isRow off i.size cs k) :
    ∃ x v, (part t vs off).run P w = .ok x w ∧ RV F w v x ∧ k v := by
  have ha := run_isAgg (P := P) hd w
  unfold aPart at h
  cases hg : d.isRow with
  | true =>
    rw [hg] at ha
    rw [if_pos hg] at h
    refine ⟨.agg (vs.extract off (off + i.size)), _, by simp [part, ha, run_sizeOf' hi], .agg _ _ (by simp; omega) (fun j hj => ?_), h.2⟩
    have hj' : j < i.size := by simp at hj; omega
    have := hr (off + j) (by omega)
    have e1 : ((cs.drop off).take i.size).getD j (.v undef) = cs.getD (off + j) (.v undef) := by
      simp [List.getD_eq_getElem?_getD, List.getElem?_take, hj', List.getElem?_drop]
    have e2 : (vs.extract off (off + i.size)).getD j undef = vs.getD (off + j) undef := by
      simp only [Array.getD_eq_getD_getElem?, Array.getElem?_extract]
      rw [if_pos (by omega)]
    rw [e1, e2]
    exact this
  | false =>
    rw [hg] at ha
    rw [if_neg (by simp [hg])] at h
    have hlt : off < vs.size := by omega
    refine ⟨vs.getD off undef, _, ?_, hr off h.1, h.2⟩
    simp [part, ha, hlt]

def aFld (i : Option TK) (f : Nat) (x : AV) (k : AV → Prop) : Prop :=
  match i with
  | some i => match i.td with
    | .st fs => match fs[f]? with
      | some (off, sz, ag) => match x with
        | .agg cs => aPart ag off sz cs k
        | _ => False
      | none => False
    | _ => False
  | none => False
theorem sound_fld {s f : Nat} {x : Operand} (ho : o.op = .field s x f) (hx : opdIn n x = true) (hf : FrRel F w n fr a) (h : aFld (tk P s) f (fr.ev x) k) : Quiet P o a F w k := by
  cases ht : tk P s with
  | none => simp [ht, aFld] at h
  | some i =>
    obtain ⟨inf, d, z, h1, h2, h3, h4, h5, h6, h7, h8⟩ := tk_info ht
    simp only [ht, aFld] at h
    cases htd : i.td with
    | st fs =>
      simp only [htd] at h
      obtain ⟨gs, rfl, hgs, hgn⟩ := td_st (P := P) (by rw [← h7, htd])
      cases hfs : fs[f]? with
      | none => simp [hfs] at h
      | some q =>
        obtain ⟨off, sz, ag⟩ := q
        simp only [hfs] at h
        obtain ⟨g, hg⟩ := Option.isSome_iff_exists.1 (hgn f (by simp [hfs]))
        obtain ⟨j, e, hj, he, hjf⟩ := hgs f g hg
        rw [hfs] at hjf
        simp only [Option.some.injEq, Prod.mk.injEq] at hjf
        obtain ⟨rfl, rfl, rfl⟩ := hjf
        have hv := hf.ev x hx
        cases hq : fr.ev x with
        | agg cs =>
          rw [hq] at h hv
          simp only at h
          cases e1 : a.eval x with
          | agg vs =>
            rw [e1] at hv
            cases hv with
            | agg _ _ hl hr =>
              obtain ⟨y, v, r1, r2, r3⟩ := run_part_of hj he g.offset hl hr h
              refine ⟨y, v, ?_, r2, r3⟩
              simp [execOp, ho, e1, Instr.field, run_underlying h2, hg, asAgg, r1]
          | _ => rw [e1] at hv; cases hv
        | _ => rw [hq] at h; simp at h
    | _ => simp [htd] at h

/-! ### indexAddr, index -/
def aIadr (i : Option TK) (σ : St) (x ix : AV) (k : AV → Prop) : Prop :=
  match i with
  | some i => match ix with
    | .v (.int _ j) => match i.td with
      | .arr m esz _ => match x with
        | .v (.pointer (some ⟨b, p, none⟩)) => 0 ≤ j ∧ j < m ∧ k (.v (.pointer (some ⟨b, p + j.toNat * esz, none⟩)))
        | .fp cs => 0 ≤ j ∧ j < m ∧ j.toNat * esz ≤ cs.length ∧ k (.fp (cs.drop (j.toNat * esz)))
        | .rp b q r f => 0 ≤ j ∧ j < m ∧ k (.rp b q r (f + j.toNat * esz))
        | _ => False
      | .sl esz _ _ _ => match x with
        | .sl q es => q = esz ∧ 0 ≤ j ∧ j < es.length ∧ k (.fp (es.getD j.toNat []))
        | .fsl q es => q = esz ∧ 0 ≤ j ∧ j < es.length ∧ k (.fp (es.getD j.toNat []))
        | .v (.slice (some ⟨b, p, none⟩) n _) => p % esz = 0 ∧ 0 ≤ j ∧ j < n ∧ k (.rp b esz (p / esz + j.toNat) 0)
        | _ => False
      | _ => False
    | _ => False
  | none => False

theorem td_arr {d : TypeDesc} {m esz : Nat} {ag : Bool} (h : tdOf P d = .arr m esz ag) : ∃ e i g, d = .array m e ∧ P.info? e = some i ∧ i.size = esz ∧ P.underlying e = some g ∧ g.isRow = ag := by
  cases d with
  | array n e =>
    simp only [tdOf] at h
    split at h
    · rename_i i hi
      split at h
      · rename_i g hg
        injection h with h1 h2 h3
        subst h1
        exact ⟨e, i, g, rfl, hi, h2, hg, h3⟩
      · cases h
    · cases h
  | slice e => simp only [tdOf] at h; (repeat' split at h) <;> cases h
  | struct e => simp only [tdOf] at h; (repeat' split at h) <;> cases h
  | _ => simp [tdOf] at h
theorem td_sl {d : TypeDesc} {esz eby : Nat} {ez : List Value} {byt : Bool} (h : tdOf P d = .sl esz eby ez byt) : ∃ e i z, d = .slice e ∧ P.info? e = some i ∧ i.size = esz ∧ i.bytes = eby ∧ i.zero = some z ∧ z.cells.toList = ez ∧ z.cells.size = i.size ∧ (byt = true → P.underlying e = some (.int .u8)) := by
  cases d with
  | slice e =>
    simp only [tdOf] at h
    split at h
    · rename_i i hi
      split at h
      · rename_i z hz
        split at h
        · rename_i hsz
          injection h with h1 h2 h3 h4
          refine ⟨e, i, z, rfl, hi, h1, h2, hz, h3, hsz, fun hb => ?_⟩
          subst hb
          split at h4
          · assumption
          · cases h4
        · cases h
      · cases h
    · cases h
  | array n e => simp only [tdOf] at h; (repeat' split at h) <;> cases h
  | struct e => simp only [tdOf] at h; (repeat' split at h) <;> cases h
  | _ => simp [tdOf] at h

theorem run_iadr_arr {t e : TypeId} {m : Nat} {i : TypeInfo} (hu : P.underlying t = some (.array m e)) (hi : P.info? e = some i) (ad : Addr) (kk : IntKind) (j : Int) (h0 : 0 ≤ j) (h1 : j < m) :
    (Instr.indexAt t (.pointer (some ad)) (.int kk j)).run P w = .ok (.pointer (some (ad.add (j.toNat * i.size)))) w := by
  simp [Instr.indexAt, asIntOf, run_underlying hu, Instr.sureAddr, h0, h1, run_sizeOf' hi]
theorem run_iadr_sl {t e : TypeId} {i : TypeInfo} (hu : P.underlying t = some (.slice e)) (hi : P.info? e = some i) (ad : Addr) (len cap : Nat) (kk : IntKind) (j : Int) (h0 : 0 ≤ j) (h1 : j < len) :
    (Instr.indexAt t (.slice (some ad) len cap) (.int kk j)).run P w = .ok (.pointer (some (ad.add (j.toNat * i.size)))) w := by
  simp [Instr.indexAt, asIntOf, run_underlying hu, Instr.sureAddr, h0, h1, run_sizeOf' hi]

/-- An element of a frozen slice, as frozen cells. -/
theorem elem_fp {q : Nat} {es : List (List AV)} {b p : Nat} {c : Nat → Value} (hk : ∀ e ∈ es, e.length = q ∧ e.all AV.one = true) (hF : p + es.length * q ≤ F b) (hc : ∀ j, j < es.length * q → w.cell? ⟨b, p + j, none⟩ = some (c j))
    (hr : ∀ i j, i < es.length → j < q → RV F w ((es.getD i []).getD j (.v undef)) (c (i * q + j))) {r : Nat} (hlt : r < es.length) : RV F w (.fp (es.getD r [])) (.pointer (some ⟨b, p + r * q, none⟩)) := by
  have hlen : (es.getD r []).length = q := by
    rw [List.getD_eq_getElem?_getD, List.getElem?_eq_getElem hlt]
    exact (hk _ (List.getElem_mem hlt)).1
  have hone : (es.getD r []).all AV.one = true := by
    rw [List.getD_eq_getElem?_getD, List.getElem?_eq_getElem hlt]
    exact (hk _ (List.getElem_mem hlt)).2
  have hle : r * q + q ≤ es.length * q := by rw [← Nat.succ_mul]; exact Nat.mul_le_mul_right _ hlt
  refine .fp _ b _ (fun y => c (r * q + y)) hone (by omega) (fun y hy => ?_) (fun y hy => ?_)
  · rw [Nat.add_assoc]
    exact hc _ (by omega)
  · exact hr _ _ hlt (by omega)

theorem sound_iadr {t : TypeId} {x ix : Operand} (ho : o.op = .indexAddr t x ix) (hx : opdIn n x = true) (hix : opdIn n ix = true) (hf : FrRel F w n fr a) (h : aIadr (tk P t) σ (fr.ev x) (fr.ev ix) k) : Quiet P o a F w k := by
  cases ht : tk P t with
  | none => simp [ht, aIadr] at h
  | some i =>
    obtain ⟨inf, d, z, h1, h2, h3, h4, h5, h6, h7, h8⟩ := tk_info ht
    simp only [ht, aIadr] at h
    have hv := hf.ev x hx
    have hiv := hf.ev ix hix
    cases hqi : fr.ev ix with
    | v q =>
      rw [hqi] at hiv h
      have eiv := hiv.eq
      cases q with
      | int kk j =>
        simp only at h
        have hgo : ∀ y, (Instr.indexAt t (a.eval x) (.int kk j)).run P w = .ok y w → (execOp a.eval o).run P w = .ok (.value y) w := fun y hy => by
          simp [execOp, ho, eiv, hy]
        unfold Quiet
        cases htd : i.td with
        | arr m esz ag =>
          obtain ⟨e, ie, g, rfl, k1, rfl, k3, k4⟩ := td_arr (P := P) (by rw [← h7, htd])
          simp only [htd] at h
          have hrun := fun ad h0 h1 => run_iadr_arr (w := w) h2 k1 ad kk j h0 h1
          revert h hv
          generalize fr.ev x = q
          intro hv h
          split at h
          · rename_i b p
            have e1 := hv.eq
            refine ⟨_, _, hgo _ (by rw [e1]; exact hrun _ h.1 h.2.1), ?_, h.2.2⟩
            rw [Addr.add_mid]
            exact .v _
          · rename_i cs
            cases e1 : a.eval x with
            | pointer ad =>
              rw [e1] at hv
              cases hv with
              | fp _ b p c hone hF hc hr =>
                refine ⟨_, _, hgo _ (by rw [e1]; exact hrun _ h.1 h.2.1), ?_, h.2.2.2⟩
                rw [Addr.add_mid]
                refine .fp _ b _ (fun y => c (j.toNat * ie.size + y)) (drop_one hone _) (by simp; omega) (fun y hy => ?_) (fun y hy => ?_)
                · simp at hy
                  rw [Nat.add_assoc]
                  exact hc _ (by omega)
                · simp at hy
                  have := hr (j.toNat * ie.size + y) (by omega)
                  simpa [List.getD_eq_getElem?_getD, List.getElem?_drop] using this
            | _ => rw [e1] at hv; cases hv
          · rename_i b q' r f
            cases e1 : a.eval x with
            | pointer ad =>
              rw [e1] at hv
              cases hv
              refine ⟨_, _, hgo _ (by rw [e1]; exact hrun _ h.1 h.2.1), ?_, h.2.2⟩
              rw [Addr.add_mid, Nat.add_assoc]
              exact .rp _ _ _ _
            | _ => rw [e1] at hv; cases hv
          · exact h.elim
        | sl esz eby ez byt =>
          obtain ⟨e, ie, ze, rfl, k1, rfl, k3, k4, k5, k6, k7⟩ := td_sl (P := P) (by rw [← h7, htd])
          simp only [htd] at h
          have hrun := fun ad len cap h0 h1 => run_iadr_sl (w := w) h2 k1 ad len cap kk j h0 h1
          revert h hv
          generalize fr.ev x = q
          intro hv h
          split at h
          · rename_i q' es
            obtain ⟨rfl, h0, hlt, h⟩ := h
            have hlt' : j.toNat < es.length := by omega
            cases e1 : a.eval x with
            | slice ad len cap =>
              rw [e1] at hv
              cases hv with
              | sl0 _ _ _ => simp at hlt; omega
              | sl _ _ b p c _ _ hn hk hcap hF hc hr =>
                refine ⟨_, _, hgo _ (by rw [e1]; exact hrun _ _ _ h0 (by omega)), ?_, h⟩
                rw [Addr.add_mid]
                exact elem_fp hk hF hc hr hlt'
            | _ => rw [e1] at hv; cases hv
          · rename_i q' es
            obtain ⟨rfl, h0, hlt, h⟩ := h
            have hlt' : j.toNat < es.length := by omega
            cases e1 : a.eval x with
            | slice ad len cap =>
              rw [e1] at hv
              cases hv with
              | fsl0 _ _ => simp at hlt; omega
              | fsl _ _ b p c _ hn hk hF hc hr =>
                refine ⟨_, _, hgo _ (by rw [e1]; exact hrun _ _ _ h0 (by omega)), ?_, h⟩
                rw [Addr.add_mid]
                exact elem_fp hk hF hc hr hlt'
            | _ => rw [e1] at hv; cases hv
          · rename_i b p len cap
            have e1 := hv.eq
            refine ⟨_, _, hgo _ (by rw [e1]; exact hrun _ _ _ h.2.1 h.2.2.1), ?_, h.2.2.2⟩
            have ep : p + j.toNat * ie.size = (p / ie.size + j.toNat) * ie.size + 0 := by
              have := Nat.div_add_mod p ie.size
              rw [h.1, Nat.mul_comm] at this
              rw [Nat.add_mul]
              omega
            rw [Addr.add_mid, ep]
            exact .rp b ie.size (p / ie.size + j.toNat) 0
          · exact h.elim
        | _ => simp [htd] at h
      | _ => simp at h
    | _ => rw [hqi] at h; simp at h

def aIdx (i : Option TK) (x ix : AV) (k : AV → Prop) : Prop :=
  match i with
  | some i => match ix with
    | .v (.int _ j) => match i.td with
      | .arr m esz ag => match x with
        | .agg cs => 0 ≤ j ∧ j < m ∧ aPart ag (j.toNat * esz) esz cs k
        | _ => False
      | .str => match x with
        | .v (.string s) => 0 ≤ j ∧ j < s.size ∧ k (.v (.int .u8 (s.data.toList.getD j.toNat 0).toNat))
        | _ => False
      | _ => False
    | _ => False
  | none => False
theorem td_str {d : TypeDesc} (h : tdOf P d = .str) : d = .string := by
  cases d with
  | array n e => simp only [tdOf] at h; (repeat' split at h) <;> cases h
  | struct e => simp only [tdOf] at h; (repeat' split at h) <;> cases h
  | slice e => simp only [tdOf] at h; (repeat' split at h) <;> cases h
  | string => rfl
  | _ => simp [tdOf] at h
theorem sound_idx {t : TypeId} {x ix : Operand} (ho : o.op = .index t x ix) (hx : opdIn n x = true) (hix : opdIn n ix = true) (hf : FrRel F w n fr a) (h : aIdx (tk P t) (fr.ev x) (fr.ev ix) k) : Quiet P o a F w k := by
  cases ht : tk P t with
  | none => simp [ht, aIdx] at h
  | some i =>
    obtain ⟨inf, d, z, h1, h2, h3, h4, h5, h6, h7, h8⟩ := tk_info ht
    simp only [ht, aIdx] at h
    have hv := hf.ev x hx
    have hiv := hf.ev ix hix
    cases hqi : fr.ev ix with
    | v q =>
      rw [hqi] at hiv h
      have eiv := hiv.eq
      cases q with
      | int kk j =>
        simp only at h
        unfold Quiet
        cases htd : i.td with
        | arr m esz ag =>
          obtain ⟨e, ie, g, rfl, k1, rfl, k3, k4⟩ := td_arr (P := P) (by rw [← h7, htd])
          simp only [htd] at h
          cases hq : fr.ev x with
          | agg cs =>
            rw [hq] at h hv
            simp only at h
            cases e1 : a.eval x with
            | agg vs =>
              rw [e1] at hv
              cases hv with
              | agg _ _ hl hr =>
                obtain ⟨y, v, r1, r2, r3⟩ := run_part_of k1 k3 (j.toNat * ie.size) hl hr (by rw [k4]; exact h.2.2)
                refine ⟨y, v, ?_, r2, r3⟩
                have hjm : j < m := h.2.1
                simp [execOp, ho, e1, eiv, Instr.index, asIntOf, run_underlying h2, h.1, hjm, run_sizeOf' k1, r1]
            | _ => rw [e1] at hv; cases hv
          | _ => rw [hq] at h; simp at h
        | str =>
          have hd := td_str (P := P) (d := d) (by rw [← h7, htd])
          subst hd
          simp only [htd] at h
          revert h hv
          generalize fr.ev x = q
          intro hv h
          split at h
          · rename_i s
            have e1 := hv.eq
            have hlt : j.toNat < s.size := by omega
            have hlt' : j.toNat < s.data.size := hlt
            refine ⟨_, _, ?_, .v _, h.2.2⟩
            have hs : s[j.toNat]? = some (s.data.toList.getD j.toNat 0) := by
              rw [getElem?_pos s j.toNat hlt]
              rw [List.getD_eq_getElem?_getD, Array.getElem?_toList, Array.getElem?_eq_getElem hlt']
              rfl
            simp [execOp, ho, e1, eiv, Instr.index, asIntOf, run_underlying h2, h.1, hs]
          · exact h.elim
        | _ => simp [htd] at h
      | _ => simp at h
    | _ => rw [hqi] at h; simp at h

/-! ### extract, pick -/
def aExt (x : AV) (j : Nat) (k : AV → Prop) : Prop :=
  match x with
  | .tup vs => j < vs.length ∧ k (vs.getD j (.v undef))
  | _ => False
theorem sound_ext {x : Operand} {j : Nat} (ho : o.op = .extract x j) (hx : opdIn n x = true) (hf : FrRel F w n fr a) (h : aExt (fr.ev x) j k) : Quiet P o a F w k := by
  have hv := hf.ev x hx
  revert h hv
  generalize fr.ev x = q
  intro h hv
  unfold aExt at h
  split at h
  · cases e1 : a.eval x with
    | tuple vs =>
      rw [e1] at hv
      cases hv with
      | tup _ _ hl hr =>
        refine ⟨vs.getD j undef, _, ?_, hr j h.1, h.2⟩
        have : j < vs.size := by omega
        simp [execOp, ho, e1, Instr.extract, this]
    | _ => rw [e1] at hv; cases hv
  · exact h.elim

def aPick (c x y : AV) (k : AV → Prop) : Prop :=
  match c with
  | .v (.bool b) => if b = true then k x else k y
  | _ => False
theorem sound_pick {c x y : Operand} (ho : o.op = .pick c x y) (hc : opdIn n c = true) (hx : opdIn n x = true) (hy : opdIn n y = true) (hf : FrRel F w n fr a) (h : aPick (fr.ev c) (fr.ev x) (fr.ev y) k) : Quiet P o a F w k := by
  have hcv := hf.ev c hc
  revert h hcv
  generalize fr.ev c = q
  intro h hcv
  unfold aPick at h
  split at h
  · rename_i b
    have e1 := hcv.eq
    cases b with
    | true => exact ⟨a.eval x, _, by simp [execOp, ho, e1, asBool], hf.ev x hx, by simpa using h⟩
    | false => exact ⟨a.eval y, _, by simp [execOp, ho, e1, asBool], hf.ev y hy, by simpa using h⟩
  · exact h.elim
end
end Go.Av
