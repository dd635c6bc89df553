/-
  The program logic, part 5: slices of slices and strings, built structs, arrays and slices, arithmetic, comparisons, conversions, len.
  Conditions: none (a library of definitions and lemmas over any program).
-/
import Derived.Test.YthdfpankebjleaaAvOps3
set_option linter.unusedVariables false
set_option linter.unusedSimpArgs false
namespace Go.Av
open Go Go.RowKit

/-- What a slice reads as, if all of it is frozen. -/
def view (q : Nat) (σ : St) : AV → Option (List (List AV))
  | .sl q' es => if q' = q then some es else none
  | .fsl q' es => if q' = q then some es else none
  | .v (.slice none 0 0) => some []
  | .v (.slice (some ⟨b, 0, none⟩) n cap) => match σ b with
    | some (.rows q' es true cap') => if q' = q ∧ n = es.length ∧ cap = cap' then some es else none
    | _ => none
  | _ => none

section
variable {P : Program} {o : Oper} {n : Nat} {fr : Fr} {a : Act} {F : Froz} {w : World} {σ : St} {k : AV → Prop}

theorem rows_sl (hs : Rel F w σ) {b q : Nat} {es : List (List AV)} {cap : Nat} (hb : σ b = some (.rows q es true cap)) : RV F w (.sl q es) (.slice (some ⟨b, 0, none⟩) es.length cap) := by
  obtain ⟨c, e, m, g1, g2, g3, g4, g5, g6, g7⟩ := hs.obj b _ hb
  have hle : es.length * q ≤ cap * q := Nat.mul_le_mul_right _ g3
  refine .sl q es b 0 (fun j => c.getD j undef) _ cap rfl g4 g3 (by rw [g6, if_pos rfl]; omega) (fun j hj => ?_) g7
  have hlt : j < c.size := by omega
  simp [World.cell?, g1, hlt]

theorem view_ok (hs : Rel F w σ) {q : Nat} {x : AV} {X : Value} {es : List (List AV)} (h : view q σ x = some es) (hv : RV F w x X) : RV F w (.sl q es) X := by
  unfold view at h
  split at h
  · split at h
    · rename_i hq; subst hq; injection h with h; subst h; exact hv
    · cases h
  · split at h
    · rename_i hq; subst hq; injection h with h; subst h
      cases hv with
      | fsl0 _ a => exact .sl0 _ _ _
      | fsl _ _ b p c n hn hk hF hc hr => exact .sl _ _ b p c n n hn hk (Nat.le_refl _) hF hc hr
    · cases h
  · injection h with h; subst h
    rw [hv.eq]
    exact .sl0 _ _ _
  · rename_i b nn cap
    split at h
    · rename_i q' es' cap' hb
      split at h
      · rename_i hc
        obtain ⟨rfl, rfl, rfl⟩ := hc
        injection h with h; subst h
        rw [hv.eq]
        exact rows_sl hs hb
      · cases h
    · cases h
  · cases h

/-- What is read now of a slice. -/
def vlook (q : Nat) (σ : St) : AV → Option (List (List AV))
  | .sl q' es => if q' = q then some es else none
  | .fsl q' es => if q' = q then some es else none
  | .v (.slice none 0 0) => some []
  | .v (.slice (some ⟨b, 0, none⟩) n cap) => match σ b with
    | some (.rows q' es _ cap') => if q' = q ∧ n ≤ es.length ∧ n ≤ cap then some (es.take n) else none
    | _ => none
  | _ => none
theorem vlook_ok (hs : Rel F w σ) {q : Nat} {x : AV} {X : Value} {es : List (List AV)} (h : vlook q σ x = some es) (hv : RV F w x X) : ∃ F', RV F' w (.sl q es) X := by
  unfold vlook at h
  split at h
  · split at h
    · rename_i hq; subst hq; injection h with h; subst h; exact ⟨F, hv⟩
    · cases h
  · split at h
    · rename_i hq; subst hq; injection h with h; subst h
      cases hv with
      | fsl0 _ a => exact ⟨F, .sl0 _ _ _⟩
      | fsl _ _ b p c n hn hk hF hc hr => exact ⟨F, .sl _ _ b p c n n hn hk (Nat.le_refl _) hF hc hr⟩
    · cases h
  · injection h with h; subst h
    rw [hv.eq]
    exact ⟨F, .sl0 _ _ _⟩
  · rename_i b nn cap
    split at h
    · rename_i q' es' frz cap' hb
      split at h
      · rename_i hc
        obtain ⟨rfl, hn, hcap⟩ := hc
        injection h with h; subst h
        rw [hv.eq]
        obtain ⟨c, e, m, g1, g2, g3, g4, g5, g6, g7⟩ := hs.obj b _ hb
        have hlen : (es'.take nn).length = nn := by rw [List.length_take]; omega
        have hle : es'.length * q' ≤ cap' * q' := Nat.mul_le_mul_right _ g3
        have hle2 : nn * q' ≤ es'.length * q' := Nat.mul_le_mul_right _ hn
        obtain ⟨F', hF'⟩ : ∃ F' : Froz, F' = fun y => if y = b then max (F b) (nn * q') else F y := ⟨_, rfl⟩
        have hFe : ∀ y, F' y = if y = b then max (F b) (nn * q') else F y := fun y => by rw [hF']
        have hFb : nn * q' ≤ F' b := by rw [hFe, if_pos rfl]; exact Nat.le_max_right _ _
        have hk : Keeps F w F' w := ⟨fun y => by
          rw [hFe]
          by_cases hy : y = b
          · rw [if_pos hy, hy]; exact Nat.le_max_left _ _
          · rw [if_neg hy]; exact Nat.le_refl _, fun _ _ _ => rfl⟩
        refine ⟨F', .sl q' _ b 0 (fun j => c.getD j undef) nn cap hlen.symm (fun x hx => g4 x (List.mem_of_mem_take hx)) hcap (by rw [hlen]; omega) (fun j hj => ?_) (fun i j hi hj => ?_)⟩
        · rw [hlen] at hj
          have hlt : j < c.size := by omega
          simp [World.cell?, g1, hlt]
        · rw [hlen] at hi
          have e1 : (es'.take nn).getD i [] = es'.getD i [] := by simp [List.getD_eq_getElem?_getD, List.getElem?_take, hi]
          rw [e1]
          exact (g7 i j (by omega) hj).mono hk
      · cases h
    · cases h
  · cases h

theorem sl_form {q : Nat} {es : List (List AV)} {X : Value} (hv : RV F w (.sl q es) X) : ∃ ad cap, X = .slice ad es.length cap ∧ es.length ≤ cap := by
  cases hv with
  | sl0 _ ad cap => exact ⟨ad, cap, rfl, by simp⟩
  | sl _ _ b p c nn cap hn hk hcap hF hc hr => subst hn; exact ⟨_, cap, rfl, hcap⟩

/-- A part of a frozen slice. -/
theorem sl_part {q : Nat} {es : List (List AV)} {ad : Option Addr} {cap : Nat} (hv : RV F w (.sl q es) (.slice ad es.length cap)) (l h m : Nat) (hl : l ≤ h) (hh : h ≤ es.length) (hm : h ≤ m) (hmc : m ≤ cap) :
    RV F w (.sl q ((es.take h).drop l)) (sliced ad l h m q) ∧ (m = h → RV F w (.fsl q ((es.take h).drop l)) (sliced ad l h m q)) := by
  have hlen : ((es.take h).drop l).length = h - l := by simp; omega
  unfold sliced
  by_cases hlh : l = h
  · subst hlh
    have e : (es.take l).drop l = [] := List.eq_nil_of_length_eq_zero (by rw [hlen]; omega)
    rw [e, Nat.sub_self]
    refine ⟨.sl0 _ _ _, fun hmh => ?_⟩
    subst hmh
    rw [Nat.sub_self]
    exact .fsl0 _ _
  · have hml : m ≠ l := by omega
    rw [if_neg hml]
    generalize hN : es.length = N at hv hh
    cases hv with
    | sl0 _ _ _ => simp at hN; omega
    | sl _ _ b p c _ _ hn hk hcap hF hc hr =>
      simp only [Option.map_some, Addr.add_mid]
      have hk' : ∀ e ∈ (es.take h).drop l, e.length = q ∧ e.all AV.one = true := fun e he => hk e (List.mem_of_mem_take (List.mem_of_mem_drop he))
      have hle : l * q + (h - l) * q ≤ es.length * q := by rw [← Nat.add_mul]; exact Nat.mul_le_mul_right _ (by omega)
      have hc' : ∀ j, j < ((es.take h).drop l).length * q → w.cell? ⟨b, p + l * q + j, none⟩ = some (c (l * q + j)) := fun j hj => by
        rw [hlen] at hj
        rw [Nat.add_assoc]
        exact hc _ (by omega)
      have hr' : ∀ i j, i < ((es.take h).drop l).length → j < q → RV F w ((((es.take h).drop l).getD i []).getD j (.v undef)) (c (l * q + (i * q + j))) := fun i j hi hj => by
        rw [hlen] at hi
        have e1 : ((es.take h).drop l).getD i [] = es.getD (l + i) [] := by
          simp only [List.getD_eq_getElem?_getD, List.getElem?_drop, List.getElem?_take]
          rw [if_pos (by omega)]
        rw [e1]
        have := hr (l + i) j (by omega) hj
        rwa [Nat.add_mul, Nat.add_assoc] at this
      refine ⟨.sl q _ b (p + l * q) (fun j => c (l * q + j)) _ _ hlen.symm hk' (by omega) (by rw [hlen]; omega) hc' hr', fun hmh => ?_⟩
      subst hmh
      exact .fsl q _ b (p + l * q) (fun j => c (l * q + j)) _ hlen.symm hk' (by rw [hlen]; omega) hc' hr'

def optI (d : Int) : Option AV → Option Int
  | none => some d
  | some (.v (.int _ j)) => some j
  | _ => none

/-- The bounds, as they come to numbers. -/
theorem run_bounds (isSlice : Bool) (len cap : Nat) (lo hi mx : Option Operand) (l h m : Int) (hlo : ∀ x, lo = some x → opdIn n x = true) (hhi : ∀ x, hi = some x → opdIn n x = true) (hmx : ∀ x, mx = some x → opdIn n x = true)
    (hf : FrRel F w n fr a) (h1 : optI 0 (lo.map fr.ev) = some l) (h2 : optI len (hi.map fr.ev) = some h) (h3 : mx = none ∧ m = cap ∨ hi ≠ none ∧ mx ≠ none ∧ optI cap (mx.map fr.ev) = some m)
    (b1 : 0 ≤ l) (b2 : l ≤ h) (b3 : h ≤ m) (b4 : m ≤ cap) : (Instr.sliceBounds isSlice len cap (lo.map a.eval) (hi.map a.eval) (mx.map a.eval)).run P w = .ok (l.toNat, h.toNat, m.toNat) w := by
  have one : ∀ (y : Option Operand) (d j : Int), (∀ x, y = some x → opdIn n x = true) → optI d (y.map fr.ev) = some j → (y = none ∧ j = d) ∨ ∃ x kk, y = some x ∧ a.eval x = .int kk j := by
    intro y d j hin hy
    cases y with
    | none => simp [optI] at hy; exact .inl ⟨rfl, hy.symm⟩
    | some x =>
      right
      simp only [Option.map_some, optI] at hy
      split at hy
      · rename_i hq; cases hq
      · rename_i hq
        injection hq with hq
        injection hy with hy
        subst hy
        have := hf.ev x (hin x rfl)
        rw [hq] at this
        exact ⟨x, _, rfl, this.eq⟩
      · cases hy
  have hm0 : ((m.toNat : Nat) : Int) = m := Int.toNat_of_nonneg (by omega)
  have hh0 : ((h.toNat : Nat) : Int) = h := Int.toNat_of_nonneg (by omega)
  rcases h3 with ⟨rfl, rfl⟩ | ⟨hhn, hmn, h3⟩
  · rcases one lo 0 l hlo h1 with ⟨rfl, rfl⟩ | ⟨x, kk, rfl, ex⟩ <;> rcases one hi len h hhi h2 with ⟨rfl, rfl⟩ | ⟨y, ky, rfl, ey⟩
    · simp [Instr.sliceBounds]
    · have hb : 0 ≤ h := by omega
      simp [Instr.sliceBounds, ey, run_sliceBound, hb, b3]
    · simp [Instr.sliceBounds, ex, run_sliceBound, b1, b2]
    · have hb : 0 ≤ h := by omega
      simp [Instr.sliceBounds, ex, ey, run_sliceBound, hb, b1, b3, hh0, b2]
  · rcases one mx cap m hmx h3 with ⟨rfl, _⟩ | ⟨z, kz, rfl, ez⟩
    · exact absurd rfl hmn
    · rcases one hi len h hhi h2 with ⟨rfl, _⟩ | ⟨y, ky, rfl, ey⟩
      · exact absurd rfl hhn
      · have hb : 0 ≤ h := by omega
        have hbm : 0 ≤ m := by omega
        rcases one lo 0 l hlo h1 with ⟨rfl, rfl⟩ | ⟨x, kk, rfl, ex⟩
        · simp [Instr.sliceBounds, ey, ez, run_sliceBound, hb, hbm, b3, b4, hm0]
        · simp [Instr.sliceBounds, ex, ey, ez, run_sliceBound, hb, hbm, b1, b2, b3, b4, hm0, hh0]

/-- Where a part of a slice begins. -/
def offAt (m l p q : Nat) : Nat := if m = l then p else p + l * q
def aSli (i : Option TK) (σ : St) (x : AV) (lo hi mx : Option AV) (k : AV → Prop) : Prop :=
  match i with
  | none => False
  | some i => match i.td with
    | .str => match x with
      | .v (.string s) => mx = none ∧ ∃ l h, optI 0 lo = some l ∧ optI s.size hi = some h ∧ 0 ≤ l ∧ l ≤ h ∧ h ≤ s.size ∧ k (.v (.string (s.extract l.toNat h.toNat)))
      | _ => False
    | .sl q _ _ _ => (∃ b p n c, x = .v (.slice (some ⟨b, p, none⟩) n c) ∧ ∃ l h m, optI 0 lo = some l ∧ optI n hi = some h ∧ ((mx = none ∧ m = (c : Int)) ∨ (hi ≠ none ∧ mx ≠ none ∧ optI c mx = some m)) ∧ 0 ≤ l ∧ l ≤ h ∧ h ≤ m ∧ m ≤ c ∧
        k (.v (.slice (some ⟨b, offAt m.toNat l.toNat p q, none⟩) (h.toNat - l.toNat) (m.toNat - l.toNat)))) ∨ ∃ es, view q σ x = some es ∧ ∃ l h, optI 0 lo = some l ∧ optI es.length hi = some h ∧ 0 ≤ l ∧ l ≤ h ∧ h ≤ es.length ∧
        ((mx = none ∧ k (.sl q ((es.take h.toNat).drop l.toNat))) ∨ (mx ≠ none ∧ hi ≠ none ∧ optI es.length mx = some h ∧ k (.fsl q ((es.take h.toNat).drop l.toNat))))
    | _ => False

theorem sound_sli {t : TypeId} {x : Operand} {lo hi mx : Option Operand} (ho : o.op = .slice t x lo hi mx) (hx : opdIn n x = true) (hlo : ∀ x, lo = some x → opdIn n x = true) (hhi : ∀ x, hi = some x → opdIn n x = true) (hmx : ∀ x, mx = some x → opdIn n x = true)
    (hf : FrRel F w n fr a) (hs : Rel F w σ) (h : aSli (tk P t) σ (fr.ev x) (lo.map fr.ev) (hi.map fr.ev) (mx.map fr.ev) k) : Quiet P o a F w k := by
  cases ht : tk P t with
  | none => simp [ht, aSli] at h
  | some i =>
    obtain ⟨inf, d, z, h1, h2, h3, h4, h5, h6, h7, h8⟩ := tk_info ht
    simp only [ht, aSli] at h
    have hv := hf.ev x hx
    have hgo : ∀ y, (Instr.sliceAt t (a.eval x) (lo.map a.eval) (hi.map a.eval) (mx.map a.eval)).run P w = .ok y w → (execOp a.eval o).run P w = .ok (.value y) w := fun y hy => by
      simp [execOp, ho, hy]
    unfold Quiet
    cases htd : i.td with
    | str =>
      have hd := td_str (P := P) (d := d) (by rw [← h7, htd])
      subst hd
      simp only [htd] at h
      revert h hv
      generalize fr.ev x = q
      intro hv h
      split at h
      · rename_i s
        obtain ⟨hmxn, l, hh, e1, e2, b1, b2, b3, hk⟩ := h
        have hmxn' : mx = none := by cases mx <;> simp_all
        subst hmxn'
        have ex := hv.eq
        have hb := run_bounds (P := P) (n := n) (w := w) false s.size s.size lo hi none l hh s.size hlo hhi hmx hf e1 e2 (.inl ⟨rfl, rfl⟩) b1 b2 b3 (Int.le_refl _)
        refine ⟨_, _, hgo _ ?_, .v _, hk⟩
        simp only [Option.map_none] at hb
        simp [Instr.sliceAt, run_underlying h2, ex, Instr.slice, hb]
      · exact h.elim
    | sl q eby ez byt =>
      obtain ⟨e, ie, ze, rfl, k1, rfl, k3, k4, k5, k6, k7⟩ := td_sl (P := P) (by rw [← h7, htd])
      simp only [htd] at h
      rcases h with ⟨b, p, nn, c, hxq, l, hh, m, e1, e2, e3, b1, b2, b3, b4, hk⟩ | ⟨es, hview, l, hh, e1, e2, b1, b2, b3, hk⟩
      · rw [hxq] at hv
        have eX := hv.eq
        have hb := run_bounds (P := P) (n := n) (w := w) true nn c lo hi mx l hh m hlo hhi hmx hf e1 e2 (by
          rcases e3 with ⟨e3, rfl⟩ | ⟨e3, e4, e5⟩
          · exact .inl ⟨by cases mx <;> simp_all, rfl⟩
          · exact .inr ⟨by cases hi <;> simp_all, by cases mx <;> simp_all, e5⟩) b1 b2 b3 b4
        refine ⟨_, _, hgo (sliced (some ⟨b, p, none⟩) l.toNat hh.toNat m.toNat ie.size) ?_, ?_, hk⟩
        · simp [Instr.sliceAt, run_underlying h2, eX, Instr.slice, hb, run_sizeOf' k1, sliced]
        · unfold sliced offAt
          split
          · exact .v _
          · simp only [Option.map_some, Addr.add_mid]
            exact .v _
      have hsl := view_ok hs hview hv
      obtain ⟨ad, cap, eX, hcap⟩ := sl_form hsl
      rw [eX] at hsl
      have hrun : ∀ m : Int, (mx = none ∧ m = cap ∨ hi ≠ none ∧ mx ≠ none ∧ optI cap (mx.map fr.ev) = some m) → hh ≤ m → m ≤ cap →
          (Instr.sliceAt t (a.eval x) (lo.map a.eval) (hi.map a.eval) (mx.map a.eval)).run P w = .ok (sliced ad l.toNat hh.toNat m.toNat ie.size) w := fun m hm1 hm2 hm3 => by
        have hb := run_bounds (P := P) (n := n) (w := w) true es.length cap lo hi mx l hh m hlo hhi hmx hf e1 e2 hm1 b1 b2 hm2 hm3
        simp [Instr.sliceAt, run_underlying h2, eX, Instr.slice, hb, run_sizeOf' k1, sliced]
      rcases hk with ⟨hmn, hk⟩ | ⟨hmn, hin, e3, hk⟩
      · have hmn' : mx = none := by cases mx <;> simp_all
        subst hmn'
        have := hrun cap (.inl ⟨rfl, rfl⟩) (by omega) (Int.le_refl _)
        rw [Int.toNat_natCast] at this
        exact ⟨_, _, hgo _ this, (sl_part hsl l.toNat hh.toNat cap (by omega) (by omega) (by omega) (Nat.le_refl _)).1, hk⟩
      · have e3' : optI cap (mx.map fr.ev) = some hh := by
          cases mx with
          | none => simp at hmn
          | some y =>
            simp only [Option.map_some, optI] at e3 ⊢
            split at e3
            · rename_i hq; cases hq
            · exact e3
            · cases e3
        have := hrun hh (.inr ⟨by cases hi <;> simp_all, by cases mx <;> simp_all, e3'⟩) (Int.le_refl _) (by omega)
        exact ⟨_, _, hgo _ this, (sl_part hsl l.toNat hh.toNat hh.toNat (by omega) (by omega) (Nat.le_refl _) (by omega)).2 rfl, hk⟩
    | _ => simp [htd] at h

/-! ### len -/
def aLen (i : Option TK) (x : AV) (k : AV → Prop) : Prop :=
  match i with
  | some i => match i.td with
    | .str => match x with
      | .v (.string s) => k (.v (.int .i64 s.size))
      | _ => False
    | .sl _ _ _ _ => match x with
      | .sl _ es => k (.v (.int .i64 es.length))
      | .fsl _ es => k (.v (.int .i64 es.length))
      | .v (.slice _ n _) => k (.v (.int .i64 n))
      | _ => False
    | .arr m _ _ => k (.v (.int .i64 m))
    | _ => False
  | none => False
theorem sound_len {t : TypeId} {x : Operand} (ho : o.op = .call { callee := .builtin .len, args := #[x], argTypes := #[t] }) (hx : opdIn n x = true) (hf : FrRel F w n fr a) (h : aLen (tk P t) (fr.ev x) k) : Quiet P o a F w k := by
  cases ht : tk P t with
  | none => simp [ht, aLen] at h
  | some i =>
    obtain ⟨inf, d, z, h1, h2, h3, h4, h5, h6, h7, h8⟩ := tk_info ht
    simp only [ht, aLen] at h
    have hv := hf.ev x hx
    have hgo : ∀ y, (Builtin.len_ #[t] o.type #[a.eval x]).run P w = .ok y w → (execOp a.eval o).run P w = .ok (.value y) w := fun y hy => by
      simp [execOp, ho, resolve, invoke, builtin, hy]
    unfold Quiet
    cases htd : i.td with
    | str =>
      have hd := td_str (P := P) (d := d) (by rw [← h7, htd])
      subst hd
      simp only [htd] at h
      revert h hv
      generalize fr.ev x = q
      intro hv h
      split at h
      · have ex := hv.eq
        exact ⟨_, _, hgo _ (by simp [Builtin.len_, run_underlying h2, ex, goInt]), .v _, h⟩
      · exact h.elim
    | sl q eby ez byt =>
      obtain ⟨e, ie, ze, rfl, k1, rfl, k3, k4, k5, k6, k7⟩ := td_sl (P := P) (by rw [← h7, htd])
      simp only [htd] at h
      revert h hv
      generalize fr.ev x = q
      intro hv h
      split at h
      · obtain ⟨ad, cap, eX, hcap⟩ := sl_form hv
        exact ⟨_, _, hgo _ (by simp [Builtin.len_, run_underlying h2, eX, goInt]), .v _, h⟩
      · rename_i q' es
        have hv' : RV F w (.sl q' es) (a.eval x) := by
          generalize a.eval x = X at hv
          cases hv with
          | fsl0 _ a => exact .sl0 _ _ _
          | fsl _ _ b p c n hn hk hF hc hr => exact .sl _ _ b p c n n hn hk (Nat.le_refl _) hF hc hr
        obtain ⟨ad, cap, eX, hcap⟩ := sl_form hv'
        exact ⟨_, _, hgo _ (by simp [Builtin.len_, run_underlying h2, eX, goInt]), .v _, h⟩
      · have ex := hv.eq
        exact ⟨_, _, hgo _ (by simp [Builtin.len_, run_underlying h2, ex, goInt]), .v _, h⟩
      · exact h.elim
    | arr m esz ag =>
      obtain ⟨e, ie, g, rfl, k1, rfl, k3, k4⟩ := td_arr (P := P) (by rw [← h7, htd])
      simp only [htd] at h
      exact ⟨_, _, hgo _ (by simp [Builtin.len_, run_underlying h2, goInt]), .v _, h⟩
    | _ => simp [htd] at h
end
end Go.Av
