/-
  The program logic, part 13: a statement's arguments, read as trees; and back.
  Conditions: the types of the arguments are plain (computed: `plain`), sizes are within the reach of the claim's form.
-/
import Derived.Test.YthdfpankebjleaaAvWalk
import Derived.ProofKit
import Derived.OpenShut
import Derived.ShutString
import Derived.ChangeOld
import Derived.Below
import Derived.SizedLaws
set_option linter.unusedVariables false
set_option linter.unusedSimpArgs false
namespace Go.Av
open Go Go.RowKit Go.ChangeShapes Go.WideShapes
open Go.ChangeMaps (open_string shut_string)

/-- Each of the parts. -/
def Each (p : TypeId → List AV → Prop) : List TypeId → List AV → Prop
  | [], cs => cs = []
  | t :: ts, cs => ∃ x y, cs = x ++ y ∧ p t x ∧ Each p ts y
/-- n parts of one type. -/
def Times (p : List AV → Prop) : Nat → List AV → Prop
  | 0, cs => cs = []
  | n + 1, cs => ∃ x y, cs = x ++ y ∧ p x ∧ Times p n y

/-- The cells of a value of a plain type. -/
def Ty (P : Program) : Nat → TypeId → List AV → Prop
  | 0, _, _ => False
  | n + 1, t, cs => match P.underlying t with
    | some .bool => ∃ b, cs = [.v (.bool b)]
    | some (.int k) => ∃ x, cs = [.v (.int k x)] ∧ (Lit.int k x).wf = true
    | some .string => ∃ s, cs = [.v (.string s)] ∧ s.size ≤ 140737488351232
    | some (.slice e) => ∃ es, cs = [.sl (P.cellsOf e) es] ∧ es.length * P.bytesOf e ≤ 140737488351232 ∧ ∀ x ∈ es, Ty P n e x
    | some (.struct fs) => Each (Ty P n) (fs.toList.map Field.type) cs
    | some (.array k e) => Times (Ty P n e) k cs
    | _ => False
def TyA (P : Program) (n : Nat) (t : TypeId) (a : AV) : Prop :=
  match P.underlying t with
  | some (.struct _) | some (.array _ _) => ∃ cs, a = .agg cs ∧ Ty P n t cs
  | _ => Ty P n t [a]
def TyAs (P : Program) (n : Nat) : List TypeId → List AV → Prop
  | [], [] => True
  | t :: ts, a :: as => TyA P n t a ∧ TyAs P n ts as
  | _, _ => False

theorem tyAs_nil {P : Program} {n : Nat} {xs : List AV} (h : TyAs P n [] xs) : xs = [] := by
  cases xs with
  | nil => rfl
  | cons a xs => exact h.elim
theorem tyAs_cons {P : Program} {n : Nat} {t : TypeId} {ts : List TypeId} {xs : List AV} (h : TyAs P n (t :: ts) xs) : ∃ a ys, xs = a :: ys ∧ TyA P n t a ∧ TyAs P n ts ys := by
  cases xs with
  | nil => exact h.elim
  | cons a xs => exact ⟨a, xs, rfl, h.1, h.2⟩
theorem tyAs1 {P : Program} {n : Nat} {t : TypeId} {xs : List AV} (h : TyAs P n [t] xs) : ∃ a, xs = [a] ∧ TyA P n t a := by
  obtain ⟨a, ys, rfl, ha, h⟩ := tyAs_cons h
  obtain rfl := tyAs_nil h
  exact ⟨a, rfl, ha⟩
theorem tyAs2 {P : Program} {n : Nat} {t u : TypeId} {xs : List AV} (h : TyAs P n [t, u] xs) : ∃ a b, xs = [a, b] ∧ TyA P n t a ∧ TyA P n u b := by
  obtain ⟨a, ys, rfl, ha, h⟩ := tyAs_cons h
  obtain ⟨b, rfl, hb⟩ := tyAs1 h
  exact ⟨a, b, rfl, ha, hb⟩
theorem tyAs3 {P : Program} {n : Nat} {t u v : TypeId} {xs : List AV} (h : TyAs P n [t, u, v] xs) : ∃ a b c, xs = [a, b, c] ∧ TyA P n t a ∧ TyA P n u b ∧ TyA P n v c := by
  obtain ⟨a, ys, rfl, ha, h⟩ := tyAs_cons h
  obtain ⟨b, c, rfl, hb, hc⟩ := tyAs2 h
  exact ⟨a, b, c, rfl, ha, hb, hc⟩

/-! By the type's form. -/
theorem ty_bool {P : Program} {n : Nat} {t : TypeId} {cs : List AV} (hu : P.underlying t = some .bool) (h : Ty P (n + 1) t cs) : ∃ b, cs = [.v (.bool b)] := by
  unfold Ty at h; rw [hu] at h; exact h
theorem ty_int {P : Program} {n : Nat} {t : TypeId} {k : IntKind} {cs : List AV} (hu : P.underlying t = some (.int k)) (h : Ty P (n + 1) t cs) : ∃ x, cs = [.v (.int k x)] ∧ (Lit.int k x).wf = true := by
  unfold Ty at h; rw [hu] at h; exact h
theorem ty_str {P : Program} {n : Nat} {t : TypeId} {cs : List AV} (hu : P.underlying t = some .string) (h : Ty P (n + 1) t cs) : ∃ s, cs = [.v (.string s)] ∧ s.size ≤ 140737488351232 := by
  unfold Ty at h; rw [hu] at h; exact h
theorem ty_sl {P : Program} {n : Nat} {t e : TypeId} {cs : List AV} (hu : P.underlying t = some (.slice e)) (h : Ty P (n + 1) t cs) : ∃ es, cs = [.sl (P.cellsOf e) es] ∧ es.length * P.bytesOf e ≤ 140737488351232 ∧ ∀ x ∈ es, Ty P n e x := by
  unfold Ty at h; rw [hu] at h; exact h
theorem ty_st {P : Program} {n : Nat} {t : TypeId} {fs : Array Field} {cs : List AV} (hu : P.underlying t = some (.struct fs)) (h : Ty P (n + 1) t cs) : Each (Ty P n) (fs.toList.map Field.type) cs := by
  unfold Ty at h; rw [hu] at h; exact h
theorem ty_arr {P : Program} {n k : Nat} {t e : TypeId} {cs : List AV} (hu : P.underlying t = some (.array k e)) (h : Ty P (n + 1) t cs) : Times (Ty P n e) k cs := by
  unfold Ty at h; rw [hu] at h; exact h
theorem tyA_st {P : Program} {n : Nat} {t : TypeId} {fs : Array Field} {a : AV} (hu : P.underlying t = some (.struct fs)) (h : TyA P (n + 1) t a) : ∃ cs, a = .agg cs ∧ Each (Ty P n) (fs.toList.map Field.type) cs := by
  unfold TyA at h; rw [hu] at h
  obtain ⟨cs, rfl, h⟩ := h
  exact ⟨cs, rfl, ty_st hu h⟩
theorem tyA_bool {P : Program} {n : Nat} {t : TypeId} {a : AV} (hu : P.underlying t = some .bool) (h : TyA P (n + 1) t a) : ∃ b, a = .v (.bool b) := by
  unfold TyA at h; rw [hu] at h
  obtain ⟨b, h⟩ := ty_bool hu h
  exact ⟨b, by simpa using h⟩
theorem tyA_int {P : Program} {n : Nat} {t : TypeId} {k : IntKind} {a : AV} (hu : P.underlying t = some (.int k)) (h : TyA P (n + 1) t a) : ∃ x, a = .v (.int k x) ∧ (Lit.int k x).wf = true := by
  unfold TyA at h; rw [hu] at h
  obtain ⟨b, h, hw⟩ := ty_int hu h
  exact ⟨b, by simpa using h, hw⟩
theorem tyA_str {P : Program} {n : Nat} {t : TypeId} {a : AV} (hu : P.underlying t = some .string) (h : TyA P (n + 1) t a) : ∃ x, a = .v (.string x) ∧ x.size ≤ 140737488351232 := by
  unfold TyA at h; rw [hu] at h
  obtain ⟨b, h, hw⟩ := ty_str hu h
  exact ⟨b, by simpa using h, hw⟩
theorem tyA_sl {P : Program} {n : Nat} {t e : TypeId} {a : AV} (hu : P.underlying t = some (.slice e)) (h : TyA P (n + 1) t a) : ∃ es, a = .sl (P.cellsOf e) es ∧ es.length * P.bytesOf e ≤ 140737488351232 ∧ ∀ x ∈ es, Ty P n e x := by
  unfold TyA at h; rw [hu] at h
  obtain ⟨b, h, hw⟩ := ty_sl hu h
  exact ⟨b, by simpa using h, hw⟩

/-- Fields one behind the other. -/
def fitsFs (P : Program) : Nat → List Field → Nat → Bool
  | o, [], m => o == m
  | o, f :: fs, m => f.offset == o && fitsFs P (o + P.cellsOf f.type) fs m
def plain (P : Program) : Nat → TypeId → Bool
  | 0, _ => false
  | n + 1, t => match P.underlying t with
    | some .bool | some (.int _) | some .string => P.cellsOf t == 1
    | some (.slice e) => P.cellsOf t == 1 && plain P n e && decide (0 < P.cellsOf e)
    | some (.struct fs) => fitsFs P 0 fs.toList (P.cellsOf t) && fs.toList.all fun f : Field => plain P n f.type
    | some (.array k e) => P.cellsOf t == k * P.cellsOf e && plain P n e
    | _ => false

/-- All that is there is frozen. -/
def froz (w : World) : Froz := fun b => match w.heap[b]? with
  | some (.cells c _ _) => c.size
  | _ => 0
theorem rel_start (w : World) : Rel (froz w) w (fun _ => none) :=
  ⟨fun b o h => (by cases h), fun b hb => (by simp [froz, Array.getElem?_eq_none hb])⟩
theorem froz_cell {w : World} {b o : Nat} {v : Value} (h : w.cell? ⟨b, o, none⟩ = some v) : o < froz w b := by
  unfold World.cell? at h
  unfold froz
  split at h
  · rename_i c e m hc
    simp only at hc
    rw [hc]
    simp at h
    exact (Array.getElem?_eq_some_iff.1 h).1
  · cases h

theorem choice_list {p : Nat → List AV → Prop} (n : Nat) (h : ∀ i, i < n → ∃ x, p i x) : ∃ es : List (List AV), es.length = n ∧ ∀ i, i < n → p i (es.getD i []) := by
  induction n with
  | zero => exact ⟨[], rfl, fun i hi => by omega⟩
  | succ n ih =>
    obtain ⟨es, h1, h2⟩ := ih fun i hi => h i (by omega)
    obtain ⟨x, hx⟩ := h n (by omega)
    refine ⟨es ++ [x], by simp [h1], fun i hi => ?_⟩
    by_cases hin : i < n
    · have := h2 i hin
      simpa [List.getD_eq_getElem?_getD, List.getElem?_append_left (h1 ▸ hin)] using this
    · obtain rfl : i = n := by omega
      simpa [List.getD_eq_getElem?_getD, ← h1] using hx

section
variable {H : Type} {enc : TypeId × Value → H} {P : Program} {w : World}

theorem RVs.one1 {F : Froz} {a : AV} {x : Value} (h : RV F w a x) : RVs F w [a] [x] :=
  ⟨rfl, fun j hj => by
    obtain rfl : j = 0 := by simpa using hj
    exact h⟩
theorem RVs.app {F : Froz} {cs cs' : List AV} {vs vs' : List Value} (h : RVs F w cs vs) (h' : RVs F w cs' vs') : RVs F w (cs ++ cs') (vs ++ vs') :=
  ⟨by simp [h.1, h'.1], fun j hj => by
    simp only [List.getD_eq_getElem?_getD]
    by_cases hlt : j < cs.length
    · rw [List.getElem?_append_left hlt, List.getElem?_append_left (by rw [h.1]; exact hlt)]
      simpa [List.getD_eq_getElem?_getD] using h.2 j hlt
    · rw [List.getElem?_append_right (by omega), List.getElem?_append_right (by rw [h.1]; omega), h.1]
      have := h'.2 (j - cs.length) (by simp at hj; omega)
      simpa [List.getD_eq_getElem?_getD] using this⟩

/-- What a plain type's cells read as. -/
def Opens (P : Program) (n : Nat) (w : World) (t : TypeId) (cs : List Value) : Prop :=
  ∃ avs, Ty P n t avs ∧ RVs (froz w) w avs cs ∧ avs.all AV.one = true ∧ avs.length = P.cellsOf t

theorem each_open {n m : Nat} {cs : List Value} (ih : ∀ (t : TypeId) (cs : List Value) (x : DataW H × List MemPlace), plain P n t = true → DataW.trod enc P w 0 (fun _ => true) true m t cs = some x → (∀ q ∈ x.1.weights P t, q ≤ reachBytes) → Opens P n w t cs) :
    ∀ (fs : List Field) (o : Nat) (xs : List (DataW H × List MemPlace)), fitsFs P o fs cs.length = true → (fs.all fun f : Field => plain P n f.type) = true → xs.length = fs.length →
      (∀ (i : Nat) (f : Field), fs[i]? = some f → DataW.trod enc P w 0 (fun _ => true) true m f.type ((cs.drop f.offset).take (P.cellsOf f.type)) = xs[i]?) →
      (∀ q ∈ DataW.weightsEach P (fs.map Field.type) (xs.map (·.1)), q ≤ reachBytes) →
      ∃ avs, Each (Ty P n) (fs.map Field.type) avs ∧ RVs (froz w) w avs (cs.drop o) ∧ avs.all AV.one = true ∧ o + avs.length = cs.length
  | [], o, xs, hf, hp, hl, hx, hw => by
    simp only [fitsFs, beq_iff_eq] at hf
    refine ⟨[], rfl, ⟨by simp [hf], fun j hj => by simp at hj⟩, rfl, by simpa using hf⟩
  | f :: fs, o, [], hf, hp, hl, hx, hw => by simp at hl
  | f :: fs, o, x :: xs, hf, hp, hl, hx, hw => by
    simp only [fitsFs, Bool.and_eq_true, beq_iff_eq] at hf
    simp only [List.all_cons, Bool.and_eq_true] at hp
    have h0 := hx 0 f rfl
    simp only [List.getElem?_cons_zero] at h0
    obtain ⟨a, a1, a2, a3, a4⟩ := ih f.type _ x hp.1 h0 (fun q hq => hw q (by simp only [List.map_cons, DataW.weightsEach, List.mem_append]; exact .inl hq))
    obtain ⟨b, b1, b2, b3, b4⟩ := each_open (cs := cs) ih fs (o + P.cellsOf f.type) xs hf.2 hp.2 (by simpa using hl) (fun i g hg => by simpa using hx (i + 1) g (by simpa using hg)) (fun q hq => hw q (by simp only [List.map_cons, DataW.weightsEach, List.mem_append]; exact .inr hq))
    refine ⟨a ++ b, ⟨a, b, rfl, a1, b1⟩, ?_, by simp [a3, b3], by simp; omega⟩
    have hcut : cs.drop o = (cs.drop f.offset).take (P.cellsOf f.type) ++ cs.drop (o + P.cellsOf f.type) := by
      rw [hf.1, ← List.drop_drop, List.take_append_drop]
    rw [hcut]
    exact a2.app b2

theorem times_open {n m : Nat} {e : TypeId} {cs : List Value} (ih : ∀ (cs : List Value) (x : DataW H × List MemPlace), DataW.trod enc P w 0 (fun _ => true) true m e cs = some x → (∀ q ∈ x.1.weights P e, q ≤ reachBytes) → Opens P n w e cs) :
    ∀ (k o : Nat) (xs : List (DataW H × List MemPlace)), o + k * P.cellsOf e = cs.length → xs.length = k →
      (∀ i, i < k → DataW.trod enc P w 0 (fun _ => true) true m e ((cs.drop (o + i * P.cellsOf e)).take (P.cellsOf e)) = xs[i]?) →
      (∀ q ∈ DataW.weightsAll P e (xs.map (·.1)), q ≤ reachBytes) →
      ∃ avs, Times (Ty P n e) k avs ∧ RVs (froz w) w avs (cs.drop o) ∧ avs.all AV.one = true ∧ o + avs.length = cs.length
  | 0, o, xs, hf, hl, hx, hw => by
    simp only [Nat.zero_mul, Nat.add_zero] at hf
    refine ⟨[], rfl, ⟨by simp [hf], fun j hj => by simp at hj⟩, rfl, by simpa using hf⟩
  | k + 1, o, [], hf, hl, hx, hw => by simp at hl
  | k + 1, o, x :: xs, hf, hl, hx, hw => by
    have h0 := hx 0 (by omega)
    simp only [List.getElem?_cons_zero, Nat.zero_mul, Nat.add_zero] at h0
    rw [Nat.add_mul, Nat.one_mul] at hf
    obtain ⟨a, a1, a2, a3, a4⟩ := ih _ x h0 (fun q hq => hw q (by simp only [List.map_cons, DataW.weightsAll, List.mem_append]; exact .inl hq))
    obtain ⟨b, b1, b2, b3, b4⟩ := times_open (cs := cs) ih k (o + P.cellsOf e) xs (by omega) (by simpa using hl) (fun i hi => by
      have := hx (i + 1) (by omega)
      rw [Nat.add_mul, Nat.one_mul] at this
      rw [show o + P.cellsOf e + i * P.cellsOf e = o + (i * P.cellsOf e + P.cellsOf e) by omega]
      simpa using this) (fun q hq => hw q (by simp only [List.map_cons, DataW.weightsAll, List.mem_append]; exact .inr hq))
    refine ⟨a ++ b, ⟨a, b, rfl, a1, b1⟩, ?_, by simp [a3, b3], by rw [List.length_append]; omega⟩
    have hcut : cs.drop o = (cs.drop o).take (P.cellsOf e) ++ cs.drop (o + P.cellsOf e) := by
      rw [← List.drop_drop, List.take_append_drop]
    rw [hcut]
    exact a2.app b2

theorem weightsAll_mem {e : TypeId} : ∀ {ds : List (DataW H)} {d : DataW H}, d ∈ ds → ∀ q ∈ d.weights P e, q ∈ DataW.weightsAll P e ds
  | d0 :: ds, d, hd, q, hq => by
    simp only [DataW.weightsAll, List.mem_append]
    rcases List.mem_cons.1 hd with rfl | hd
    · exact .inl hq
    · exact .inr (weightsAll_mem hd q hq)

theorem open_plain : ∀ (n : Nat) (m : Nat) (t : TypeId) (cs : List Value) (x : DataW H × List MemPlace), plain P n t = true → DataW.trod enc P w 0 (fun _ => true) true m t cs = some x → (∀ q ∈ x.1.weights P t, q ≤ reachBytes) → Opens P n w t cs := by
  intro n
  induction n with
  | zero => intro m t cs x hp; simp [plain] at hp
  | succ n ih =>
    intro m t cs x hp hx hw
    unfold plain at hp
    unfold Opens
    unfold Ty
    cases hu : P.underlying t with
    | none => rw [hu] at hp; cases hp
    | some d =>
      rw [hu] at hp
      cases d <;> simp only at hp <;> try (exact absurd hp (by decide))
      case bool =>
        obtain ⟨b, rfl, rfl⟩ := DataW.trod_bool hu hx
        exact ⟨[.v (.bool b)], ⟨b, rfl⟩, RVs.one1 (.v _), rfl, by simpa using (beq_iff_eq.1 hp).symm⟩
      case int k =>
        obtain ⟨b, rfl, rfl, hwf⟩ := DataW.trod_int hu hx
        exact ⟨[.v (.int k b)], ⟨b, rfl, hwf⟩, RVs.one1 (.v _), rfl, by simpa using (beq_iff_eq.1 hp).symm⟩
      case string =>
        obtain ⟨s, rfl, rfl, hs⟩ := DataW.trod_string hu hx
        refine ⟨[.v (.string s)], ⟨s, rfl, ?_⟩, RVs.one1 (.v _), rfl, by simpa using (beq_iff_eq.1 hp).symm⟩
        have := hw s.data.toList.length (by simp [DataW.weights])
        simpa [reachBytes] using this
      case slice e =>
        simp only [Bool.and_eq_true, beq_iff_eq, decide_eq_true_eq] at hp
        obtain ⟨⟨hp1, hp2⟩, hp3⟩ := hp
        rcases DataW.trod_slice hu hx with ⟨rfl, rfl⟩ | ⟨a, len, cap, elems, rest, m', rfl, rfl, rfl, hb, hl, hm, hlen, hel, hsp, hns⟩
        · exact ⟨[.sl (P.cellsOf e) []], ⟨[], rfl, by simp, fun x hx => by cases hx⟩, RVs.one1 (.sl0 _ _ _), rfl, by simpa using hp1.symm⟩
        · simp only [DataW.weights, hu, List.mem_cons, List.mem_append] at hw
          have hbytes := hw _ (.inl rfl)
          have each : ∀ i, i < len → ∃ avs, (Ty P n e avs ∧ avs.all AV.one = true ∧ avs.length = P.cellsOf e) ∧ ∃ vs : List Value, vs.length = P.cellsOf e ∧ (∀ j, j < P.cellsOf e → w.cell? ((a.add (i * P.cellsOf e)).add j) = vs[j]?) ∧ RVs (froz w) w avs vs := by
            intro i hi
            have h1 := hel i hi
            have hi' : i < elems.length := by omega
            rw [List.getElem?_eq_getElem hi'] at h1
            obtain ⟨vs, hcs, htr⟩ := Option.bind_eq_some_iff.1 h1
            obtain ⟨_, hvl, hvs⟩ := World.cells?_some hcs
            obtain ⟨avs, k1, k2, k3, k4⟩ := ih m' e vs _ hp2 htr (fun q hq => hw q (.inr (.inl (weightsAll_mem (List.mem_map.2 ⟨_, List.getElem_mem hi', rfl⟩) q hq))))
            exact ⟨avs, ⟨k1, k3, k4⟩, vs, hvl, hvs, k2⟩
          obtain ⟨es, he1, he2⟩ := choice_list len each
          refine ⟨[.sl (P.cellsOf e) es], ⟨es, rfl, ?_, ?_⟩, RVs.one1 ?_, rfl, by simpa using hp1.symm⟩
          · have : es.length * P.bytesOf e ≤ ((elems.map (·.1)).length + (rest.map (·.1)).length) * P.bytesOf e := Nat.mul_le_mul_right _ (by simp; omega)
            exact Nat.le_trans this (by simpa [reachBytes] using hbytes)
          · intro x hx
            obtain ⟨i, hi, rfl⟩ := List.mem_iff_getElem.1 hx
            have := (he2 i (by omega)).1.1
            simpa [List.getD_eq_getElem?_getD, hi] using this
          · by_cases h0 : len = 0
            · have : es = [] := List.eq_nil_of_length_eq_zero (by omega)
              subst this
              subst h0
              exact .sl0 _ _ _
            · obtain ⟨b, o, sp⟩ := a
              have hsp0 : sp = none := by
                obtain ⟨_, vs, hvl, hvs, _⟩ := he2 0 (by omega)
                have h1 := hvs 0 hp3
                rw [List.getElem?_eq_getElem (by omega)] at h1
                simp only [Nat.zero_mul, Addr.add, if_pos] at h1
                unfold World.cell? at h1
                split at h1
                · cases sp with
                  | none => rfl
                  | some _ => simp at h1
                · cases h1
              subst hsp0
              have hadd : ∀ b o n, (⟨b, o, none⟩ : Addr).add n = ⟨b, o + n, none⟩ := by
                intro b o n
                unfold Addr.add
                split
                · rename_i h; subst h; rfl
                · rfl
              have hcell : ∀ i j, i < len → j < P.cellsOf e → ∃ v, w.cell? ⟨b, o + (i * P.cellsOf e + j), none⟩ = some v ∧ RV (froz w) w ((es.getD i []).getD j (.v undef)) v := by
                intro i j hi hj
                obtain ⟨⟨k1, k3, k4⟩, vs, hvl, hvs, hrv⟩ := he2 i hi
                have h1 := hvs j hj
                rw [List.getElem?_eq_getElem (by omega), hadd, hadd] at h1
                refine ⟨vs[j]'(by omega), ?_, ?_⟩
                · simpa [Nat.add_assoc] using h1
                · have := hrv.2 j (by omega)
                  simpa [List.getD_eq_getElem?_getD, hvl, hj] using this
              have hall : ∀ j, j < es.length * P.cellsOf e → w.cell? ⟨b, o + j, none⟩ = some ((w.cell? ⟨b, o + j, none⟩).getD undef) := by
                intro j hj
                obtain ⟨v, hv, _⟩ := hcell (j / P.cellsOf e) (j % P.cellsOf e) (by rw [← he1]; exact Nat.div_lt_of_lt_mul (by rw [Nat.mul_comm]; exact hj)) (Nat.mod_lt _ hp3)
                rw [Nat.mul_comm, Nat.div_add_mod] at hv
                rw [hv]
                rfl
              refine .sl _ es b o (fun j => (w.cell? ⟨b, o + j, none⟩).getD undef) len cap he1.symm ?_ hl ?_ hall ?_
              · intro x hx
                obtain ⟨i, hi, rfl⟩ := List.mem_iff_getElem.1 hx
                obtain ⟨⟨k1, k3, k4⟩, _⟩ := he2 i (by omega)
                have e1 : es.getD i [] = es[i] := by simp [List.getD_eq_getElem?_getD, hi]
                rw [e1] at k3 k4
                exact ⟨k4, k3⟩
              · have hpos : 0 < es.length * P.cellsOf e := Nat.mul_pos (by omega) hp3
                have := froz_cell (hall (es.length * P.cellsOf e - 1) (by omega))
                omega
              · intro i j hi hj
                obtain ⟨v, hv, hr⟩ := hcell i j (by omega) hj
                simp only [hv, Option.getD_some]
                exact hr
      case struct fs =>
        simp only [Bool.and_eq_true] at hp
        obtain ⟨xs, m', rfl, rfl, hcl, hxl, hxs⟩ := DataW.trod_struct hu hx
        simp only [DataW.weights, hu] at hw
        obtain ⟨avs, h1, h2, h3, h4⟩ := each_open (n := n) (m := m') (cs := cs) (fun t cs x => ih m' t cs x) fs.toList 0 xs (by rw [hcl]; exact hp.1) hp.2 (by simpa using hxl) (fun i f hf => hxs i f (by simpa using hf)) hw
        exact ⟨avs, h1, by simpa using h2, h3, by omega⟩
      case array k e =>
        simp only [Bool.and_eq_true, beq_iff_eq] at hp
        obtain ⟨xs, m', rfl, rfl, hcl, hxl, hxs⟩ := DataW.trod_array hu hx
        simp only [DataW.weights, hu] at hw
        obtain ⟨avs, h1, h2, h3, h4⟩ := times_open (n := n) (m := m') (e := e) (cs := cs) (fun cs x => ih m' e cs x hp.2) k 0 xs (by rw [hcl, hp.1]; simp) hxl (fun i hi => by simpa using hxs i hi) hw
        exact ⟨avs, h1, by simpa using h2, h3, by omega⟩

theorem open_arg {n : Nat} {t : TypeId} {v : Value} {d : DataW H} {ps : List MemPlace} {base : Nat} (hp : plain P n t = true) (hval : Value.okWide P w .any base t v) (h : DataW.Trod enc P w 0 (fun _ => true) true t v d ps) (hw : ∀ q ∈ d.weights P t, q ≤ reachBytes) :
    ∃ a, TyA P n t a ∧ RV (froz w) w a v := by
  obtain ⟨m, hm⟩ := h
  obtain ⟨avs, h1, h2, h3, h4⟩ := open_plain n m t _ _ hp hm hw
  have agg : ∀ cs : Array Value, v = .agg cs → RV (froz w) w (.agg avs) v := by
    rintro cs rfl
    exact .agg avs cs (by simpa [Value.cells] using h2.1) (fun j hj => by simpa [Value.cells] using h2.2 j hj)
  have one : ∀ x, v.cells.toList = [x] → v = x → ∃ a, avs = [a] ∧ RV (froz w) w a v := by
    rintro x hx rfl
    rw [hx] at h2
    obtain ⟨a, rfl⟩ : ∃ a, avs = [a] := List.length_eq_one_iff.1 (by have := h2.1; simpa using this.symm)
    exact ⟨a, rfl, h2.2 0 (by simp)⟩
  unfold TyA
  cases n with
  | zero => simp [plain] at hp
  | succ n =>
    have hp0 := hp
    unfold plain at hp0
    cases hu : P.underlying t with
    | none => rw [hu] at hp0; cases hp0
    | some u =>
      rw [hu] at hp0
      cases u <;> simp only at hp0 <;> try (exact absurd hp0 (by decide))
      case struct fs =>
        unfold Value.okWide at hval
        rw [hu] at hval
        obtain ⟨cs, hv, _⟩ := hval
        exact ⟨_, ⟨avs, rfl, h1⟩, agg cs hv⟩
      case array k e =>
        unfold Value.okWide at hval
        rw [hu] at hval
        obtain ⟨cs, hv, _⟩ := hval
        exact ⟨_, ⟨avs, rfl, h1⟩, agg cs hv⟩
      case bool =>
        obtain ⟨b, rfl, _⟩ := open_bool hu hval ⟨m, hm⟩
        obtain ⟨a, rfl, ha⟩ := one _ rfl rfl
        exact ⟨a, h1, ha⟩
      case int k =>
        obtain ⟨b, rfl, _⟩ := open_int hu hval ⟨m, hm⟩
        obtain ⟨a, rfl, ha⟩ := one _ rfl rfl
        exact ⟨a, h1, ha⟩
      case string =>
        obtain ⟨b, rfl, _⟩ := open_string hu hval ⟨m, hm⟩
        obtain ⟨a, rfl, ha⟩ := one _ rfl rfl
        exact ⟨a, h1, ha⟩
      case slice e =>
        obtain ⟨a, len, cap, rfl⟩ := okWide_slice hu hval
        obtain ⟨a, rfl, ha⟩ := one _ rfl rfl
        exact ⟨a, h1, ha⟩

theorem open_args {n base : Nat} : ∀ (ts : List TypeId) (vs : List Value) (ds : List (DataW H)) (ps : List MemPlace), ts.all (plain P n) = true → (∀ (j : Nat) t v, ts[j]? = some t → vs[j]? = some v → Value.okWide P w .any base t v) →
    DataW.TrodAll enc P w 0 (fun _ => true) true ts vs ds ps → (∀ q ∈ DataW.weightsEach P ts ds, q ≤ reachBytes) → ∃ as, TyAs P n ts as ∧ RVs (froz w) w as vs
  | [], [], [], ps, _, _, _, _ => ⟨[], trivial, rfl, fun j hj => by simp at hj⟩
  | t :: ts, v :: vs, d :: ds, ps, hp, hval, h, hw => by
    obtain ⟨p, q, h1, h2, rfl⟩ := h
    simp only [List.all_cons, Bool.and_eq_true] at hp
    simp only [DataW.weightsEach, List.mem_append] at hw
    obtain ⟨a, ha, hr⟩ := open_arg hp.1 (hval 0 t v rfl rfl) h1 (fun q hq => hw q (.inl hq))
    obtain ⟨as, has, hrs⟩ := open_args ts vs ds q hp.2 (fun j t v ht hv => hval (j + 1) t v (by simpa using ht) (by simpa using hv)) h2 (fun q hq => hw q (.inr hq))
    exact ⟨a :: as, ⟨ha, has⟩, (RVs.one1 hr).app hrs⟩
  | [], _ :: _, _, _, _, _, h, _ => h.elim
  | [], [], _ :: _, _, _, _, h, _ => h.elim
  | _ :: _, [], _, _, _, _, h, _ => h.elim
  | _ :: _, _ :: _, [], _, _, _, h, _ => h.elim

theorem shut_args {W' : World} (hl : laidOutB P = true) (hb : Below w.heap.size w W') : ∀ (ts : List TypeId) (vs : List Value) (ds : List (DataW H)) (ps : List MemPlace), (ts.all fun t => P.readableRec t && decide (t < P.types.size)) = true →
    DataW.TrodAll enc P w 0 (fun _ => true) true ts vs ds ps → DataW.TrodAll enc P W' 0 (fun b => decide (b < w.heap.size)) true ts vs ds ps
  | [], [], [], ps, _, h => h
  | t :: ts, v :: vs, d :: ds, ps, hr, h => by
    obtain ⟨p, q, h1, h2, rfl⟩ := h
    simp only [List.all_cons, Bool.and_eq_true, decide_eq_true_eq] at hr
    refine ⟨p, q, Below.trod hl hr.1.1 hr.1.2 h1 hb ?_, shut_args hl hb ts vs ds q hr.2 h2, rfl⟩
    obtain ⟨m, hm⟩ := h1
    exact DataW.trod_lt m _ _ _ hm
  | [], _ :: _, _, _, _, h => h.elim
  | [], [], _ :: _, _, _, h => h.elim
  | _ :: _, [], _, _, _, h => h.elim
  | _ :: _, _ :: _, [], _, _, h => h.elim

/-- A law's walk: called in whatever world it answers true, and turns nothing that was there. -/
theorem AT.law {f : FuncId} {as : List AV} {args : Array Value} (h : AT P f as (fun _ => none) fun r _ => r = .v (.bool true)) (hr : RVs (froz w) w as args.toList) : Calls P f args w fun e w' => e = .returned (.bool true) ∧ Below w.heap.size w w' := by
  replace h := h.resolve_right (fun ⟨_, h⟩ => by
    unfold aClone at h
    split at h
    · simp at h
    · exact h)
  have := h.2 (froz w) w args.toList (rel_start w) hr
  rw [Array.toArray_toList] at this
  refine this.mono fun e w' ⟨x, F', σ', r, h1, h2, h3, h4, h5⟩ => ?_
  subst h5
  refine ⟨by rw [h1, h4.eq], h2.os, h2.tape, h2.output, h2.size, fun b hb => (h2.old b hb rfl).1⟩
end
end Go.Av
