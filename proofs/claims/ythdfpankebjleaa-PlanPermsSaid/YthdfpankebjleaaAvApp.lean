/-
  The program logic, part 9: append.
  Conditions: none (a library of definitions and lemmas over any program).
-/
import Derived.Test.YthdfpankebjleaaAvOps7
set_option linter.unusedVariables false
set_option linter.unusedSimpArgs false
namespace Go.Av
open Go Go.RowKit

/-- What is appended, element by element: a slice, tracked or frozen; a text's bytes. -/
def src (q : Nat) (byt : Bool) (σ : St) : AV → Option (List (List AV))
  | .sl q' es => if q' = q then some es else none
  | .fsl q' es => if q' = q then some es else none
  | .v (.slice none 0 0) => some []
  | .v (.slice (some ⟨b, p, none⟩) n cap) => match σ b with
    | some (.rows q' es _ cap') => if q' = q ∧ p % q = 0 ∧ p / q + n ≤ es.length then some ((es.drop (p / q)).take n) else none
    | _ => none
  | .v (.string s) => if byt = true ∧ q = 1 then some (s.data.toList.map byteEl) else none
  | _ => none

section
variable {P : Program} {o : Oper} {n : Nat} {fr : Fr} {a : Act} {F : Froz} {w : World} {σ : St} {k : AV → St → Prop}

theorem map_range_getD (c : Nat → Value) (m j : Nat) (h : j < m) : (((List.range m).map c)).getD j undef = c j := by
  simp [List.getD_eq_getElem?_getD, h]

/-- The cells that are appended, as they are read. -/
theorem src_ok (hs : Rel F w σ) {q : Nat} {byt : Bool} {x : AV} {X : Value} {ys : List (List AV)} (h : src q byt σ x = some ys) (hv : RV F w x X) :
    ∃ vs : List Value, vs.length = ys.length * q ∧ (∀ w', (Builtin.lenOf X).run P w' = .ok ys.length w') ∧ (∀ w' : World, w'.heap = w.heap → (Builtin.firstCells q ys.length X).run P w' = .ok vs.toArray w') ∧ (∀ e ∈ ys, e.length = q ∧ e.all AV.one = true) ∧
      ∀ i j, i < ys.length → j < q → RV F w ((ys.getD i []).getD j (.v undef)) (vs.getD (i * q + j) undef) := by
  have hidx : ∀ i j, i < ys.length → j < q → i * q + j < ys.length * q := fun i j hi hj => by
    have : (i + 1) * q ≤ ys.length * q := Nat.mul_le_mul_right _ hi
    rw [Nat.succ_mul] at this
    omega
  have mem : ∀ (b p : Nat) (c : Nat → Value) (n cap : Nat), (∀ j, j < ys.length * q → w.cell? ⟨b, p + j, none⟩ = some (c j)) → ∀ w' : World, w'.heap = w.heap → (Builtin.firstCells q ys.length (.slice (some ⟨b, p, none⟩) n cap)).run P w' = .ok ((List.range (ys.length * q)).map c).toArray w' := fun b p c n cap hc w' hw => by
    unfold Builtin.firstCells
    exact run_loadCells w' _ _ c (fun j hj => by
      rw [Addr.add_mid]
      have := hc j hj
      simp only [World.cell?] at this ⊢
      rw [hw]
      exact this)
  unfold src at h
  split at h
  · split at h
    · rename_i hq; subst hq; injection h with h; subst h
      cases hv with
      | sl0 _ ad cap =>
        refine ⟨[], by simp, fun w' => by simp [Builtin.lenOf], fun w' hw => ?_, by simp, by simp⟩
        cases ad <;> simp [Builtin.firstCells, loadCells, loadCellsFrom]
      | sl _ _ b p c nn cap hn hk hcap hF hc hr =>
        subst hn
        exact ⟨_, by simp, fun w' => by simp [Builtin.lenOf], mem b p c _ cap hc, hk, fun i j hi hj => by rw [map_range_getD _ _ _ (hidx i j hi hj)]; exact hr i j hi hj⟩
    · cases h
  · split at h
    · rename_i hq; subst hq; injection h with h; subst h
      cases hv with
      | fsl0 _ ad =>
        refine ⟨[], by simp, fun w' => by simp [Builtin.lenOf], fun w' hw => ?_, by simp, by simp⟩
        cases ad <;> simp [Builtin.firstCells, loadCells, loadCellsFrom]
      | fsl _ _ b p c nn hn hk hF hc hr =>
        subst hn
        exact ⟨_, by simp, fun w' => by simp [Builtin.lenOf], mem b p c _ _ hc, hk, fun i j hi hj => by rw [map_range_getD _ _ _ (hidx i j hi hj)]; exact hr i j hi hj⟩
    · cases h
  · injection h with h; subst h
    rw [hv.eq]
    exact ⟨[], by simp, fun w' => by simp [Builtin.lenOf], fun w' hw => by simp [Builtin.firstCells], by simp, by simp⟩
  · rename_i b p nn cap
    split at h
    · rename_i q' es' frz cap' hb
      split at h
      · rename_i hc
        obtain ⟨rfl, hp, hle0⟩ := hc
        injection h with h; subst h
        rw [hv.eq]
        obtain ⟨c, e, m, g1, g2, g3, g4, g5, g6, g7⟩ := hs.obj b _ hb
        have hlen : ((es'.drop (p / q')).take nn).length = nn := by simp; omega
        have hp' : p = p / q' * q' := by
          have := Nat.div_add_mod p q'
          rw [hp, Nat.mul_comm] at this
          omega
        have hle : (p / q' + nn) * q' ≤ cap' * q' := Nat.mul_le_mul_right _ (by omega)
        rw [Nat.add_mul, ← hp'] at hle
        have hc : ∀ j, j < ((es'.drop (p / q')).take nn).length * q' → w.cell? ⟨b, p + j, none⟩ = some (c.getD (p + j) undef) := fun j hj => by
          rw [hlen] at hj
          have hlt : p + j < c.size := by omega
          simp [World.cell?, g1, hlt]
        refine ⟨_, by simp, fun w' => by rw [hlen]; simp [Builtin.lenOf], mem b p (fun j => c.getD (p + j) undef) _ cap hc, fun e he => g4 e (List.mem_of_mem_drop (List.mem_of_mem_take he)), fun i j hi hj => ?_⟩
        rw [map_range_getD _ _ _ (hidx i j hi hj)]
        rw [hlen] at hi
        have e1 : ((es'.drop (p / q')).take nn).getD i [] = es'.getD (p / q' + i) [] := by
          simp only [List.getD_eq_getElem?_getD, List.getElem?_take, List.getElem?_drop]
          rw [if_pos hi]
        have e2 : p + (i * q' + j) = (p / q' + i) * q' + j := by rw [Nat.add_mul, ← hp']; omega
        rw [e1, e2]
        exact g7 (p / q' + i) j (by omega) hj
      · cases h
    · cases h
  · rename_i s
    split at h
    · rename_i hb
      obtain ⟨rfl, rfl⟩ := hb
      injection h with h; subst h
      rw [hv.eq]
      have hlen : (s.data.toList.map byteEl).length = s.size := by rw [List.length_map, Array.length_toList]; rfl
      refine ⟨s.data.toList.map fun b => Value.int .u8 (b.toNat : Int), by rw [hlen, List.length_map, Array.length_toList, Nat.mul_one]; rfl, fun w' => by rw [hlen]; simp [Builtin.lenOf], fun w' hw => ?_, fun e he => ?_, fun i j hi hj => ?_⟩
      · rw [hlen]
        have hx : s.extract 0 s.size = s := by simp
        simp only [Builtin.firstCells, hx, Sem.run_pure]
        congr 1
        apply Array.ext'
        simp
      · obtain ⟨q', _, rfl⟩ := List.mem_map.1 he
        exact ⟨rfl, rfl⟩
      · obtain rfl : j = 0 := by omega
        rw [hlen] at hi
        have hi' : i < s.data.toList.length := by rw [Array.length_toList]; exact hi
        have e1 := bytes_getD s.data.toList i hi'
        have e2 := vals_getD s.data.toList i hi'
        rw [Nat.mul_one, Nat.add_zero]
        rw [e1, e2]
        exact .v _
    · cases h
  · cases h

/-- 'append(s, x)', ys being x's elements. -/
def aAppTo (q eby : Nat) (ys : List (List AV)) (σ : St) (s : AV) (k : AV → St → Prop) : Prop :=
  match s with
  | .v (.slice none 0 0) => (ys = [] → k (.v (.slice none 0 0)) σ) ∧ (ys ≠ [] → ys.length * eby ≤ 140737488355328 ∧ ∀ b cap, σ b = none → ys.length ≤ cap → k (.v (.slice (some ⟨b, 0, none⟩) ys.length cap)) (σ.set b (.rows q ys false cap)))
  | .fsl q' es => q' = q ∧ (ys = [] → k (.fsl q es) σ) ∧ (ys ≠ [] → (es.length + ys.length) * eby ≤ 140737488355328 ∧ ∀ b cap, σ b = none → es.length + ys.length ≤ cap → k (.v (.slice (some ⟨b, 0, none⟩) (es.length + ys.length) cap)) (σ.set b (.rows q (es ++ ys) false cap)))
  | .v (.slice (some ⟨b, p, none⟩) n cap) =>
    (n = cap ∧ ys ≠ [] ∧ ∃ es, src q false σ (.v (.slice (some ⟨b, p, none⟩) n cap)) = some es ∧ (n + ys.length) * eby ≤ 140737488355328 ∧ ∀ b' cap', σ b' = none → n + ys.length ≤ cap' → k (.v (.slice (some ⟨b', 0, none⟩) (n + ys.length) cap')) (σ.set b' (.rows q (es ++ ys) false cap'))) ∨
    (p = 0 ∧ match σ b with
    | some (.rows q' es frz cap') => q' = q ∧ n = es.length ∧ cap = cap' ∧ (es.length + ys.length) * eby ≤ 140737488355328 ∧ ∀ b' cap'', (σ.del b) b' = none → es.length + ys.length ≤ cap'' → k (.v (.slice (some ⟨b', 0, none⟩) (es.length + ys.length) cap'')) ((σ.del b).set b' (.rows q (es ++ ys) frz cap''))
    | _ => False) ∨
    (p = 0 ∧ match σ b with
    | some (.rows q' es false cap') => q' = q ∧ n ≤ es.length ∧ cap = cap' ∧ n + ys.length ≤ cap ∧ (n + ys.length) * eby ≤ 140737488355328 ∧ k (.v (.slice (some ⟨b, 0, none⟩) (n + ys.length) cap)) (σ.set b (.rows q (es.take n ++ ys ++ es.drop (n + ys.length)) false cap))
    | _ => False)
  | _ => False
def aApp (i : Option TK) (σ : St) (s x : AV) (k : AV → St → Prop) : Prop :=
  match i with
  | none => False
  | some i => match i.td with
    | .sl q eby ez byt => 0 < q ∧ 0 < eby ∧ ez.all Value.oneCell' = true ∧ ∃ ys, src q byt σ x = some ys ∧ aAppTo q eby ys σ s k
    | _ => False

theorem zeroCells_size (z : Array Value) (m : Nat) : (Builtin.zeroCells z m).size = m * z.size := by simp [Builtin.zeroCells]

theorem not_int (d : TypeDesc) (h : ∀ q, d ≠ .int q) : (match d with | .int _ => true | _ => false) = false := by
  cases d <;> first | rfl | exact absurd rfl (h _)

/-- What append comes to, in room that is there, or in a new block. -/
theorem run_append_gen {t1 t2 ty e : TypeId} {d2 : TypeDesc} {i : TypeInfo} {z : Value} (h1 : P.underlying t1 = some (.slice e)) (h2 : P.underlying t2 = some d2) (hd2 : ∀ q, d2 ≠ .int q) (hi : P.info? e = some i) (hz : i.zero = some z)
    (base : Option Addr) (sLen sCap : Nat) (X : Value) (m : Nat) (olds news : List Value)
    (hlen : ∀ w', (Builtin.lenOf X).run P w' = .ok m w') (hnew : ∀ w' : World, w'.heap = w.heap → (Builtin.firstCells i.size m X).run P w' = .ok news.toArray w')
    (hold : ∀ w' : World, w'.heap = w.heap → (Builtin.firstCells i.size sLen (.slice base sLen sCap)).run P w' = .ok olds.toArray w')
    (hb : (sLen + m) * i.bytes ≤ 140737488355328) (hby : 0 < i.bytes) :
    (sLen + m ≤ sCap → base = none → news = [] → (Builtin.append_ #[t1, t2] ty #[.slice base sLen sCap, X]).run P w = .ok (.slice base (sLen + m) sCap) w) ∧
    (∀ b p, sLen + m ≤ sCap → base = some ⟨b, p, none⟩ → w.there b (p + sLen * i.size) news.length → (∀ v ∈ news, v.oneCell' = true) → (Builtin.append_ #[t1, t2] ty #[.slice base sLen sCap, X]).run P w = .ok (.slice base (sLen + m) sCap) (w.setCells b (p + sLen * i.size) news)) ∧
    (¬ sLen + m ≤ sCap → (Builtin.append_ #[t1, t2] ty #[.slice base sLen sCap, X]).run P w = .ok (.slice (some ⟨w.heap.size, 0, none⟩) (sLen + m) (grownCap w (sLen + m) sCap e)) (w.drew.alloc (.cells (olds.toArray ++ news.toArray ++ Builtin.zeroCells z.cells (grownCap w (sLen + m) sCap e - (sLen + m))) e))) := by
  have hzeros := not_int d2 hd2
  refine ⟨fun hr hbn hn => ?_, fun b p hr hbs hth h1c => ?_, fun hr => ?_⟩
  · subst hbn
    subst hn
    simp [Builtin.append_, run_underlying h1, run_underlying h2, hzeros, run_sizeOf' hi, hlen, hr, hnew w rfl]
  · subst hbs
    have hst := run_storeCells_cells (P := P) b (p + sLen * i.size) news 0 w (fun j hj => by simpa using (hth j hj).1) (fun j hj => by simpa using (hth j hj).2) h1c
    simp only [Nat.add_zero] at hst
    simp [Builtin.append_, run_underlying h1, run_underlying h2, hzeros, run_sizeOf' hi, hlen, hr, hnew w rfl, Addr.add_mid, hst]
  · have hsum : sLen + m ≤ (sLen + m) * i.bytes := Nat.le_mul_of_pos_right _ hby
    have h63 : ¬ (9223372036854775807 < (sLen : Int) + (m : Int)) := by omega
    have hcap := nextslicecap_le (show sCap < sLen + m by omega)
    have h48 : ¬ (281474976710656 < Builtin.nextslicecap (sLen + m) sCap * i.bytes) := by
      have := Nat.mul_le_mul_right i.bytes hcap
      rw [Nat.mul_assoc] at this
      omega
    have hti : (typeInfo e).run P w = .ok i w := by simp [typeInfo, hi]
    have hti' : ∀ w', (typeInfo e).run P w' = .ok i w' := fun w' => by simp [typeInfo, hi]
    simp [Builtin.append_, run_underlying h1, run_underlying h2, hzeros, run_sizeOf' hi, hlen, hr, h63, h48, hti', Question.forced, hold w.drew rfl, hnew w.drew rfl, run_zero' hi hz, newRow, grownCap]
    congr 2
    apply Array.ext'
    simp

theorem Rel.del (h : Rel F w σ) (b : Nat) : Rel F w (σ.del b) := ⟨fun x t hx => by
  simp only [St.del] at hx
  split at hx
  · cases hx
  · exact h.obj x t hx, h.lt⟩
theorem Ext.del (F : Froz) (w : World) (σ : St) (b : Nat) : Ext F w σ F w (σ.del b) :=
  ⟨.refl F w, rfl, rfl, rfl, Nat.le_refl _, fun x _ hx => ⟨rfl, by simp only [St.del]; split <;> first | rfl | exact hx, rfl⟩⟩

/-- A new block, of which the first m cells may be frozen, tracked. -/
theorem rel_alloc_frz (h : Rel F w σ) (ob : Obj) (m : Nat) (t : AObj) (ht : Keeps F w (frzAt F w.heap.size m) (w.drew.alloc ob) → Holds (frzAt F w.heap.size m) (w.drew.alloc ob) w.heap.size t) :
    Rel (frzAt F w.heap.size m) (w.drew.alloc ob) (σ.set w.heap.size t) ∧ Ext F w σ (frzAt F w.heap.size m) (w.drew.alloc ob) (σ.set w.heap.size t) := by
  have hkp : Keeps F w (frzAt F w.heap.size m) (w.drew.alloc ob) := (Keeps.drew F w).trans (keeps_frz h.drew ob m)
  refine ⟨⟨fun b x hb => ?_, fun b hb => ?_⟩, ⟨hkp, rfl, rfl, rfl, by simp, fun b hb hs => ⟨Below.heap_alloc w.drew ob b hb, ?_, ?_⟩⟩⟩
  · simp only [St.set] at hb
    by_cases hbb : b = w.heap.size
    · rw [if_pos hbb] at hb
      injection hb with hb
      subst hb
      subst hbb
      exact ht hkp
    · rw [if_neg hbb] at hb
      exact (h.obj b x hb).mono hkp (Below.heap_alloc w.drew ob b (h.lt_size hb)) (by unfold frzAt; rw [if_neg hbb])
  · simp at hb
    unfold frzAt
    rw [if_neg (by omega)]
    exact h.lt b (by omega)
  · simp only [St.set]
    rw [if_neg (by omega)]
    exact hs
  · unfold frzAt
    rw [if_neg (by omega)]

theorem append_getD (es ys : List (List AV)) (i : Nat) : (es ++ ys).getD i [] = if i < es.length then es.getD i [] else ys.getD (i - es.length) [] := by
  simp only [List.getD_eq_getElem?_getD]
  by_cases h : i < es.length
  · rw [if_pos h, List.getElem?_append_left h]
  · rw [if_neg h, List.getElem?_append_right (by omega)]

/-- A row's cells, old and new, in a new block. -/
theorem grown_holds (h : Rel F w σ) {q : Nat} {es ys : List (List AV)} {olds news : List Value} {e : TypeId} {z : Value} {cap : Nat} (frz : Bool) (hz : z.cells.size = q)
    (ho : olds.length = es.length * q) (hn : news.length = ys.length * q) (hes : ∀ x ∈ es, x.length = q ∧ x.all AV.one = true) (hys : ∀ x ∈ ys, x.length = q ∧ x.all AV.one = true)
    (hro : ∀ i j, i < es.length → j < q → RV F w ((es.getD i []).getD j (.v undef)) (olds.getD (i * q + j) undef)) (hrn : ∀ i j, i < ys.length → j < q → RV F w ((ys.getD i []).getD j (.v undef)) (news.getD (i * q + j) undef))
    (hcap : es.length + ys.length ≤ cap) (hkp : Keeps F w (frzAt F w.heap.size (if frz then (es.length + ys.length) * q else 0)) (w.drew.alloc (.cells (olds.toArray ++ news.toArray ++ Builtin.zeroCells z.cells (cap - (es.length + ys.length))) e))) :
    Holds (frzAt F w.heap.size (if frz then (es.length + ys.length) * q else 0)) (w.drew.alloc (.cells (olds.toArray ++ news.toArray ++ Builtin.zeroCells z.cells (cap - (es.length + ys.length))) e)) w.heap.size (.rows q (es ++ ys) frz cap) := by
  have hsize : (olds.toArray ++ news.toArray ++ Builtin.zeroCells z.cells (cap - (es.length + ys.length))).size = cap * q := by
    simp only [Array.size_append, List.size_toArray, zeroCells_size, hz, ho, hn, ← Nat.add_mul]
    congr 1
    omega
  refine ⟨_, e, (0, 0), heap_alloc_new w.drew _, by rw [hsize]; exact Nat.le_refl _, by rw [List.length_append]; exact hcap, fun x hx => ?_, fun i _ hi => by simp at hi, ?_, fun i j hi hj => ?_⟩
  · rcases List.mem_append.1 hx with h' | h'
    · exact hes x h'
    · exact hys x h'
  · unfold frzAt
    rw [if_pos rfl, List.length_append]
  · rw [List.length_append] at hi
    rw [append_getD]
    by_cases hi' : i < es.length
    · rw [if_pos hi']
      have hlt : i * q + j < olds.length := by
        rw [ho]
        have : (i + 1) * q ≤ es.length * q := Nat.mul_le_mul_right _ hi'
        rw [Nat.succ_mul] at this
        omega
      have e1 : (olds.toArray ++ news.toArray ++ Builtin.zeroCells z.cells (cap - (es.length + ys.length))).getD (i * q + j) undef = olds.getD (i * q + j) undef := by
        simp only [Array.getD_eq_getD_getElem?, List.getD_eq_getElem?_getD]
        rw [Array.append_assoc, Array.getElem?_append_left (by simpa using hlt)]
        simp
      rw [e1]
      exact (hro i j hi' hj).mono hkp
    · rw [if_neg hi']
      have hi2 : i - es.length < ys.length := by omega
      have hlt : (i - es.length) * q + j < news.length := by
        rw [hn]
        have : (i - es.length + 1) * q ≤ ys.length * q := Nat.mul_le_mul_right _ hi2
        rw [Nat.succ_mul] at this
        omega
      have hidx : i * q + j = olds.length + ((i - es.length) * q + j) := by
        rw [ho, ← Nat.add_assoc, ← Nat.add_mul, show es.length + (i - es.length) = i by omega]
      have e1 : (olds.toArray ++ news.toArray ++ Builtin.zeroCells z.cells (cap - (es.length + ys.length))).getD (i * q + j) undef = news.getD ((i - es.length) * q + j) undef := by
        simp only [Array.getD_eq_getD_getElem?, List.getD_eq_getElem?_getD]
        rw [hidx, Array.append_assoc, Array.getElem?_append_right (by simp), Array.getElem?_append_left (by simp; exact hlt)]
        simp
      rw [e1]
      exact (hrn _ j hi2 hj).mono hkp

theorem td_any {d : TypeDesc} (h : ∀ q, tdOf P d ≠ .int q) : ∀ q, d ≠ .int q := fun q e => by subst e; exact h q rfl

theorem sound_app {t1 t2 : TypeId} {s x : Operand} (ho : o.op = .call { callee := .builtin .append, args := #[s, x], argTypes := #[t1, t2] }) (hsi : opdIn n s = true) (hx : opdIn n x = true) (hf : FrRel F w n fr a) (hs : Rel F w σ)
    (ht2 : ∃ j, tk P t2 = some j ∧ ∀ q, j.td ≠ .int q) (h : aApp (tk P t1) σ (fr.ev s) (fr.ev x) k) : OpOk P o a F w σ k := by
  obtain ⟨j, hj, hjn⟩ := ht2
  obtain ⟨i2, d2, z2, b1, b2, b3, b4, b5, b6, b7, b8⟩ := tk_info hj
  have hd2 : ∀ q, d2 ≠ .int q := td_any (P := P) (by rw [← b7]; exact hjn)
  cases ht : tk P t1 with
  | none => simp [ht, aApp] at h
  | some i =>
    obtain ⟨inf, d, z, h1, h2, h3, h4, h5, h6, h7, h8⟩ := tk_info ht
    simp only [ht, aApp] at h
    cases htd : i.td with
    | sl q eby ez byt =>
      obtain ⟨e, ie, ze, rfl, k1, rfl, rfl, k4, rfl, k6, k7⟩ := td_sl (P := P) (by rw [← h7, htd])
      simp only [htd] at h
      obtain ⟨hq, hby, hez, ys, hsrc, h⟩ := h
      obtain ⟨news, n1, n2, n3, n4, n5⟩ := src_ok (P := P) hs hsrc (hf.ev x hx)
      have hgo : ∀ y w', (Builtin.append_ #[t1, t2] o.type #[a.eval s, a.eval x]).run P w = .ok y w' → (execOp a.eval o).run P w = .ok (.value y) w' := fun y w' hy => by
        simp [execOp, ho, resolve, invoke, builtin, hy]
      have hone : ∀ v ∈ news, v.oneCell' = true := fun v hv => by
        obtain ⟨j, hj, rfl⟩ := List.getElem_of_mem hv
        have hlt : j < ys.length * ie.size := by omega
        have hi : j / ie.size < ys.length := (Nat.div_lt_iff_lt_mul hq).2 hlt
        have hm : j % ie.size < ie.size := Nat.mod_lt _ hq
        have hr := n5 _ _ hi hm
        rw [show j / ie.size * ie.size + j % ie.size = j by rw [Nat.mul_comm]; exact Nat.div_add_mod j _] at hr
        have e1 : news.getD j undef = news[j] := by simp [List.getD_eq_getElem?_getD, hj]
        rw [e1] at hr
        refine hr.one ?_
        have e2 : ys.getD (j / ie.size) [] = ys[j / ie.size] := by simp [List.getD_eq_getElem?_getD, hi]
        have := n4 _ (List.getElem_mem hi)
        rw [e2]
        have e3 : (ys[j / ie.size]).getD (j % ie.size) (.v undef) = (ys[j / ie.size])[j % ie.size]'(by omega) := by simp [List.getD_eq_getElem?_getD, this.1, hm]
        rw [e3]
        exact (List.all_eq_true.1 this.2) _ (List.getElem_mem _)
      have hv := hf.ev s hsi
      revert h hv
      generalize fr.ev s = p
      intro h hv
      unfold aAppTo at h
      split at h
      · have ex := hv.eq
        have hrun := run_append_gen (P := P) (w := w) (ty := o.type) h2 b2 hd2 k1 k4 none 0 0 (a.eval x) ys.length [] news n2 n3 (fun w' _ => by simp [Builtin.firstCells])
        by_cases hys : ys = []
        · subst hys
          refine opOk_pure hs (hgo _ _ ?_) (.v _) (h.1 rfl)
          rw [ex]
          have hnn : news = [] := List.eq_nil_of_length_eq_zero (by simpa using n1)
          exact (hrun (by simp) hby).1 (by simp) rfl hnn
        · obtain ⟨hb, hk⟩ := h.2 hys
          have hpos : 0 < ys.length := List.length_pos_iff.2 hys
          have hr := (hrun (by simpa using hb) hby).2.2 (by omega)
          simp only [Nat.zero_add] at hr
          have hcap := grownCap_ge w ys.length 0 e
          have hg := grown_holds (F := F) (es := []) (olds := []) hs (e := e) (z := ze) (cap := grownCap w ys.length 0 e) false k6 (by simp) n1 (by simp) n4 (by simp) n5 (by simpa using hcap)
          simp only [List.length_nil, Nat.zero_add, List.nil_append] at hg
          obtain ⟨r1, r2⟩ := rel_alloc_frz hs _ _ _ hg
          exact opOk_value (hgo _ _ (by rw [ex]; exact hr)) r2 r1 (.v _) (hk _ _ (fresh_none hs (Nat.le_refl _)) hcap)
      · rename_i q' es
        obtain ⟨rfl, h⟩ := h
        by_cases hys : ys = []
        · subst hys
          have hnn : news = [] := List.eq_nil_of_length_eq_zero (by simpa using n1)
          subst hnn
          have hform : ∃ ad, a.eval s = .slice ad es.length es.length := by
            cases hX : a.eval s with
            | slice ad len cap =>
              rw [hX] at hv
              cases hv with
              | fsl0 _ _ => exact ⟨_, rfl⟩
              | fsl _ _ b p c _ hn hk hF hc hr => subst hn; exact ⟨_, rfl⟩
            | _ => rw [hX] at hv; cases hv
          obtain ⟨ad, ex⟩ := hform
          refine opOk_pure hs (hgo (.slice ad es.length es.length) _ ?_) (by rw [← ex]; exact hv) (h.1 rfl)
          rw [ex]
          have hzeros := not_int d2 hd2
          have hn0 := n3 w rfl
          simp only [List.length_nil] at n2 hn0
          cases ad <;> simp [Builtin.append_, run_underlying h2, run_underlying b2, hzeros, run_sizeOf' k1, n2, hn0, storeCells]
        · obtain ⟨hb, hk⟩ := h.2 hys
          have hpos : 0 < ys.length := List.length_pos_iff.2 hys
          have hvs : RV F w (.sl ie.size es) (a.eval s) := by
            generalize a.eval s = X at hv
            cases hv with
            | fsl0 _ a => exact .sl0 _ _ _
            | fsl _ _ b p c n hn hk hF hc hr => exact .sl _ _ b p c n n hn hk (Nat.le_refl _) hF hc hr
          obtain ⟨olds, m1, m2, m3, m4, m5⟩ := src_ok (P := P) hs (q := ie.size) (ys := es) (byt := byt) (x := .sl ie.size es) (by simp [src]) hvs
          have hform : ∃ ad, a.eval s = .slice ad es.length es.length := by
            cases hX : a.eval s with
            | slice ad len cap =>
              rw [hX] at hv
              cases hv with
              | fsl0 _ _ => exact ⟨_, rfl⟩
              | fsl _ _ b p c _ hn hk hF hc hr => subst hn; exact ⟨_, rfl⟩
            | _ => rw [hX] at hv; cases hv
          obtain ⟨ad, ex⟩ := hform
          rw [ex] at m3
          have hr := (run_append_gen (P := P) (w := w) (ty := o.type) h2 b2 hd2 k1 k4 ad es.length es.length (a.eval x) ys.length olds news n2 n3 m3 hb hby).2.2 (by omega)
          have hcap := grownCap_ge w (es.length + ys.length) es.length e
          have hg := grown_holds (F := F) hs (e := e) (z := ze) (cap := grownCap w (es.length + ys.length) es.length e) false k6 m1 n1 m4 n4 m5 n5 hcap
          obtain ⟨r1, r2⟩ := rel_alloc_frz hs _ _ _ hg
          exact opOk_value (hgo _ _ (by rw [ex]; exact hr)) r2 r1 (.v _) (hk _ _ (fresh_none hs (Nat.le_refl _)) hcap)
      · rename_i b p len cap
        rcases h with ⟨rfl, hys, es, hes, hbd, hk⟩ | ⟨rfl, h⟩ | ⟨rfl, h⟩
        · have hlen : es.length = len := by
            simp only [src] at hes
            split at hes
            · split at hes
              · rename_i hc
                injection hes with hes
                subst hes
                simp
                omega
              · cases hes
            · cases hes
          have hpos : 0 < ys.length := List.length_pos_iff.2 hys
          have ex := hv.eq
          obtain ⟨olds, m1, m2, m3, m4, m5⟩ := src_ok (P := P) hs hes (.v _)
          rw [hlen] at m3
          have hr := (run_append_gen (P := P) (w := w) (ty := o.type) h2 b2 hd2 k1 k4 (some ⟨b, p, none⟩) len len (a.eval x) ys.length olds news n2 n3 m3 hbd hby).2.2 (by omega)
          have hcap := grownCap_ge w (len + ys.length) len e
          rw [← hlen] at hcap
          have hg := grown_holds (F := F) hs (e := e) (z := ze) (cap := grownCap w (es.length + ys.length) es.length e) false k6 m1 n1 m4 n4 m5 n5 hcap
          obtain ⟨r1, r2⟩ := rel_alloc_frz hs _ _ _ hg
          rw [hlen] at hcap r1 r2
          exact opOk_value (hgo _ _ (by rw [ex]; exact hr)) r2 r1 (.v _) (hk _ _ (fresh_none hs (Nat.le_refl _)) hcap)
        cases hb : σ b with
        | none => simp [hb] at h
        | some ob =>
          cases ob with
          | cells _ => simp [hb] at h
          | map _ => simp [hb] at h
          | loop _ _ _ _ _ _ _ => simp [hb] at h
          | rows q' es frz cap' =>
            simp only [hb] at h
            obtain ⟨rfl, rfl, rfl, hbd, hk⟩ := h
            have ex := hv.eq
            obtain ⟨olds, m1, m2, m3, m4, m5⟩ := src_ok (P := P) hs (q := ie.size) (ys := es) (byt := byt) (x := .v (.slice (some ⟨b, 0, none⟩) es.length cap)) (by simp [src, hb]) (.v _)
            have hgen := run_append_gen (P := P) (w := w) (ty := o.type) h2 b2 hd2 k1 k4 (some ⟨b, 0, none⟩) es.length cap (a.eval x) ys.length olds news n2 n3 m3 hbd hby
            have hdel := hs.del b
            have hed := Ext.del F w σ b
            by_cases hroom : es.length + ys.length ≤ cap
            · obtain ⟨c, e', m, g1, g2, g3, g4, g5, g6, g7⟩ := hs.obj b _ hb
              have hfit : es.length * ie.size + news.length ≤ c.size := by
                rw [n1, ← Nat.add_mul]
                exact Nat.le_trans (Nat.mul_le_mul_right _ hroom) g2
              have hth : w.there b (0 + es.length * ie.size) news.length := fun j hj => by
                have hlt : es.length * ie.size + j < c.size := by omega
                rw [Nat.zero_add]
                refine ⟨by simp [World.cell?, g1, hlt], ?_⟩
                have := g5 (es.length * ie.size + j) hlt
                simp only [World.frozen?, g1]
                simpa using this
              have hr := hgen.2.1 b 0 hroom rfl hth hone
              rw [Nat.zero_add] at hr
              obtain ⟨c', q1, q2, q3⟩ := heap_setCells b e' m news (es.length * ie.size) w c g1
              have hFb : F b ≤ es.length * ie.size := by rw [g6]; split <;> omega
              have hkp : Keeps F w (frzAt F b (if frz then (es.length + ys.length) * ie.size else 0)) (w.setCells b (es.length * ie.size) news) := ⟨fun x => by
                  unfold frzAt
                  split
                  · rename_i hx; subst hx
                    rw [g6]
                    cases frz with
                    | true => exact Nat.mul_le_mul_right _ (by omega)
                    | false => exact Nat.le_refl _
                  · exact Nat.le_refl _, fun x off hoff => by
                  refine World.cell?_setCells_out b news _ w _ (fun hxb _ => ?_)
                  simp only at hxb
                  subst hxb
                  left
                  show off < es.length * ie.size
                  omega⟩
              obtain ⟨z1, z2, z3⟩ := rest_setCells b news (es.length * ie.size) w
              refine opOk_value (σ' := (σ.del b).set b (.rows ie.size (es ++ ys) frz cap)) (F' := frzAt F b (if frz then (es.length + ys.length) * ie.size else 0)) (hgo _ _ (by rw [ex]; exact hr)) ⟨hkp, z1, z2, z3, by rw [size_setCells]; exact Nat.le_refl _, fun x hx hn => ?_⟩ ⟨fun x t hx => ?_, fun x hx => ?_⟩ (.v _) (hk b cap (by simp [St.del]) hroom)
              · have hne : x ≠ b := fun e => by subst e; simp [hb] at hn
                exact ⟨heap_setCells_other b news _ w x hne, by simp [St.set, St.del, hne, hn], by simp [frzAt, hne]⟩
              · simp only [St.set] at hx
                by_cases hxb : x = b
                · rw [if_pos hxb] at hx
                  injection hx with hx
                  subst hx
                  subst hxb
                  refine ⟨c', e', m, q1, by rw [q2]; exact g2, by rw [List.length_append]; exact hroom, fun x hx => ?_, by rw [q2]; exact g5, by unfold frzAt; rw [if_pos rfl, List.length_append], fun i j hi hj => ?_⟩
                  · rcases List.mem_append.1 hx with h' | h'
                    · exact g4 x h'
                    · exact n4 x h'
                  · rw [List.length_append] at hi
                    rw [append_getD]
                    by_cases hi' : i < es.length
                    · have : i * ie.size + j < es.length * ie.size := by
                        have : (i + 1) * ie.size ≤ es.length * ie.size := Nat.mul_le_mul_right _ hi'
                        rw [Nat.succ_mul] at this
                        omega
                      have e1 : c'.getD (i * ie.size + j) undef = c.getD (i * ie.size + j) undef := by rw [q3, if_neg (by omega)]
                      rw [if_pos hi', e1]
                      exact (g7 i j hi' hj).mono hkp
                    · have hi2 : i - es.length < ys.length := by omega
                      have hlt : (i - es.length) * ie.size + j < news.length := by
                        rw [n1]
                        have : (i - es.length + 1) * ie.size ≤ ys.length * ie.size := Nat.mul_le_mul_right _ hi2
                        rw [Nat.succ_mul] at this
                        omega
                      have hidx : i * ie.size + j = es.length * ie.size + ((i - es.length) * ie.size + j) := by
                        rw [← Nat.add_assoc, ← Nat.add_mul, show es.length + (i - es.length) = i by omega]
                      have e1 : c'.getD (i * ie.size + j) undef = news.getD ((i - es.length) * ie.size + j) undef := by
                        rw [q3, if_pos (by omega), show i * ie.size + j - es.length * ie.size = (i - es.length) * ie.size + j by omega]
                      rw [if_neg hi', e1]
                      exact (n5 _ j hi2 hj).mono hkp
                · rw [if_neg hxb] at hx
                  simp only [St.del, hxb, if_false] at hx
                  exact (hs.obj x t hx).mono hkp (heap_setCells_other b news _ w x hxb) (by simp [frzAt, hxb])
              · rw [size_setCells] at hx
                have := hs.lt_size hb
                unfold frzAt
                rw [if_neg (by omega)]
                exact hs.lt x hx
            · have hr := hgen.2.2 hroom
              have hcap := grownCap_ge w (es.length + ys.length) cap e
              have hg := grown_holds (F := F) hdel (e := e) (z := ze) (cap := grownCap w (es.length + ys.length) cap e) frz k6 m1 n1 m4 n4 m5 n5 hcap
              obtain ⟨r1, r2⟩ := rel_alloc_frz hdel _ _ _ hg
              exact opOk_value (hgo _ _ (by rw [ex]; exact hr)) (hed.trans r2) r1 (.v _) (hk _ _ (fresh_none hdel (Nat.le_refl _)) hcap)
        · cases hb : σ b with
          | none => simp [hb] at h
          | some ob =>
            cases ob with
            | cells _ => simp [hb] at h
            | map _ => simp [hb] at h
            | loop _ _ _ _ _ _ _ => simp [hb] at h
            | rows q' es frz cap' =>
              cases frz with
              | true => simp [hb] at h
              | false =>
                simp only [hb] at h
                obtain ⟨rfl, hle, rfl, hroom, hbd, hk⟩ := h
                have ex := hv.eq
                obtain ⟨olds, m1, m2, m3, m4, m5⟩ := src_ok (P := P) hs (q := ie.size) (ys := es.take len) (byt := byt) (x := .v (.slice (some ⟨b, 0, none⟩) len cap)) (by simp [src, hb, hle]) (.v _)
                rw [List.length_take, Nat.min_eq_left hle] at m3
                have hgen := run_append_gen (P := P) (w := w) (ty := o.type) h2 b2 hd2 k1 k4 (some ⟨b, 0, none⟩) len cap (a.eval x) ys.length olds news n2 n3 m3 hbd hby
                obtain ⟨c, e', m, g1, g2, g3, g4, g5, g6, g7⟩ := hs.obj b _ hb
                have hfit : len * ie.size + news.length ≤ c.size := by
                  rw [n1, ← Nat.add_mul]
                  exact Nat.le_trans (Nat.mul_le_mul_right _ hroom) g2
                have hth : w.there b (0 + len * ie.size) news.length := fun j hj => by
                  have hlt : len * ie.size + j < c.size := by omega
                  rw [Nat.zero_add]
                  refine ⟨by simp [World.cell?, g1, hlt], ?_⟩
                  have := g5 (len * ie.size + j) hlt
                  simp only [World.frozen?, g1]
                  simpa using this
                have hr := hgen.2.1 b 0 hroom rfl hth hone
                rw [Nat.zero_add] at hr
                obtain ⟨c', q1, q2, q3⟩ := heap_setCells b e' m news (len * ie.size) w c g1
                have g6' : F b = 0 := g6
                obtain ⟨r1, r2⟩ := store_ext hs hb g6' (len * ie.size) news (.rows ie.size (es.take len ++ ys ++ es.drop (len + ys.length)) false cap) fun hkp => by
                  have hlen : (es.take len ++ ys ++ es.drop (len + ys.length)).length = len + ys.length + (es.length - (len + ys.length)) := by
                    simp [Nat.min_eq_left hle]
                    omega
                  refine ⟨c', e', m, q1, by rw [q2]; exact g2, by rw [hlen]; omega, fun x hx => ?_, by rw [q2]; exact g5, g6', fun i j hi hj => ?_⟩
                  · rcases List.mem_append.1 hx with h' | h'
                    · rcases List.mem_append.1 h' with h' | h'
                      · exact g4 x (List.mem_of_mem_take h')
                      · exact n4 x h'
                    · exact g4 x (List.mem_of_mem_drop h')
                  · rw [hlen] at hi
                    by_cases h1 : i < len
                    · have e1 : (es.take len ++ ys ++ es.drop (len + ys.length)).getD i [] = es.getD i [] := by
                        rw [List.append_assoc]
                        simp only [List.getD_eq_getElem?_getD]
                        rw [List.getElem?_append_left (by simp; omega), List.getElem?_take, if_pos h1]
                      have hlt : i * ie.size + j < len * ie.size := by
                        have : (i + 1) * ie.size ≤ len * ie.size := Nat.mul_le_mul_right _ h1
                        rw [Nat.succ_mul] at this
                        omega
                      have e2 : c'.getD (i * ie.size + j) undef = c.getD (i * ie.size + j) undef := by rw [q3, if_neg (by omega)]
                      rw [e1, e2]
                      exact (g7 i j (by omega) hj).mono hkp
                    · by_cases h2 : i < len + ys.length
                      · have e1 : (es.take len ++ ys ++ es.drop (len + ys.length)).getD i [] = ys.getD (i - len) [] := by
                          rw [List.append_assoc]
                          simp only [List.getD_eq_getElem?_getD]
                          rw [List.getElem?_append_right (by simp; omega), List.getElem?_append_left (by simp; omega)]
                          simp [Nat.min_eq_left hle]
                        have hlt : (i - len) * ie.size + j < news.length := by
                          rw [n1]
                          have : (i - len + 1) * ie.size ≤ ys.length * ie.size := Nat.mul_le_mul_right _ (by omega)
                          rw [Nat.succ_mul] at this
                          omega
                        have hidx : i * ie.size + j = len * ie.size + ((i - len) * ie.size + j) := by
                          rw [← Nat.add_assoc, ← Nat.add_mul, show len + (i - len) = i by omega]
                        have e2 : c'.getD (i * ie.size + j) undef = news.getD ((i - len) * ie.size + j) undef := by
                          rw [q3, if_pos (by omega), show i * ie.size + j - len * ie.size = (i - len) * ie.size + j by omega]
                        rw [e1, e2]
                        exact (n5 _ j (by omega) hj).mono hkp
                      · have e1 : (es.take len ++ ys ++ es.drop (len + ys.length)).getD i [] = es.getD i [] := by
                          simp only [List.getD_eq_getElem?_getD]
                          rw [List.getElem?_append_right (by simp; omega), List.getElem?_drop]
                          congr 2
                          simp [Nat.min_eq_left hle]
                          omega
                        have hge : len * ie.size + news.length ≤ i * ie.size := by
                          rw [n1, ← Nat.add_mul]
                          exact Nat.mul_le_mul_right _ (by omega)
                        have e2 : c'.getD (i * ie.size + j) undef = c.getD (i * ie.size + j) undef := by rw [q3, if_neg (by omega)]
                        rw [e1, e2]
                        exact (g7 i j (by omega) hj).mono hkp
                exact opOk_value (hgo _ _ (by rw [ex]; exact hr)) r2 r1 (.v _) hk
      · exact h.elim
    | _ => simp [htd] at h
end
end Go.Av
