/-
  The program logic, part 11: the operations that came later, in one: maps, least and greatest of two, interfaces that hold exact values; what they look at, that they hand more on.
  Conditions: none (a library of definitions and lemmas over any program).
-/
import Derived.Test.YthdfpankebjleaaAvMap
import Derived.Lib.MinMax
set_option linter.unusedVariables false
set_option linter.unusedSimpArgs false
namespace Go.Av
open Go Go.RowKit

def aMin (x y : AV) (k : AV → Prop) : Prop :=
  match x, y with
  | .v (.int i a), .v (.int _ b) => k (.v (.int i (min a b)))
  | _, _ => False
def aMax (x y : AV) (k : AV → Prop) : Prop :=
  match x, y with
  | .v (.int i a), .v (.int _ b) => k (.v (.int i (max a b)))
  | _, _ => False
/-- The type is no interface. -/
def isConc (P : Program) (t : TypeId) : Bool :=
  match P.underlying t with
  | some (.interface _) => false
  | some _ => true
  | none => false
def aMkI (P : Program) (t : TypeId) (x : AV) (k : AV → Prop) : Prop :=
  isConc P t = true ∧ match x with
  | .v y => k (.v (.iface t y))
  | _ => False
def aTyA (P : Program) (u : TypeId) (x : AV) (k : AV → Prop) : Prop :=
  isConc P u = true ∧ match x with
  | .v (.iface t y) => t = u ∧ k (.v y)
  | _ => False
/-- A part of a row is cleared. -/
def aClear (i : Option TK) (σ : St) (x : AV) (k : AV → St → Prop) : Prop :=
  match i with
  | none => False
  | some i => match i.td with
    | .sl q _ ez _ => match x with
      | .v (.slice none _ _) => k (.tup []) σ
      | .v (.slice (some ⟨b, p, none⟩) n _) => if n = 0 then k (.tup []) σ else match σ b with
        | some (.rows q' es false cap) => q' = q ∧ 0 < q ∧ p % q = 0 ∧ p / q + n ≤ es.length ∧ ez.all Value.oneCell' = true ∧ k (.tup []) (σ.set b (.rows q (es.take (p / q) ++ List.replicate n (ez.map .v) ++ es.drop (p / q + n)) false cap))
        | _ => False
      | _ => False
    | _ => False
/-- A builtin. -/
def aBI (P : Program) (b : Builtin) (args : List AV) (ts : List TypeId) (σ : St) (k : AV → St → Prop) : Prop :=
  match b with
  | .delete => match args, ts with
    | [m, x], [t, _] => aMapDel P (tk P t) σ m x k
    | _, _ => False
  | .min => match args with
    | [x, y] => aMin x y fun v => k v σ
    | _ => False
  | .max => match args with
    | [x, y] => aMax x y fun v => k v σ
    | _ => False
  | .clear => match args, ts with
    | [x], [t] => aClear (tk P t) σ x k
    | _, _ => False
  | _ => False
/-- A new row of zeros. -/
def aMkSl (i : Option TK) (σ : St) (l c : AV) (k : AV → St → Prop) : Prop :=
  match i with
  | some i => match i.td with
    | .sl q eby ez _ => match l, c with
      | .v (.int _ l), .v (.int _ c) => 0 < q ∧ 0 < eby ∧ ez.all Value.oneCell' = true ∧ 0 ≤ l ∧ l ≤ c ∧ (eby : Int) * c ≤ 281474976710656 ∧
        ∀ b, σ b = none → k (.v (.slice (some ⟨b, 0, none⟩) l.toNat c.toNat)) (σ.set b (.rows q (List.replicate l.toNat (ez.map .v)) false c.toNat))
      | _, _ => False
    | _ => False
  | none => False
/-- A function that will be called at the end, and does nothing then. -/
def aDefer (P : Program) (c : Call) (fr : Fr) (σ : St) (k : AV → St → Prop) : Prop :=
  match c.callee, c.args.toList with
  | .value (.tmp t), [] => match fr t with
    | .v (.func (.func f) first captured) => (∃ fn, P.funcs[f]? = some fn ∧ fn.body.isSome = true ∧ fn.name ≠ "runtime.NumGoroutine") ∧ IdleF P f (first ++ captured) ∧ k (.v undef) σ
    | _ => False
  | _, _ => False
def aMore (P : Program) (o : Op) (fr : Fr) (σ : St) (k : AV → St → Prop) : Prop :=
  match o with
  | .makeSlice t l c => aMkSl (tk P t) σ (fr.ev l) (fr.ev c) k
  | .defer c => aDefer P c fr σ k
  | .makeMap _ none => aMkMap σ k
  | .lookup t m x ok => aLook P (tk P t) σ (fr.ev m) (fr.ev x) ok fun v => k v σ
  | .mapUpdate t m x y => aMapPut P (tk P t) σ (fr.ev m) (fr.ev x) (fr.ev y) fun σ' => k (.v undef) σ'
  | .makeInterface t x => aMkI P t (fr.ev x) fun v => k v σ
  | .typeAssert x _ u false => aTyA P u (fr.ev x) fun v => k v σ
  | _ => False

section
variable {P : Program} {o : Oper} {n : Nat} {fr : Fr} {a : Act} {F : Froz} {w : World} {σ : St} {k : AV → St → Prop}

theorem OpOk.mono {k' : AV → St → Prop} (h : OpOk P o a F w σ k) (hk : ∀ v σ', k v σ' → k' v σ') : OpOk P o a F w σ k' :=
  fun ro next Q hd hn => h ro next Q hd fun F' w' x v σ' ds h1 h2 h3 h4 h5 => hn F' w' x v σ' ds h1 h2 h3 (hk v σ' h4) h5

theorem quiet_ok {k1 : AV → Prop} (h : Quiet P o a F w k1) (hs : Rel F w σ) (hk : ∀ v, k1 v → k v σ) : OpOk P o a F w σ k :=
  (h.ok hs).mono fun v σ' ⟨e, h⟩ => by subst e; exact hk v h

theorem conc_of {t : TypeId} (h : isConc P t = true) : ∃ d, P.underlying t = some d ∧ ∀ ms, d ≠ .interface ms := by
  unfold isConc at h
  split at h
  · cases h
  · rename_i d hne hd
    exact ⟨_, hd, fun ms e => hne ms e⟩
  · cases h

theorem splice_rows {q : Nat} {es ys : List (List AV)} {m i : Nat} : (es.take m ++ ys ++ es.drop (m + ys.length)).getD i [] = if i < m ∧ m ≤ es.length then es.getD i [] else if m ≤ es.length ∧ i < m + ys.length then ys.getD (i - m) [] else (es.take m ++ ys ++ es.drop (m + ys.length)).getD i [] := by
  by_cases hm : m ≤ es.length
  · by_cases h1 : i < m
    · rw [if_pos ⟨h1, hm⟩, List.append_assoc]
      simp only [List.getD_eq_getElem?_getD]
      rw [List.getElem?_append_left (by simp; omega), List.getElem?_take, if_pos h1]
    · rw [if_neg (by omega)]
      by_cases h2 : i < m + ys.length
      · rw [if_pos ⟨hm, h2⟩, List.append_assoc]
        simp only [List.getD_eq_getElem?_getD]
        rw [List.getElem?_append_right (by simp; omega), List.getElem?_append_left (by simp; omega)]
        simp [Nat.min_eq_left hm]
      · rw [if_neg (by omega)]
  · rw [if_neg (by omega), if_neg (by omega)]
/-- A row's elements from m on are laid anew. -/
theorem rows_set (hs : Rel F w σ) {b q m : Nat} {es ys : List (List AV)} {cap : Nat} {news : List Value} (hb : σ b = some (.rows q es false cap)) (hm : m + ys.length ≤ es.length) (hq : 0 < q) (n1 : news.length = ys.length * q) (n4 : ∀ e ∈ ys, e.length = q ∧ e.all AV.one = true)
    (n5 : ∀ i j, i < ys.length → j < q → RV F w ((ys.getD i []).getD j (.v undef)) (news.getD (i * q + j) undef)) :
    Rel F (w.setCells b (m * q) news) (σ.set b (.rows q (es.take m ++ ys ++ es.drop (m + ys.length)) false cap)) ∧ Ext F w σ F (w.setCells b (m * q) news) (σ.set b (.rows q (es.take m ++ ys ++ es.drop (m + ys.length)) false cap)) ∧ w.there b (m * q) news.length := by
  obtain ⟨c, e', mm, g1, g2, g3, g4, g5, g6, g7⟩ := hs.obj b _ hb
  have g6' : F b = 0 := g6
  have hle : m ≤ es.length := by omega
  have hfit : m * q + news.length ≤ c.size := by
    rw [n1, ← Nat.add_mul]
    exact Nat.le_trans (Nat.mul_le_mul_right _ (by omega)) g2
  have hth : w.there b (m * q) news.length := fun j hj => by
    have hlt : m * q + j < c.size := by omega
    refine ⟨by simp [World.cell?, g1, hlt], ?_⟩
    have := g5 (m * q + j) hlt
    simp only [World.frozen?, g1]
    simpa using this
  obtain ⟨c', q1, q2, q3⟩ := heap_setCells b e' mm news (m * q) w c g1
  obtain ⟨r1, r2⟩ := store_ext hs hb g6' (m * q) news (.rows q (es.take m ++ ys ++ es.drop (m + ys.length)) false cap) fun hkp => by
    have hlen : (es.take m ++ ys ++ es.drop (m + ys.length)).length = es.length := by
      simp [Nat.min_eq_left hle]
      omega
    refine ⟨c', e', mm, q1, by rw [q2]; exact g2, by rw [hlen]; exact g3, fun x hx => ?_, by rw [q2]; exact g5, g6', fun i j hi hj => ?_⟩
    · rcases List.mem_append.1 hx with h' | h'
      · rcases List.mem_append.1 h' with h' | h'
        · exact g4 x (List.mem_of_mem_take h')
        · exact n4 x h'
      · exact g4 x (List.mem_of_mem_drop h')
    · rw [hlen] at hi
      by_cases h1 : i < m
      · have hlt : i * q + j < m * q := by
          have : (i + 1) * q ≤ m * q := Nat.mul_le_mul_right _ h1
          rw [Nat.succ_mul] at this
          omega
        have e2 : c'.getD (i * q + j) undef = c.getD (i * q + j) undef := by rw [q3, if_neg (by omega)]
        rw [splice_rows (q := q), if_pos ⟨h1, hle⟩, e2]
        exact (g7 i j hi hj).mono hkp
      · by_cases h2 : i < m + ys.length
        · have hlt : (i - m) * q + j < news.length := by
            rw [n1]
            have : (i - m + 1) * q ≤ ys.length * q := Nat.mul_le_mul_right _ (by omega)
            rw [Nat.succ_mul] at this
            omega
          have hidx : i * q + j = m * q + ((i - m) * q + j) := by
            rw [← Nat.add_assoc, ← Nat.add_mul, show m + (i - m) = i by omega]
          have e2 : c'.getD (i * q + j) undef = news.getD ((i - m) * q + j) undef := by
            rw [q3, if_pos (by omega), show i * q + j - m * q = (i - m) * q + j by omega]
          rw [splice_rows (q := q), if_neg (by omega), if_pos ⟨hle, h2⟩, e2]
          exact (n5 _ j (by omega) hj).mono hkp
        · have e1 : (es.take m ++ ys ++ es.drop (m + ys.length)).getD i [] = es.getD i [] := by
            simp only [List.getD_eq_getElem?_getD]
            rw [List.getElem?_append_right (by simp; omega), List.getElem?_drop]
            congr 2
            simp [Nat.min_eq_left hle]
            omega
          have hge : m * q + news.length ≤ i * q := by
            rw [n1, ← Nat.add_mul]
            exact Nat.mul_le_mul_right _ (by omega)
          have e2 : c'.getD (i * q + j) undef = c.getD (i * q + j) undef := by rw [q3, if_neg (by omega)]
          rw [e1, e2]
          exact (g7 i j hi hj).mono hkp
  exact ⟨r1, r2, hth⟩

theorem sound_clear {t : TypeId} {x : Operand} (ho : o.op = .call { callee := .builtin .clear, args := #[x], argTypes := #[t] }) (hx : opdIn n x = true) (hf : FrRel F w n fr a) (hs : Rel F w σ) (h : aClear (tk P t) σ (fr.ev x) k) : OpOk P o a F w σ k := by
  cases ht : tk P t with
  | none => simp [ht, aClear] at h
  | some i =>
    obtain ⟨inf, d, z, h1, h2, h3, h4, h5, h6, h7, h8⟩ := tk_info ht
    simp only [ht, aClear] at h
    have hv := hf.ev x hx
    revert h hv
    generalize fr.ev x = xx
    intro h hv
    have hgo : ∀ y w', (Builtin.clear_ #[t] o.type #[a.eval x]).run P w = .ok y w' → (execOp a.eval o).run P w = .ok (.value y) w' := fun y w' hy => by
      simp [execOp, ho, resolve, invoke, builtin, hy]
    split at h
    · rename_i q eby ez byt htd
      obtain ⟨e, ie, ze, rfl, k1, rfl, rfl, k4, rfl, k6, k7⟩ := td_sl (P := P) (d := d) (by rw [← h7, htd])
      split at h
      · refine opOk_value (x := .tuple #[]) (hgo _ _ ?_) (.refl F w σ) hs (.tup _ _ rfl fun j hj => by simp at hj) h
        simp [hv.eq, Builtin.clear_, run_underlying h2]
      · rename_i b p len cap
        by_cases hn : len = 0
        · rw [if_pos hn] at h
          subst hn
          refine opOk_value (x := .tuple #[]) (hgo _ _ ?_) (.refl F w σ) hs (.tup _ _ rfl fun j hj => by simp at hj) h
          simp [hv.eq, Builtin.clear_, run_underlying h2]
        · rw [if_neg hn] at h
          split at h
          · rename_i q' es cap' hb
            obtain ⟨rfl, hq, hp, hle, hez, hk⟩ := h
            have hz1 : ze.cells.toList.length = ie.size := by simpa using k6
            obtain ⟨r1, r2, r3⟩ := rows_set (m := p / ie.size) (ys := List.replicate len (ze.cells.toList.map .v)) (news := (Builtin.zeroCells ze.cells len).toList) hs hb (by simpa using hle) hq (by simp [zeroCells_size, k6]) (fun e he => by
              obtain ⟨_, rfl⟩ := List.mem_replicate.1 he
              exact ⟨by simp [k6], by rw [List.all_map]; exact hez⟩) (fun i j hi hj => by
              rw [List.length_replicate] at hi
              have hjz : j < ze.cells.size := by omega
              have e1 : ((List.replicate len (ze.cells.toList.map AV.v)).getD i []).getD j (.v undef) = .v ze.cells[j] := by
                have e0 : (List.replicate len (ze.cells.toList.map AV.v)).getD i [] = ze.cells.toList.map AV.v := by
                  rw [List.getD_eq_getElem?_getD, List.getElem?_replicate, if_pos hi]
                  rfl
                rw [e0]
                simp [List.getD_eq_getElem?_getD, hjz]
              have hlt : i * ie.size + j < len * ze.cells.size := by
                have : (i + 1) * ie.size ≤ len * ie.size := Nat.mul_le_mul_right _ hi
                rw [Nat.succ_mul] at this
                rw [k6]
                omega
              have hm : (i * ie.size + j) % ze.cells.size = j := by
                rw [k6, Nat.add_comm, Nat.add_mul_mod_self_right, Nat.mod_eq_of_lt hj]
              have e2 : (Builtin.zeroCells ze.cells len).toList.getD (i * ie.size + j) undef = ze.cells[j] := by
                simp [Builtin.zeroCells, List.getD_eq_getElem?_getD, hlt, hm, hjz]
              rw [e1, e2]
              exact .v _)
            rw [List.length_replicate] at r1 r2
            refine opOk_value (x := .tuple #[]) (hgo _ _ ?_) r2 r1 (.tup _ _ rfl fun j hj => by simp at hj) hk
            have hpq : p / ie.size * ie.size = p := by
              have := Nat.div_add_mod p ie.size
              rw [hp, Nat.mul_comm] at this
              omega
            rw [hpq] at r3 ⊢
            have hst := run_storeCells_cells (P := P) b p (Builtin.zeroCells ze.cells len).toList 0 w (fun j hj => by simpa using (r3 j hj).1) (fun j hj => by simpa using (r3 j hj).2) (fun v hv => by
              simp only [Builtin.zeroCells, Array.toList_map, Array.toList_range, List.mem_map, List.mem_range] at hv
              obtain ⟨i, hi, rfl⟩ := hv
              have hpos : 0 < ze.cells.size := by omega
              have hlt : i % ze.cells.size < ze.cells.size := Nat.mod_lt _ hpos
              rw [getElem!_pos ze.cells _ hlt]
              exact List.all_eq_true.1 hez _ (by simp))
            rw [Nat.add_zero] at hst
            obtain ⟨len', rfl⟩ : ∃ l, len = l + 1 := ⟨len - 1, by omega⟩
            simp only [hv.eq, Builtin.clear_, Sem.run_bind, run_underlying h2, Result.andThen_ok, List.getElem?_toArray, List.getElem?_cons_zero, run_zero' k1 k4, hst, Sem.run_pure]
          · exact h.elim
      · exact h.elim
    · exact h.elim

theorem aBI_sound {b : Builtin} {args : List Operand} {ts : List TypeId} (ho : o.op = .call { callee := .builtin b, args := args.toArray, argTypes := ts.toArray }) (hargs : ∀ x ∈ args, opdIn n x = true) (hf : FrRel F w n fr a) (hs : Rel F w σ)
    (h : aBI P b (args.map fr.ev) ts σ k) : OpOk P o a F w σ k := by
  unfold aBI at h
  split at h
  · split at h
    · rename_i m x t t2 hx
      match args, hx with
      | [m', x'], hx =>
        simp only [List.map_cons, List.map_nil, List.cons.injEq, and_true] at hx
        obtain ⟨rfl, rfl⟩ := hx
        exact sound_mapdel (ts := #[]) ho (hargs _ (by simp)) (hargs _ (by simp)) hf hs h
    · exact h.elim
  · split at h
    · rename_i x y hx
      match args, hx with
      | [x', y'], hx =>
        simp only [List.map_cons, List.map_nil, List.cons.injEq, and_true] at hx
        obtain ⟨rfl, rfl⟩ := hx
        have hxv := hf.ev x' (hargs _ (by simp))
        have hyv := hf.ev y' (hargs _ (by simp))
        revert h hxv hyv
        generalize fr.ev x' = xx
        generalize fr.ev y' = yy
        intro h hxv hyv
        unfold aMin at h
        split at h
        · refine opOk_pure hs (x := .int _ _) ?_ (.v _) h
          have := Go.Lib.run_min_ints (P := P) w ts.toArray o.type
          simp [execOp, ho, resolve, invoke, builtin, hxv.eq, hyv.eq, this]
        · exact h.elim
    · exact h.elim
  · split at h
    · rename_i x y hx
      match args, hx with
      | [x', y'], hx =>
        simp only [List.map_cons, List.map_nil, List.cons.injEq, and_true] at hx
        obtain ⟨rfl, rfl⟩ := hx
        have hxv := hf.ev x' (hargs _ (by simp))
        have hyv := hf.ev y' (hargs _ (by simp))
        revert h hxv hyv
        generalize fr.ev x' = xx
        generalize fr.ev y' = yy
        intro h hxv hyv
        unfold aMax at h
        split at h
        · refine opOk_pure hs (x := .int _ _) ?_ (.v _) h
          have := Go.Lib.run_max_ints (P := P) w ts.toArray o.type
          simp [execOp, ho, resolve, invoke, builtin, hxv.eq, hyv.eq, this]
        · exact h.elim
    · exact h.elim
  · split at h
    · rename_i x t hx
      match args, hx with
      | [x'], hx =>
        simp only [List.map_cons, List.map_nil, List.cons.injEq, and_true] at hx
        obtain rfl := hx
        exact sound_clear ho (hargs _ (by simp)) hf hs h
    · exact h.elim
  · exact h.elim

theorem rows_new {F : Froz} {w : World} {σ : St} (h : Rel F w σ) {q cap : Nat} {es : List (List AV)} {vs : Array Value} (e : TypeId) (hc : cap * q ≤ vs.size) (hl : es.length ≤ cap) (h1 : ∀ e ∈ es, e.length = q ∧ e.all AV.one = true)
    (hv : ∀ i j, i < es.length → j < q → RV F w ((es.getD i []).getD j (.v undef)) (vs.getD (i * q + j) undef)) : Holds F (w.alloc (.cells vs e)) w.heap.size (.rows q es false cap) := by
  have hkp := Keeps.alloc h (.cells vs e)
  exact ⟨vs, e, (0, 0), heap_alloc_new w _, hc, hl, h1, fun i _ hi => by simp at hi, h.lt _ (Nat.le_refl _), fun i j hi hj => (hv i j hi hj).mono hkp⟩
theorem sound_mksl {t : TypeId} {l c : Operand} (ho : o.op = .makeSlice t l c) (hl : opdIn n l = true) (hc : opdIn n c = true) (hf : FrRel F w n fr a) (hs : Rel F w σ) (h : aMkSl (tk P t) σ (fr.ev l) (fr.ev c) k) : OpOk P o a F w σ k := by
  cases ht : tk P t with
  | none => simp [ht, aMkSl] at h
  | some i =>
    obtain ⟨inf, d, z, h1, h2, h3, h4, h5, h6, h7, h8⟩ := tk_info ht
    simp only [ht, aMkSl] at h
    cases htd : i.td with
    | sl q eby ez byt =>
      obtain ⟨e, ie, ze, rfl, k1, rfl, rfl, k4, rfl, k6, k7⟩ := td_sl (P := P) (by rw [← h7, htd])
      simp only [htd] at h
      have hvl := hf.ev l hl
      have hvc := hf.ev c hc
      revert h hvl hvc
      generalize fr.ev l = L
      generalize fr.ev c = C
      intro h hvl hvc
      split at h
      · rename_i kl l0 kc c0
        obtain ⟨hq, hb, hez, g0, g1, g2, h⟩ := h
        have h63 : c0 ≤ 9223372036854775807 := by
          have : c0 ≤ (ie.bytes : Int) * c0 := by
            have : 1 * c0 ≤ (ie.bytes : Int) * c0 := Int.mul_le_mul_of_nonneg_right (by omega) (by omega)
            omega
          omega
        have hr := run_make w t e ie ze h2 k1 k4 kl kc l0 c0 g0 g1 g2 h63
        have hrun : (execOp a.eval o).run P w = .ok (.value (.slice (some ⟨w.heap.size, 0, none⟩) l0.toNat c0.toNat)) (w.alloc (.cells (madeCells ze.cells (c0.toNat * ie.size)) e)) := by
          simp only [execOp, ho, hvl.eq, hvc.eq, Sem.run_bind, hr, Result.andThen_ok, Sem.run_pure]
        have hzl : (ze.cells.toList.map AV.v).length = ie.size := by simp [k6]
        obtain ⟨r1, r2⟩ := rel_alloc hs (.cells (madeCells ze.cells (c0.toNat * ie.size)) e) (.rows ie.size (List.replicate l0.toNat (ze.cells.toList.map .v)) false c0.toNat) (rows_new hs e (by simp [madeCells]) (by simp; omega) (fun x hx => by
          obtain ⟨_, rfl⟩ := List.mem_replicate.1 hx
          exact ⟨hzl, by rw [List.all_map]; exact hez⟩) fun i j hi hj => by
          simp only [List.length_replicate] at hi
          have hlt : i * ie.size + j < c0.toNat * ie.size := by
            have : (i + 1) * ie.size ≤ c0.toNat * ie.size := Nat.mul_le_mul_right _ (by omega)
            rw [Nat.succ_mul] at this
            omega
          have e1 : (List.replicate l0.toNat (ze.cells.toList.map AV.v)).getD i [] = ze.cells.toList.map AV.v := by simp [List.getD_eq_getElem?_getD, hi]
          have hm : (i * ie.size + j) % ie.size = j := by rw [Nat.mul_comm i ie.size, Nat.mul_add_mod, Nat.mod_eq_of_lt hj]
          have e2 : (madeCells ze.cells (c0.toNat * ie.size)).getD (i * ie.size + j) undef = ze.cells.getD j undef := by
            simp [madeCells, hlt, k6, hm, hj]
          rw [e1, e2, getD_map_v _ _ (by simp [k6]; exact hj)]
          simp
          exact .v _)
        exact opOk_value hrun r2 r1 (.v _) (h _ (fresh_none hs (Nat.le_refl _)))
      · exact h.elim
    | _ => simp [htd] at h
theorem sound_defer {c : Call} (ho : o.op = .defer c) (hin : ∀ x, x ∈ o.op.operands → opdIn n x = true) (hf : FrRel F w n fr a) (hs : Rel F w σ) (h : aDefer P c fr σ k) : OpOk P o a F w σ k := by
  obtain ⟨callee, args, ts⟩ := c
  simp only [aDefer] at h
  split at h
  · rename_i t hargs
    obtain rfl : args = #[] := by apply Array.ext'; simpa using hargs
    split at h
    · rename_i f first captured hfr
      obtain ⟨⟨fn, h1, h2, h3⟩, h4, h5⟩ := h
      have hev := hf.ev (.tmp t) (hin _ (by simp [ho, Op.operands, Call.operands]))
      simp only [Fr.ev, hfr] at hev
      have he := hev.eq
      intro ro next Q hd hn
      have hro : ro = none := by
        rcases hd with h | h
        · exact h
        · rw [ho] at h; cases h
      subst hro
      refine ⟨fun _ _ => trivial, ?_⟩
      have hrun : (execOp a.eval o).run P w = .ok (.defer { target := .fn (.func f) captured, args := first }) w := by
        simp [execOp, ho, resolve, he, Deferred.ofValue]
      rw [show o.semAt (wd none).round a.eval = execOp a.eval o from rfl, hrun, Oper.uponIn_defer]
      have := hn F w undef (.v undef) σ [{ target := .fn (.func f) captured, args := first }] (.refl F w σ) hs (.v _) h5 (fun d hd => by
        simp only [List.mem_singleton] at hd
        subst hd
        refine ⟨.func f, captured, f, first ++ captured, rfl, fun w => ?_, h4⟩
        have hb : fn.body ≠ none := by intro e; rw [e] at h2; cases h2
        simp [invoke, callFunc, h1, h3, hb])
      rw [← put_some] at this
      exact this
    · exact h.elim
  · exact h.elim

theorem aMore_sound (hin : ∀ x, x ∈ o.op.operands → opdIn n x = true) (hf : FrRel F w n fr a) (hs : Rel F w σ) (h : aMore P o.op fr σ k) : OpOk P o a F w σ k := by
  cases ho : o.op with
  | makeSlice t l c =>
    rw [ho] at h
    exact sound_mksl ho (hin _ (by simp [ho, Op.operands])) (hin _ (by simp [ho, Op.operands])) hf hs h
  | defer c =>
    rw [ho] at h
    exact sound_defer ho hin hf hs h
  | makeMap t r =>
    cases r with
    | none =>
      rw [ho] at h
      exact sound_mkmap ho hs h
    | some r => rw [ho] at h; exact h.elim
  | lookup t m x ok =>
    rw [ho] at h
    simp only [aMore] at h
    exact quiet_ok (sound_look ho (hin _ (by simp [ho, Op.operands])) (hin _ (by simp [ho, Op.operands])) hf hs h) hs fun _ h => h
  | mapUpdate t m x y =>
    rw [ho] at h
    simp only [aMore] at h
    exact (sound_mapput ho (hin _ (by simp [ho, Op.operands])) (hin _ (by simp [ho, Op.operands])) (hin _ (by simp [ho, Op.operands])) hf hs h).mono fun v σ' ⟨e, h⟩ => by subst e; exact h
  | makeInterface t x =>
    rw [ho] at h
    simp only [aMore, aMkI] at h
    obtain ⟨hc, h⟩ := h
    obtain ⟨d, hd, hne⟩ := conc_of hc
    have hv := hf.ev x (hin _ (by simp [ho, Op.operands]))
    revert h hv
    generalize fr.ev x = y
    intro h hv
    split at h
    · refine opOk_pure hs (x := .iface t _) ?_ (.v _) h
      have hr : ∀ y, (Instr.makeInterface t y).run P w = .ok (.iface t y) w := fun y => by
        cases d <;> first | exact absurd rfl (hne _) | simp [Instr.makeInterface, run_underlying hd]
      simp only [execOp, ho, Sem.run_bind, hr, hv.eq, Result.andThen_ok, Sem.run_pure]
    · exact h.elim
  | typeAssert x t u ok =>
    cases ok with
    | true => rw [ho] at h; exact h.elim
    | false =>
      rw [ho] at h
      simp only [aMore, aTyA] at h
      obtain ⟨hc, h⟩ := h
      obtain ⟨d, hd, hne⟩ := conc_of hc
      have hv := hf.ev x (hin _ (by simp [ho, Op.operands]))
      revert h hv
      generalize fr.ev x = y
      intro h hv
      split at h
      · rename_i t' y'
        obtain ⟨rfl, h⟩ := h
        refine opOk_pure hs (x := y') ?_ (.v _) h
        have hr : (Instr.typeAssert (.iface t' y') t t' false).run P w = .ok y' w := by
          cases d <;> first | exact absurd rfl (hne _) | simp [Instr.typeAssert, run_underlying hd]
        simp only [execOp, ho, Sem.run_bind, hv.eq, hr, Result.andThen_ok, Sem.run_pure]
      · exact h.elim
  | _ => rw [ho] at h; exact h.elim

theorem aMore_congr {o : Op} {fr fr' : Fr} (h : ∀ x ∈ o.operands, fr.ev x = fr'.ev x) : aMore P o fr σ k = aMore P o fr' σ k := by
  cases o with
  | makeMap t r => cases r <;> rfl
  | makeSlice t l c => simp only [aMore, h l (by simp [Op.operands]), h c (by simp [Op.operands])]
  | defer c =>
    obtain ⟨callee, args, ts⟩ := c
    simp only [aMore, aDefer]
    split
    · rename_i t ha
      have := h (.tmp t) (by simp [Op.operands, Call.operands])
      simp only [Fr.ev] at this
      simp only [this]
    · rfl
  | lookup t m x ok => simp only [aMore, h m (by simp [Op.operands]), h x (by simp [Op.operands])]
  | mapUpdate t m x y => simp only [aMore, h m (by simp [Op.operands]), h x (by simp [Op.operands]), h y (by simp [Op.operands])]
  | makeInterface t x => simp only [aMore, h x (by simp [Op.operands])]
  | typeAssert x t u ok => cases ok <;> simp only [aMore, h x (by simp [Op.operands])]
  | _ => rfl
end
end Go.Av
