/-
  The program logic, part 10: maps; least and greatest of two; interfaces that hold exact values.
  Conditions: keys are numbers, texts or yes-or-no. None beyond (a library of definitions and lemmas over any program).
-/
import Derived.Test.YthdfpankebjleaaAvApp
import Derived.MapKept
import Derived.Laws.Externs
set_option linter.unusedVariables false
set_option linter.unusedSimpArgs false
namespace Go.Av
open Go Go.RowKit Go.MapKept

/-- Is it a key of this kind? -/
def keyOk : TD → Value → Bool
  | .int k, .int k' _ => decide (k = k')
  | .str, .string _ => true
  | .bool, .bool _ => true
  | _, _ => false
def keyEq : Value → Value → Bool
  | .int _ a, .int _ b => decide (a = b)
  | .string a, .string b => decide (a = b)
  | .bool a, .bool b => a == b
  | _, _ => false
/-- What stands under a key. -/
def mFind (x : Value) : List (Value × AV) → Option AV
  | [] => none
  | (y, u) :: l => if keyEq x y then some u else mFind x l
def mPut (x : Value) (v : AV) : List (Value × AV) → List (Value × AV)
  | [] => [(x, v)]
  | (y, u) :: l => if keyEq x y then (x, v) :: l else (y, u) :: mPut x v l
def mDel (x : Value) : List (Value × AV) → List (Value × AV)
  | [] => []
  | (y, u) :: l => if keyEq x y then l else (y, u) :: mDel x l

section
variable {P : Program} {o : Oper} {n : Nat} {fr : Fr} {a : Act} {F : Froz} {w : World} {σ : St} {k : AV → St → Prop}

theorem td_map {d : TypeDesc} {ke e : TypeId} (h : tdOf P d = .map ke e) : d = .map ke e := by
  cases d with
  | array n e => simp only [tdOf] at h; (repeat' split at h) <;> cases h
  | struct e => simp only [tdOf] at h; (repeat' split at h) <;> cases h
  | slice e => simp only [tdOf] at h; (repeat' split at h) <;> cases h
  | map a b => simp [tdOf] at h; rw [h.1, h.2]
  | _ => simp [tdOf] at h
theorem td_bool {d : TypeDesc} (h : tdOf P d = .bool) : d = .bool := by
  cases d with
  | array n e => simp only [tdOf] at h; (repeat' split at h) <;> cases h
  | struct e => simp only [tdOf] at h; (repeat' split at h) <;> cases h
  | slice e => simp only [tdOf] at h; (repeat' split at h) <;> cases h
  | bool => rfl
  | _ => simp [tdOf] at h
theorem isKey_of {d : TypeDesc} {x : Value} (h : keyOk (tdOf P d) x = true) : IsKey d x := by
  generalize hd : tdOf P d = td at h
  cases td <;> cases x <;> simp only [keyOk] at h <;> try (cases h; done)
  · rename_i k k' _
    have := td_int (P := P) hd
    subst this
    simpa [IsKey, eq_comm] using h
  · have := td_bool (P := P) hd
    subst this
    simp [IsKey]
  · have := td_str (P := P) hd
    subst this
    simp [IsKey]
theorem sameNow_of {d : TypeDesc} {x y : Value} (hx : IsKey d x) (hy : IsKey d y) : Instr.sameNow d x y = some (keyEq x y) := by
  obtain ⟨r, h1, h2⟩ := sameNow_of_keys hx hy
  rw [h1]
  congr 1
  have : keyEq x y = true ↔ x = y := by
    cases d <;> cases x <;> cases y <;> simp_all [IsKey, keyEq]
  cases r with
  | true => exact (this.2 (h2.1 rfl)).symm
  | false =>
    cases hq : keyEq x y with
    | false => rfl
    | true => exact absurd (h2.2 (this.1 hq)) (by simp)
theorem keyEq_eq {d : TypeDesc} {x y : Value} (hx : IsKey d x) (hy : IsKey d y) (h : keyEq x y = true) : x = y := by
  cases d <;> cases x <;> cases y <;> simp_all [IsKey, keyEq]

/-- What the machine finds; what becomes of the entries. -/
theorem find_ok {d : TypeDesc} {x : Value} (hx : IsKey d x) : ∀ (kv : List (Value × AV)) (es : List MapEntry) (i : Nat), KVs F w kv es → (∀ p ∈ kv, IsKey d p.1) →
    (mFind x kv = none ∧ Instr.findNow d x es i = some none ∧ (∀ F' w', KVs F' w' kv es → KVs F' w' (mDel x kv) es) ∧ ∀ F' w' v e, KVs F' w' kv es → e.key = x → RV F' w' v e.val → KVs F' w' (mPut x v kv) (es ++ [e])) ∨
    (∃ j u e, mFind x kv = some u ∧ Instr.findNow d x es i = some (some (i + j, e.val)) ∧ RV F w u e.val ∧ es[j]? = some e ∧ e.key = x ∧ (∀ F' w', KVs F' w' kv es → KVs F' w' (mDel x kv) (es.eraseIdx j)) ∧
      ∀ F' w' v val, KVs F' w' kv es → RV F' w' v val → KVs F' w' (mPut x v kv) (es.modify j fun e => { e with key := x, val := val }))
  | [], [], i, h, hk => .inl ⟨rfl, rfl, fun _ _ h => h, fun F' w' v e _ he hv => ⟨he, hv, trivial⟩⟩
  | (y, u) :: l, e :: es, i, h, hk => by
    have hy := hk (y, u) (by simp)
    have hs := sameNow_of hx hy
    rw [← h.1] at hs
    simp only [h.1] at hs
    cases hq : keyEq x y with
    | true =>
      refine .inr ⟨0, u, e, by simp [mFind, hq], by simp [Instr.findNow, h.1, hs, hq], h.2.1, rfl, by rw [h.1]; exact (keyEq_eq hx hy hq).symm, fun F' w' h' => ?_, fun F' w' v val h' hv => ?_⟩
      · simp only [mDel, hq, if_true, List.eraseIdx_cons_zero]
        exact h'.2.2
      · simp only [mPut, hq, if_true, List.modify_zero_cons]
        exact ⟨rfl, hv, h'.2.2⟩
    | false =>
      rcases find_ok hx l es (i + 1) h.2.2 (fun p hp => hk p (by simp [hp])) with ⟨h1, h2, h3, h4⟩ | ⟨j, u', e', h1, h2, h3, h4, h5, h6, h7⟩
      · refine .inl ⟨by simp [mFind, hq, h1], by simp [Instr.findNow, h.1, hs, hq, h2], fun F' w' h' => ?_, fun F' w' v e' h' he hv => ?_⟩
        · simp only [mDel, hq]
          exact ⟨h'.1, h'.2.1, h3 _ _ h'.2.2⟩
        · simp only [mPut, hq]
          exact ⟨h'.1, h'.2.1, h4 _ _ _ _ h'.2.2 he hv⟩
      · refine .inr ⟨j + 1, u', e', by simp [mFind, hq, h1], by simp [Instr.findNow, h.1, hs, hq, h2]; omega, h3, by simpa using h4, h5, fun F' w' h' => ?_, fun F' w' v val h' hv => ?_⟩
        · simp only [mDel, hq, List.eraseIdx_cons_succ]
          exact ⟨h'.1, h'.2.1, h6 _ _ h'.2.2⟩
        · simp only [mPut, hq, List.modify_succ_cons]
          exact ⟨h'.1, h'.2.1, h7 _ _ _ _ h'.2.2 hv⟩
  | [], _ :: _, _, h, _ => h.elim
  | _ :: _, [], _, h, _ => h.elim

/-- A tracked block that is no row is laid anew. -/
theorem set_ext (hs : Rel F w σ) {b : Nat} {t : AObj} (hb : σ b = some t) (hF : F b = 0) (ob : Obj) (t' : AObj) (ht : Keeps F w F { w with heap := w.heap.setIfInBounds b ob } → Holds F { w with heap := w.heap.setIfInBounds b ob } b t') :
    Rel F { w with heap := w.heap.setIfInBounds b ob } (σ.set b t') ∧ Ext F w σ F { w with heap := w.heap.setIfInBounds b ob } (σ.set b t') := by
  have hlt := hs.lt_size hb
  have hoth : ∀ x, x ≠ b → (w.heap.setIfInBounds b ob)[x]? = w.heap[x]? := fun x hx => by simp [Ne.symm hx]
  have hkp : Keeps F w F { w with heap := w.heap.setIfInBounds b ob } := ⟨fun _ => Nat.le_refl _, fun x off ho => by
    have hne : x ≠ b := fun e => by subst e; omega
    exact World.cell?_of_block (w := w) (hoth x hne)⟩
  refine ⟨⟨fun x y hx => ?_, fun x hx => hs.lt x (by simpa using hx)⟩, ⟨hkp, rfl, rfl, rfl, by simp, fun x hx hn => ?_⟩⟩
  · simp only [St.set] at hx
    by_cases hxb : x = b
    · rw [if_pos hxb] at hx
      injection hx with hx
      subst hx
      subst hxb
      exact ht hkp
    · rw [if_neg hxb] at hx
      exact (hs.obj x y hx).mono hkp (hoth x hxb) rfl
  · have hne : x ≠ b := fun e => by subst e; simp [hb] at hn
    exact ⟨hoth x hne, by simp [St.set, hne, hn], rfl⟩

/-! ### makeMap, lookup, update, delete -/
def aMkMap (σ : St) (k : AV → St → Prop) : Prop := ∀ b, σ b = none → k (.v (.map (some b))) (σ.set b (.map []))
def aLook (P : Program) (i : Option TK) (σ : St) (m x : AV) (ok : Bool) (k : AV → Prop) : Prop :=
  match i with
  | some i => match i.td with
    | .map kt et => match tk P kt, tk P et, m, x with
      | some kk, some ke, .v (.map none), .v x => keyOk kk.td x = true ∧ k (if ok then .tup [ke.zav, .v (.bool false)] else ke.zav)
      | some kk, some ke, .v (.map (some b)), .v x => match σ b with
        | some (.map kv) => keyOk kk.td x = true ∧ (∀ p ∈ kv, keyOk kk.td p.1 = true) ∧ match mFind x kv with
          | some u => k (if ok then .tup [u, .v (.bool true)] else u)
          | none => k (if ok then .tup [ke.zav, .v (.bool false)] else ke.zav)
        | _ => False
      | _, _, _, _ => False
    | _ => False
  | none => False
def aMapPut (P : Program) (i : Option TK) (σ : St) (m x v : AV) (k : St → Prop) : Prop :=
  match i with
  | some i => match i.td with
    | .map kt et => match tk P kt, m, x with
      | some kk, .v (.map (some b)), .v x => match σ b with
        | some (.map kv) => keyOk kk.td x = true ∧ (∀ p ∈ kv, keyOk kk.td p.1 = true) ∧ k (σ.set b (.map (mPut x v kv)))
        | _ => False
      | _, _, _ => False
    | _ => False
  | none => False
def aMapDel (P : Program) (i : Option TK) (σ : St) (m x : AV) (k : AV → St → Prop) : Prop :=
  match i with
  | some i => match i.td with
    | .map kt et => match tk P kt, m, x with
      | some kk, .v (.map (some b)), .v x => match σ b with
        | some (.map kv) => keyOk kk.td x = true ∧ (∀ p ∈ kv, keyOk kk.td p.1 = true) ∧ k (.tup []) (σ.set b (.map (mDel x kv)))
        | _ => False
      | _, _, _ => False
    | _ => False
  | none => False

theorem rv_tup2 {u v : AV} {x y : Value} (h1 : RV F w u x) (h2 : RV F w v y) : RV F w (.tup [u, v]) (.tuple #[x, y]) :=
  .tup _ _ rfl fun j hj => by
    match j, hj with
    | 0, _ => exact h1
    | 1, _ => exact h2

theorem sound_mkmap {t : TypeId} (ho : o.op = .makeMap t none) (hs : Rel F w σ) (h : aMkMap σ k) : OpOk P o a F w σ k := by
  obtain ⟨r1, r2⟩ := rel_alloc hs (.map #[] 0) (.map []) ⟨#[], 0, heap_alloc_new w _, hs.lt _ (Nat.le_refl _), trivial⟩
  exact opOk_value (x := .map (some w.heap.size)) (by simp only [execOp, ho, Option.map_none, Sem.run_bind]; rfl) r2 r1 (.v _) (h _ (fresh_none hs (Nat.le_refl _)))

theorem sound_look {t : TypeId} {m x : Operand} {ok : Bool} {k : AV → Prop} (ho : o.op = .lookup t m x ok) (hm : opdIn n m = true) (hx : opdIn n x = true) (hf : FrRel F w n fr a) (hs : Rel F w σ) (h : aLook P (tk P t) σ (fr.ev m) (fr.ev x) ok k) : Quiet P o a F w k := by
  cases ht : tk P t with
  | none => simp [ht, aLook] at h
  | some i =>
    obtain ⟨inf, d, z, h1, h2, h3, h4, h5, h6, h7, h8⟩ := tk_info ht
    simp only [ht, aLook] at h
    have hmv := hf.ev m hm
    have hxv := hf.ev x hx
    revert h hmv hxv
    generalize fr.ev m = mm
    generalize fr.ev x = xx
    intro h hmv hxv
    split at h
    · rename_i kt et htd
      obtain rfl := td_map (P := P) (d := d) (by rw [← h7, htd])
      split at h
      · rename_i kk ke x' hkk hke
        obtain ⟨_, d1, _, g1, g2, g3, g4, g5, g6, g7, g8⟩ := tk_info hkk
        obtain ⟨_, z', q1, q2, q3⟩ := tk_zero hke F w
        have hkey : IsKey d1 x' := isKey_of (P := P) (by rw [← g7]; exact h.1)
        have hz := run_zero' (P := P) q1 q2 w
        refine ⟨if ok then .tuple #[z', .bool false] else z', _, ?_, ?_, h.2⟩
        · simp only [execOp, ho, hmv.eq, hxv.eq, Instr.lookup, Sem.run_bind, run_underlying h2, Result.andThen_ok, Sem.run_pure, run_checkKey g2 hkey, Array.toList_empty, run_findKey (l := []) (a := none) g2 rfl, hz]
        · cases ok
          · exact q3
          · exact rv_tup2 q3 (.v _)
      · rename_i kk ke b x' hkk hke
        obtain ⟨_, d1, _, g1, g2, g3, g4, g5, g6, g7, g8⟩ := tk_info hkk
        obtain ⟨_, z', q1, q2, q3⟩ := tk_zero hke F w
        split at h
        · rename_i kv hb
          obtain ⟨es, clk, r1, r2, r3⟩ := hs.obj b _ hb
          have hkey : IsKey d1 x' := isKey_of (P := P) (by rw [← g7]; exact h.1)
          have hkeys : ∀ p ∈ kv, IsKey d1 p.1 := fun p hp => isKey_of (P := P) (by rw [← g7]; exact h.2.1 p hp)
          have hz := run_zero' (P := P) q1 q2 w
          rcases find_ok hkey kv es.toList 0 r3 hkeys with ⟨f1, f2, _⟩ | ⟨j, u, e, f1, f2, f3, _⟩
          · rw [f1] at h
            refine ⟨if ok then .tuple #[z', .bool false] else z', _, ?_, ?_, h.2.2⟩
            · simp only [execOp, ho, hmv.eq, hxv.eq, Instr.lookup, Sem.run_bind, run_underlying h2, Result.andThen_ok, Sem.run_pure, Go.MapKept.run_getObj_map r1, run_checkKey g2 hkey, run_findKey g2 f2, hz]
            · cases ok
              · exact q3
              · exact rv_tup2 q3 (.v _)
          · rw [f1] at h
            refine ⟨if ok then .tuple #[e.val, .bool true] else e.val, _, ?_, ?_, h.2.2⟩
            · simp only [execOp, ho, hmv.eq, hxv.eq, Instr.lookup, Sem.run_bind, run_underlying h2, Result.andThen_ok, Sem.run_pure, Go.MapKept.run_getObj_map r1, run_checkKey g2 hkey, run_findKey g2 f2]
            · cases ok
              · exact f3
              · exact rv_tup2 f3 (.v _)
        · exact h.elim
      · exact h.elim
    · exact h.elim

theorem sound_mapput {t : TypeId} {m x y : Operand} {k : St → Prop} (ho : o.op = .mapUpdate t m x y) (hm : opdIn n m = true) (hx : opdIn n x = true) (hy : opdIn n y = true) (hf : FrRel F w n fr a) (hs : Rel F w σ) (h : aMapPut P (tk P t) σ (fr.ev m) (fr.ev x) (fr.ev y) k) : OpOk P o a F w σ fun v σ' => v = .v undef ∧ k σ' := by
  cases ht : tk P t with
  | none => simp [ht, aMapPut] at h
  | some i =>
    obtain ⟨inf, d, z, h1, h2, h3, h4, h5, h6, h7, h8⟩ := tk_info ht
    simp only [ht, aMapPut] at h
    have hmv := hf.ev m hm
    have hxv := hf.ev x hx
    have hyv := hf.ev y hy
    revert h hmv hxv hyv
    generalize fr.ev m = mm
    generalize fr.ev x = xx
    generalize fr.ev y = yy
    intro h hmv hxv hyv
    split at h
    · rename_i kt et htd
      obtain rfl := td_map (P := P) (d := d) (by rw [← h7, htd])
      split at h
      · rename_i kk b x' hkk
        obtain ⟨_, d1, _, g1, g2, g3, g4, g5, g6, g7, g8⟩ := tk_info hkk
        split at h
        · rename_i kv hb
          obtain ⟨es, clk, r1, r2, r3⟩ := hs.obj b _ hb
          have hkey : IsKey d1 x' := isKey_of (P := P) (by rw [← g7]; exact h.1)
          have hkeys : ∀ p ∈ kv, IsKey d1 p.1 := fun p hp => isKey_of (P := P) (by rw [← g7]; exact h.2.1 p hp)
          have hlt := hs.lt_size hb
          have hnew : ∀ ob, ({ w with heap := w.heap.setIfInBounds b ob } : World).heap[b]? = some ob := fun ob => by simp [hlt]
          rcases find_ok hkey kv es.toList 0 r3 hkeys with ⟨f1, f2, f3, f4⟩ | ⟨j, u, e, f1, f2, f3, f4, f5, f6, f7⟩
          · obtain ⟨e1, e2⟩ := set_ext hs hb r2 (.map (es.push { key := x', val := a.eval y, born := clk }) (clk + 1)) (.map (mPut x' yy kv)) fun hkp => ⟨_, _, hnew _, r2, by
              rw [Array.toList_push]
              exact f4 _ _ _ _ (r3.mono hkp) rfl (hyv.mono hkp)⟩
            refine opOk_skip ?_ e2 e1 ⟨rfl, h.2.2⟩
            simp only [execOp, ho, hmv.eq, hxv.eq, Instr.mapUpdate, Sem.run_bind, run_underlying h2, Result.andThen_ok, Sem.run_pure, Go.MapKept.run_getObj_map r1, run_checkKey g2 hkey, run_findKey g2 f2, Go.MapKept.run_setObj_map _ r1]
          · obtain ⟨e1, e2⟩ := set_ext hs hb r2 (.map (es.modify j fun e => { e with key := x', val := a.eval y }) clk) (.map (mPut x' yy kv)) fun hkp => ⟨_, _, hnew _, r2, by
              rw [Array.toList_modify]
              exact f7 _ _ _ _ (r3.mono hkp) (hyv.mono hkp)⟩
            refine opOk_skip ?_ e2 e1 ⟨rfl, h.2.2⟩
            have hold : ((es[j]?).map (·.key)).getD x' = x' := by
              rw [Array.getElem?_toList] at f4
              rw [f4]
              exact f5
            have hst := run_keyThatStays (P := P) (w := w) hkey
            simp only [execOp, ho, hmv.eq, hxv.eq, Instr.mapUpdate, Sem.run_bind, run_underlying h2, Result.andThen_ok, Sem.run_pure, Go.MapKept.run_getObj_map r1, run_checkKey g2 hkey, run_findKey g2 f2, Nat.zero_add, hold, hst, Go.MapKept.run_setObj_map _ r1]
        · exact h.elim
      · exact h.elim
    · exact h.elim

theorem sound_mapdel {t : TypeId} {ts : Array TypeId} {m x : Operand} {t2 : TypeId} (ho : o.op = .call { callee := .builtin .delete, args := #[m, x], argTypes := #[t, t2] }) (hm : opdIn n m = true) (hx : opdIn n x = true) (hf : FrRel F w n fr a) (hs : Rel F w σ) (h : aMapDel P (tk P t) σ (fr.ev m) (fr.ev x) k) : OpOk P o a F w σ k := by
  cases ht : tk P t with
  | none => simp [ht, aMapDel] at h
  | some i =>
    obtain ⟨inf, d, z, h1, h2, h3, h4, h5, h6, h7, h8⟩ := tk_info ht
    simp only [ht, aMapDel] at h
    have hmv := hf.ev m hm
    have hxv := hf.ev x hx
    revert h hmv hxv
    generalize fr.ev m = mm
    generalize fr.ev x = xx
    intro h hmv hxv
    split at h
    · rename_i kt et htd
      obtain rfl := td_map (P := P) (d := d) (by rw [← h7, htd])
      split at h
      · rename_i kk b x' hkk
        obtain ⟨_, d1, _, g1, g2, g3, g4, g5, g6, g7, g8⟩ := tk_info hkk
        split at h
        · rename_i kv hb
          obtain ⟨es, clk, r1, r2, r3⟩ := hs.obj b _ hb
          have hkey : IsKey d1 x' := isKey_of (P := P) (by rw [← g7]; exact h.1)
          have hkeys : ∀ p ∈ kv, IsKey d1 p.1 := fun p hp => isKey_of (P := P) (by rw [← g7]; exact h.2.1 p hp)
          have hlt := hs.lt_size hb
          have hnew : ∀ ob, ({ w with heap := w.heap.setIfInBounds b ob } : World).heap[b]? = some ob := fun ob => by simp [hlt]
          have hgo : ∀ y w', (Builtin.delete_ #[t, t2] o.type #[a.eval m, a.eval x]).run P w = .ok y w' → (execOp a.eval o).run P w = .ok (.value y) w' := fun y w' hy => by
            simp [execOp, ho, resolve, invoke, builtin, hy]
          have hem : RV F { w with heap := w.heap.setIfInBounds b (.map es clk) } (.tup []) (.tuple #[]) := .tup _ _ rfl fun j hj => by simp at hj
          rcases find_ok hkey kv es.toList 0 r3 hkeys with ⟨f1, f2, f3, f4⟩ | ⟨j, u, e, f1, f2, f3, f4, f5, f6, f7⟩
          · obtain ⟨e1, e2⟩ := set_ext hs hb r2 (.map es clk) (.map (mDel x' kv)) fun hkp => ⟨_, _, hnew _, r2, f3 _ _ (r3.mono hkp)⟩
            refine opOk_value (hgo _ _ ?_) e2 e1 hem h.2.2
            simp only [hmv.eq, hxv.eq, Builtin.delete_, Sem.run_bind, run_underlying h2, Result.andThen_ok, Sem.run_pure, Go.MapKept.run_getObj_map r1, run_checkKey g2 hkey, run_findKey g2 f2, Go.MapKept.run_setObj_map _ r1, List.getElem?_toArray, List.getElem?_cons_zero, List.getElem?_cons_succ]
          · obtain ⟨e1, e2⟩ := set_ext hs hb r2 (.map (es.eraseIdxIfInBounds j) clk) (.map (mDel x' kv)) fun hkp => ⟨_, _, hnew _, r2, by
              have : (es.eraseIdxIfInBounds j).toList = es.toList.eraseIdx j := by
                unfold Array.eraseIdxIfInBounds
                split
                · simp
                · rename_i hj
                  rw [List.eraseIdx_of_length_le (by simpa using hj)]
              rw [this]
              exact f6 _ _ (r3.mono hkp)⟩
            refine opOk_value (x := .tuple #[]) (hgo _ _ ?_) e2 e1 (.tup _ _ rfl fun j hj => by simp at hj) h.2.2
            simp only [hmv.eq, hxv.eq, Builtin.delete_, Sem.run_bind, run_underlying h2, Result.andThen_ok, Sem.run_pure, Go.MapKept.run_getObj_map r1, run_checkKey g2 hkey, run_findKey g2 f2, Go.MapKept.run_setObj_map _ r1, Nat.zero_add, List.getElem?_toArray, List.getElem?_cons_zero, List.getElem?_cons_succ]
        · exact h.elim
      · exact h.elim
    · exact h.elim
end
end Go.Av
