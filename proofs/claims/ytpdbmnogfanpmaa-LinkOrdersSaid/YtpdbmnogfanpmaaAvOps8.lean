/-
  The program logic, part 11: the operations that came later, in one: maps, least and greatest of two, interfaces that hold exact values; what they look at, that they hand more on.
  Conditions: none (a library of definitions and lemmas over any program).
-/
import Derived.Test.YtpdbmnogfanpmaaAvMap
import Derived.Lib.MinMax
set_option linter.unusedVariables false
set_option linter.unusedSimpArgs false
namespace Go.Av
open Go Go.RowKit

def aMin (x y : AV) (k : AV → Prop) : Prop :=
  match x, y with
  | .v (.int i a), .v (.int _ b) => k (.v (.int i (min a b)))
  | _, _ => False
def aMax (x y : AV) (k : AV → Prop) : Prop :=
  match x, y with
  | .v (.int i a), .v (.int _ b) => k (.v (.int i (max a b)))
  | _, _ => False
/-- The type is no interface. -/
def isConc (P : Program) (t : TypeId) : Bool :=
  match P.underlying t with
  | some (.interface _) => false
  | some _ => true
  | none => false
def aMkI (P : Program) (t : TypeId) (x : AV) (k : AV → Prop) : Prop :=
  isConc P t = true ∧ match x with
  | .v y => k (.v (.iface t y))
  | _ => False
def aTyA (P : Program) (u : TypeId) (x : AV) (k : AV → Prop) : Prop :=
  isConc P u = true ∧ match x with
  | .v (.iface t y) => t = u ∧ k (.v y)
  | _ => False
/-- A builtin. -/
def aBI (P : Program) (b : Builtin) (args : List AV) (ts : List TypeId) (σ : St) (k : AV → St → Prop) : Prop :=
  match b with
  | .delete => match args, ts with
    | [m, x], [t, _] => aMapDel P (tk P t) σ m x k
    | _, _ => False
  | .min => match args with
    | [x, y] => aMin x y fun v => k v σ
    | _ => False
  | .max => match args with
    | [x, y] => aMax x y fun v => k v σ
    | _ => False
  | _ => False
def aMore (P : Program) (o : Op) (fr : Fr) (σ : St) (k : AV → St → Prop) : Prop :=
  match o with
  | .makeMap _ none => aMkMap σ k
  | .lookup t m x ok => aLook P (tk P t) σ (fr.ev m) (fr.ev x) ok fun v => k v σ
  | .mapUpdate t m x y => aMapPut P (tk P t) σ (fr.ev m) (fr.ev x) (fr.ev y) fun σ' => k (.v undef) σ'
  | .makeInterface t x => aMkI P t (fr.ev x) fun v => k v σ
  | .typeAssert x _ u false => aTyA P u (fr.ev x) fun v => k v σ
  | _ => False

section
variable {P : Program} {o : Oper} {n : Nat} {fr : Fr} {a : Act} {F : Froz} {w : World} {σ : St} {k : AV → St → Prop}

theorem OpOk.mono {k' : AV → St → Prop} (h : OpOk P o a F w σ k) (hk : ∀ v σ', k v σ' → k' v σ') : OpOk P o a F w σ k' :=
  fun ro next Q hn => h ro next Q fun F' w' x v σ' h1 h2 h3 h4 => hn F' w' x v σ' h1 h2 h3 (hk v σ' h4)

theorem quiet_ok {k1 : AV → Prop} (h : Quiet P o a F w k1) (hs : Rel F w σ) (hk : ∀ v, k1 v → k v σ) : OpOk P o a F w σ k :=
  (h.ok hs).mono fun v σ' ⟨e, h⟩ => by subst e; exact hk v h

theorem conc_of {t : TypeId} (h : isConc P t = true) : ∃ d, P.underlying t = some d ∧ ∀ ms, d ≠ .interface ms := by
  unfold isConc at h
  split at h
  · cases h
  · rename_i d hne hd
    exact ⟨_, hd, fun ms e => hne ms e⟩
  · cases h

theorem aBI_sound {b : Builtin} {args : List Operand} {ts : List TypeId} (ho : o.op = .call { callee := .builtin b, args := args.toArray, argTypes := ts.toArray }) (hargs : ∀ x ∈ args, opdIn n x = true) (hf : FrRel F w n fr a) (hs : Rel F w σ)
    (h : aBI P b (args.map fr.ev) ts σ k) : OpOk P o a F w σ k := by
  unfold aBI at h
  split at h
  · split at h
    · rename_i m x t t2 hx
      match args, hx with
      | [m', x'], hx =>
        simp only [List.map_cons, List.map_nil, List.cons.injEq, and_true] at hx
        obtain ⟨rfl, rfl⟩ := hx
        exact sound_mapdel (ts := #[]) ho (hargs _ (by simp)) (hargs _ (by simp)) hf hs h
    · exact h.elim
  · split at h
    · rename_i x y hx
      match args, hx with
      | [x', y'], hx =>
        simp only [List.map_cons, List.map_nil, List.cons.injEq, and_true] at hx
        obtain ⟨rfl, rfl⟩ := hx
        have hxv := hf.ev x' (hargs _ (by simp))
        have hyv := hf.ev y' (hargs _ (by simp))
        revert h hxv hyv
        generalize fr.ev x' = xx
        generalize fr.ev y' = yy
        intro h hxv hyv
        unfold aMin at h
        split at h
        · refine opOk_pure hs (x := .int _ _) ?_ (.v _) h
          have := Go.Lib.run_min_ints (P := P) w ts.toArray o.type
          simp [execOp, ho, resolve, invoke, builtin, hxv.eq, hyv.eq, this]
        · exact h.elim
    · exact h.elim
  · split at h
    · rename_i x y hx
      match args, hx with
      | [x', y'], hx =>
        simp only [List.map_cons, List.map_nil, List.cons.injEq, and_true] at hx
        obtain ⟨rfl, rfl⟩ := hx
        have hxv := hf.ev x' (hargs _ (by simp))
        have hyv := hf.ev y' (hargs _ (by simp))
        revert h hxv hyv
        generalize fr.ev x' = xx
        generalize fr.ev y' = yy
        intro h hxv hyv
        unfold aMax at h
        split at h
        · refine opOk_pure hs (x := .int _ _) ?_ (.v _) h
          have := Go.Lib.run_max_ints (P := P) w ts.toArray o.type
          simp [execOp, ho, resolve, invoke, builtin, hxv.eq, hyv.eq, this]
        · exact h.elim
    · exact h.elim
  · exact h.elim

theorem aMore_sound (hin : ∀ x, x ∈ o.op.operands → opdIn n x = true) (hf : FrRel F w n fr a) (hs : Rel F w σ) (h : aMore P o.op fr σ k) : OpOk P o a F w σ k := by
  cases ho : o.op with
  | makeMap t r =>
    cases r with
    | none =>
      rw [ho] at h
      exact sound_mkmap ho hs h
    | some r => rw [ho] at h; exact h.elim
  | lookup t m x ok =>
    rw [ho] at h
    simp only [aMore] at h
    exact quiet_ok (sound_look ho (hin _ (by simp [ho, Op.operands])) (hin _ (by simp [ho, Op.operands])) hf hs h) hs fun _ h => h
  | mapUpdate t m x y =>
    rw [ho] at h
    simp only [aMore] at h
    exact (sound_mapput ho (hin _ (by simp [ho, Op.operands])) (hin _ (by simp [ho, Op.operands])) (hin _ (by simp [ho, Op.operands])) hf hs h).mono fun v σ' ⟨e, h⟩ => by subst e; exact h
  | makeInterface t x =>
    rw [ho] at h
    simp only [aMore, aMkI] at h
    obtain ⟨hc, h⟩ := h
    obtain ⟨d, hd, hne⟩ := conc_of hc
    have hv := hf.ev x (hin _ (by simp [ho, Op.operands]))
    revert h hv
    generalize fr.ev x = y
    intro h hv
    split at h
    · refine opOk_pure hs (x := .iface t _) ?_ (.v _) h
      have hr : ∀ y, (Instr.makeInterface t y).run P w = .ok (.iface t y) w := fun y => by
        cases d <;> first | exact absurd rfl (hne _) | simp [Instr.makeInterface, run_underlying hd]
      simp only [execOp, ho, Sem.run_bind, hr, hv.eq, Result.andThen_ok, Sem.run_pure]
    · exact h.elim
  | typeAssert x t u ok =>
    cases ok with
    | true => rw [ho] at h; exact h.elim
    | false =>
      rw [ho] at h
      simp only [aMore, aTyA] at h
      obtain ⟨hc, h⟩ := h
      obtain ⟨d, hd, hne⟩ := conc_of hc
      have hv := hf.ev x (hin _ (by simp [ho, Op.operands]))
      revert h hv
      generalize fr.ev x = y
      intro h hv
      split at h
      · rename_i t' y'
        obtain ⟨rfl, h⟩ := h
        refine opOk_pure hs (x := y') ?_ (.v _) h
        have hr : (Instr.typeAssert (.iface t' y') t t' false).run P w = .ok y' w := by
          cases d <;> first | exact absurd rfl (hne _) | simp [Instr.typeAssert, run_underlying hd]
        simp only [execOp, ho, Sem.run_bind, hv.eq, hr, Result.andThen_ok, Sem.run_pure]
      · exact h.elim
  | _ => rw [ho] at h; exact h.elim

theorem aMore_congr {o : Op} {fr fr' : Fr} (h : ∀ x ∈ o.operands, fr.ev x = fr'.ev x) : aMore P o fr σ k = aMore P o fr' σ k := by
  cases o with
  | makeMap t r => cases r <;> rfl
  | lookup t m x ok => simp only [aMore, h m (by simp [Op.operands]), h x (by simp [Op.operands])]
  | mapUpdate t m x y => simp only [aMore, h m (by simp [Op.operands]), h x (by simp [Op.operands]), h y (by simp [Op.operands])]
  | makeInterface t x => simp only [aMore, h x (by simp [Op.operands])]
  | typeAssert x t u ok => cases ok <;> simp only [aMore, h x (by simp [Op.operands])]
  | _ => rfl
end
end Go.Av
