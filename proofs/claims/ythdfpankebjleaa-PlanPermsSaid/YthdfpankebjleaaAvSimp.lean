/-
  The program logic, part 12: the rules by which a walk is reckoned (for simp), the continuations left alone.
  Conditions: none (a library of lemmas over any program).
-/
import Derived.Test.YthdfpankebjleaaAvWalk
set_option linter.unusedVariables false
set_option linter.unusedSimpArgs false
namespace Go.Av
open Go Go.RowKit

/-- What simp leaves alone: it does not look into an instance. -/
class Bx (α : Type) where
  val : α
def hid {α : Type} [c : Bx α] : α := c.val
@[go_sem] theorem hid_app {α β : Type} {f : α → β} {a : α} : (@hid (α → β) ⟨f⟩) a = f a := _root_.id rfl

section
variable {P : Program}

/-! ### the rules -/
@[go_sem] theorem r_skip {K : AK} {fr : Fr} {σ : St} : aCode P .skip K fr σ = K .normal fr σ := _root_.id rfl
@[go_sem] theorem r_region {id : Nat} {l : List Oper} {K : AK} {fr : Fr} {σ : St} : aCode P (.region id l.toArray false) K fr σ = aOps P (l.map (·.dst)) l (@hid _ ⟨K .normal⟩) fr σ := _root_.id rfl
@[go_sem] theorem r_draw {id : Nat} {ops : Array Oper} {K : AK} {fr : Fr} {σ : St} : aCode P (.region id ops true) K fr σ = aDraw P ops (@hid _ ⟨K .normal⟩) fr σ := _root_.id rfl
@[go_sem] theorem r_seq {x y : Code} {K : AK} {fr : Fr} {σ : St} : aCode P (.seq x y) K fr σ = aCode P x (@hid _ ⟨AK.then (aCode P y K) K⟩) fr σ := _root_.id rfl
@[go_sem] theorem r_cond {c : Operand} {x y : Code} {K : AK} {fr : Fr} {σ : St} : aCode P (.cond c x y) K fr σ = aCond (fr.ev c) (@hid _ ⟨aCode P x K fr σ⟩) (@hid _ ⟨aCode P y K fr σ⟩) := _root_.id rfl
theorem r_block {id : Nat} {x : Code} {K : AK} {fr : Fr} {σ : St} : aCode P (.block id x) K fr σ = aCode P x (@hid _ ⟨AK.block id K⟩) fr σ := _root_.id rfl
@[go_sem] theorem r_loop {x : Code} {K : AK} {fr : Fr} {σ : St} : aCode P (.loop x) K fr σ = aLoop (@hid _ ⟨aCode P x⟩) K fr σ := _root_.id rfl
@[go_sem] theorem r_exit {id : Nat} {K : AK} {fr : Fr} {σ : St} : aCode P (.exit id) K fr σ = K (.exit id) fr σ := _root_.id rfl
@[go_sem] theorem r_scope {x : Code} {K : AK} {fr : Fr} {σ : St} : aCode P (.scope x) K fr σ = aCode P x (@hid _ ⟨AK.noGoto K⟩) fr σ := _root_.id rfl
@[go_sem] theorem r_ret {K : AK} {fr : Fr} {σ : St} : aCode P .ret K fr σ = K .ret fr σ := _root_.id rfl
@[go_sem] theorem r_range {g : Operand} {l : List Nat} {x y : Code} {K : AK} {fr : Fr} {σ : St} : aCode P (.rangeFunc g l.toArray x y) K fr σ = aRange P (fr.ev g) l x y K fr σ := _root_.id rfl
@[go_sem] theorem r_label {l : Nat} {K : AK} {fr : Fr} {σ : St} : aCode P (.label l) K fr σ = K .normal fr σ := _root_.id rfl
@[go_sem] theorem r_then_n {A : Fr → St → Prop} {K : AK} {fr : Fr} {σ : St} : AK.then A K .normal fr σ = A fr σ := _root_.id rfl
@[go_sem] theorem r_then_n' {A : Fr → St → Prop} {K : AK} : AK.then A K .normal = A := _root_.id rfl
@[go_sem] theorem r_then_e {A : Fr → St → Prop} {K : AK} {id : Nat} {fr : Fr} {σ : St} : AK.then A K (.exit id) fr σ = K (.exit id) fr σ := _root_.id rfl
@[go_sem] theorem r_then_g {A : Fr → St → Prop} {K : AK} {id : Nat} {fr : Fr} {σ : St} : AK.then A K (.goto id) fr σ = K (.goto id) fr σ := _root_.id rfl
@[go_sem] theorem r_then_r {A : Fr → St → Prop} {K : AK} {fr : Fr} {σ : St} : AK.then A K .ret fr σ = K .ret fr σ := _root_.id rfl
@[go_sem] theorem r_block_n {K : AK} {id : Nat} {fr : Fr} {σ : St} : AK.block id K .normal fr σ = K .normal fr σ := _root_.id rfl
@[go_sem] theorem r_block_n' {K : AK} {id : Nat} : AK.block id K .normal = K .normal := _root_.id rfl
@[go_sem] theorem r_block_e {K : AK} {id j : Nat} {fr : Fr} {σ : St} : AK.block id K (.exit j) fr σ = if j = id then K .normal fr σ else K (.exit j) fr σ := _root_.id rfl
@[go_sem] theorem r_block_g {K : AK} {id j : Nat} {fr : Fr} {σ : St} : AK.block id K (.goto j) fr σ = K (.goto j) fr σ := _root_.id rfl
@[go_sem] theorem r_block_r {K : AK} {id : Nat} {fr : Fr} {σ : St} : AK.block id K .ret fr σ = K .ret fr σ := _root_.id rfl
@[go_sem] theorem r_fn_n {Q : AV → St → Prop} {l : List ResultVar} {fr : Fr} {σ : St} : AK.fn P Q l .normal fr σ = aRet P Q l fr σ := _root_.id rfl
@[go_sem] theorem r_fn_r {Q : AV → St → Prop} {l : List ResultVar} {fr : Fr} {σ : St} : AK.fn P Q l .ret fr σ = aRet P Q l fr σ := _root_.id rfl
@[go_sem] theorem r_nil {ds : List (Option Nat)} {K : Fr → St → Prop} {fr : Fr} {σ : St} : aOps P ds [] K fr σ = K fr σ := _root_.id rfl
@[go_sem] theorem r_cons {ds : List (Option Nat)} {d : Option Nat} {op : Op} {t : TypeId} {p : String} {e : Array Edge} {l : List Oper} {K : Fr → St → Prop} {fr : Fr} {σ : St} :
    aOps P ds ({ dst := d, op := op, type := t, pos := p, after := e, guard := none } :: l) K fr σ = aOp P op fr σ (@hid _ ⟨fun v σ' => aOps P ds l K (fr.put d v) σ'⟩) := _root_.id rfl
@[go_sem] theorem r_consg {ds : List (Option Nat)} {d : Option Nat} {op : Op} {t : TypeId} {p : String} {e : Array Edge} {g : Nat × Bool} {l : List Oper} {K : Fr → St → Prop} {fr : Fr} {σ : St} :
    aOps P ds ({ dst := d, op := op, type := t, pos := p, after := e, guard := some g } :: l) K fr σ = aGd ds fr (some g) (@hid _ ⟨aOp P op fr σ (@hid _ ⟨fun v σ' => aOps P ds l K (fr.put d v) σ'⟩)⟩) (@hid _ ⟨aOps P ds l K (fr.put d (.v undef)) σ⟩) := _root_.id rfl
def aGd1 (x : AV) (want : Bool) (A B : Prop) : Prop :=
  match x with
  | .v (.bool b) => if want then aIf b A B else aIf b B A
  | .v _ => B
  | _ => False
@[go_sem] theorem r_gdu {want : Bool} {A B : Prop} : aGd1 (.v undef) want A (@hid _ ⟨B⟩) = B := _root_.id rfl
@[go_sem] theorem r_gd0 {d : Nat} {ds : List (Option Nat)} {fr : Fr} {want : Bool} {A B : Prop} : aGd (some d :: ds) fr (some (0, want)) A B = aGd1 (fr d) want A B := _root_.id rfl
@[go_sem] theorem r_gdS {d : Option Nat} {ds : List (Option Nat)} {fr : Fr} {j : Nat} {want : Bool} {A B : Prop} : aGd (d :: ds) fr (some (j + 1, want)) A B = aGd ds fr (some (j, want)) A B := _root_.id rfl
@[go_sem] theorem r_gd1t {b : Bool} {A B : Prop} : aGd1 (.v (.bool b)) true A B = aIf b A B := _root_.id rfl
@[go_sem] theorem r_gd1f {b : Bool} {A B : Prop} : aGd1 (.v (.bool b)) false A B = aIf b B A := _root_.id rfl
@[go_sem] theorem r_condb {b : Bool} {A B : Prop} : aCond (.v (.bool b)) A B = aIf b A B := _root_.id rfl
@[go_sem] theorem r_if_t {A B : Prop} : aIf true (@hid _ ⟨A⟩) B = A := _root_.id rfl
@[go_sem] theorem r_if_f {A B : Prop} : aIf false A (@hid _ ⟨B⟩) = B := by simp [aIf, hid]
@[go_sem] theorem r_if_not {b : Bool} {A B : Prop} : aIf (!b) A B = aIf b B A := by cases b <;> simp [aIf]

/-- A test parts the walk. -/
theorem aIf_by {p : Prop} [Decidable p] {A B : Prop} (h1 : p → A) (h2 : ¬ p → B) : aIf (decide p) (@hid _ ⟨A⟩) (@hid _ ⟨B⟩) := by
  unfold aIf
  by_cases h : p
  · rw [if_pos (by simpa using h)]; exact h1 h
  · rw [if_neg (by simpa using h)]; exact h2 h
theorem aIf_bool {b : Bool} {A B : Prop} (h1 : b = true → A) (h2 : b = false → B) : aIf b (@hid _ ⟨A⟩) (@hid _ ⟨B⟩) := by
  unfold aIf
  cases b
  · rw [if_neg (by simp)]; exact h2 rfl
  · rw [if_pos rfl]; exact h1 rfl

@[go_sem] theorem r_up {fr : Fr} {t x : Nat} {v : AV} : (fr.up t v) x = if x = t then v else fr x := _root_.id rfl
@[go_sem] theorem r_put {fr : Fr} {t : Nat} {v : AV} : fr.put (some t) v = fr.up t v := _root_.id rfl
@[go_sem] theorem r_putn {fr : Fr} {v : AV} : fr.put none v = fr := _root_.id rfl
@[go_sem] theorem r_evt {fr : Fr} {t : Nat} : fr.ev (.tmp t) = fr t := _root_.id rfl
@[go_sem] theorem r_evc {fr : Fr} {v : Value} : fr.ev (.const v) = ofConst v := _root_.id rfl
@[go_sem] theorem r_evf {fr : Fr} {f : Nat} : fr.ev (.func f) = .v (.func (.func f) #[] #[]) := _root_.id rfl
@[go_sem] theorem r_c1 {k : IntKind} {x : Int} : ofConst (.int k x) = .v (.int k x) := _root_.id rfl
@[go_sem] theorem r_c2 {x : Bool} : ofConst (.bool x) = .v (.bool x) := _root_.id rfl
@[go_sem] theorem r_c3 {x : ByteArray} : ofConst (.string x) = .v (.string x) := _root_.id rfl
@[go_sem] theorem r_c4 {x : Option Addr} : ofConst (.pointer x) = .v (.pointer x) := _root_.id rfl
@[go_sem] theorem r_c5 {x : Option Addr} {l c : Nat} : ofConst (.slice x l c) = .v (.slice x l c) := _root_.id rfl
@[go_sem] theorem r_c6 {l : List Value} : ofConst (.agg l.toArray) = .agg (l.map .v) := _root_.id rfl
@[go_sem] theorem r_c7 {x : Option Nat} : ofConst (.map x) = .v (.map x) := _root_.id rfl
@[go_sem] theorem r_c8 : ofConst .nilFunc = .v .nilFunc := _root_.id rfl
@[go_sem] theorem r_c9 : ofConst .nilIface = .v .nilIface := _root_.id rfl
@[go_sem] theorem r_enter {args : List AV} {t : Nat} : enterFr args t = args.getD t (.v undef) := _root_.id rfl


/-- A new map. -/
def aNewMap (σ : St) (k : AV → St → Prop) : Prop := ∀ b, σ b = none → k (.v (.map (some b))) (σ.set b (.map []))
theorem aNewMap_intro {σ : St} {k : AV → St → Prop} (h : ∀ b, σ b = none → (∀ x o, σ x = some o → x ≠ b) → k (.v (.map (some b))) (σ.set b (.map []))) : aNewMap σ k :=
  fun b hb => h b hb fun x o hx e => by subst e; rw [hb] at hx; cases hx

section
variable {fr : Fr} {σ : St} {k : AV → St → Prop} {K : AV → Prop}
@[go_sem] theorem o_move {x : Operand} : aOp P (.move x) fr σ k = k (fr.ev x) σ := _root_.id rfl
@[go_sem] theorem o_assign {x : Operand} : aOp P (.assign x) fr σ k = k (fr.ev x) σ := _root_.id rfl
@[go_sem] theorem o_pick {c x y : Operand} : aOp P (.pick c x y) fr σ k = aPick (fr.ev c) (fr.ev x) (fr.ev y) (@hid _ ⟨fun v => k v σ⟩) := _root_.id rfl
@[go_sem] theorem o_alloc {e : TypeId} : aOp P (.alloc e) fr σ k = aAlloc (tk P e) σ k := _root_.id rfl
@[go_sem] theorem o_box {e : TypeId} {x : Operand} : aOp P (.box e x) fr σ k = aBox (fr.ev x) σ k := _root_.id rfl
@[go_sem] theorem o_build {t : TypeId} {l : List (Nat × Operand)} : aOp P (.build t l.toArray) fr σ k = aBuild (tk P t) (evs fr.ev l) (@hid _ ⟨fun v => k v σ⟩) := _root_.id rfl
@[go_sem] theorem o_buildS {t : TypeId} {n : Nat} {l : List (Nat × Operand)} : aOp P (.buildSlice t n l.toArray) fr σ k = aBuildS (tk P t) n (evs fr.ev l) (@hid _ ⟨fun v => k v σ⟩) := _root_.id rfl
@[go_sem] theorem o_load {t : TypeId} {x : Operand} : aOp P (.load t x) fr σ k = aLoad (tk P t) σ (fr.ev x) (@hid _ ⟨fun v => k v σ⟩) := _root_.id rfl
@[go_sem] theorem o_store {t : TypeId} {x y : Operand} : aOp P (.store t x y) fr σ k = aStore (tk P t) σ (fr.ev x) (fr.ev y) (@hid _ ⟨fun σ' => k (.v undef) σ'⟩) := _root_.id rfl
@[go_sem] theorem o_nil {x : Operand} : aOp P (.nilCheck x) fr σ k = aNil (fr.ev x) (@hid _ ⟨fun v => k v σ⟩) := _root_.id rfl
@[go_sem] theorem o_bin {op : BinOp} {t ty : TypeId} {x y : Operand} : aOp P (.binOp op t x y ty) fr σ k = aBin P op t (fr.ev x) (fr.ev y) (@hid _ ⟨fun v => k v σ⟩) := _root_.id rfl
@[go_sem] theorem o_un {op : UnOp} {t : TypeId} {x : Operand} : aOp P (.unOp op t x) fr σ k = aUn op (fr.ev x) (@hid _ ⟨fun v => k v σ⟩) := _root_.id rfl
@[go_sem] theorem o_conv {s d : TypeId} {x : Operand} : aOp P (.convert s d x) fr σ k = aConv (tk P s) (tk P d) σ (fr.ev x) k := _root_.id rfl
@[go_sem] theorem o_func {fn : Fn} {l m : List Operand} : aOp P (.makeFunc fn l.toArray m.toArray) fr σ k = aFunc fn fr.ev l m (@hid _ ⟨fun v => k v σ⟩) := _root_.id rfl
@[go_sem] theorem o_sli {t : TypeId} {x : Operand} {lo hi mx : Option Operand} : aOp P (.slice t x lo hi mx) fr σ k = aSli (tk P t) σ (fr.ev x) (lo.map fr.ev) (hi.map fr.ev) (mx.map fr.ev) (@hid _ ⟨fun v => k v σ⟩) := _root_.id rfl
@[go_sem] theorem o_fadr {s f : Nat} {x : Operand} : aOp P (.fieldAddr s x f) fr σ k = aFadr (tk P s) f (fr.ev x) (@hid _ ⟨fun v => k v σ⟩) := _root_.id rfl
@[go_sem] theorem o_fld {s f : Nat} {x : Operand} : aOp P (.field s x f) fr σ k = aFld (tk P s) f (fr.ev x) (@hid _ ⟨fun v => k v σ⟩) := _root_.id rfl
@[go_sem] theorem o_iadr {t : TypeId} {x ix : Operand} : aOp P (.indexAddr t x ix) fr σ k = aIadr (tk P t) σ (fr.ev x) (fr.ev ix) (@hid _ ⟨fun v => k v σ⟩) := _root_.id rfl
@[go_sem] theorem o_idx {t : TypeId} {x ix : Operand} : aOp P (.index t x ix) fr σ k = aIdx (tk P t) (fr.ev x) (fr.ev ix) (@hid _ ⟨fun v => k v σ⟩) := _root_.id rfl
@[go_sem] theorem o_ext {x : Operand} {j : Nat} : aOp P (.extract x j) fr σ k = aExt (fr.ev x) j (@hid _ ⟨fun v => k v σ⟩) := _root_.id rfl
@[go_sem] theorem o_callf {f : FuncId} {l : List Operand} {ts : Array TypeId} : aOp P (.call { callee := .value (.func f), args := l.toArray, argTypes := ts }) fr σ k = AT P f (l.map fr.ev) σ k := _root_.id rfl
@[go_sem] theorem o_callv {t : Nat} {l : List Operand} {ts : Array TypeId} : aOp P (.call { callee := .value (.tmp t), args := l.toArray, argTypes := ts }) fr σ k = aCallV P (fr t) (l.map fr.ev) σ k := _root_.id rfl
@[go_sem] theorem callv_func {f : FuncId} {l m : List Value} {args : List AV} : aCallV P (.v (.func (.func f) l.toArray m.toArray)) args σ k = AT P f (l.map .v ++ args ++ m.map .v) σ k := _root_.id rfl
@[go_sem] theorem callv_yield {l : Nat} {args : List AV} : aCallV P (.v (.func (.yield l) #[] #[])) args σ k = YC P l args σ k := by simp [aCallV]
@[go_sem] theorem parFr_cons {fr : Fr} {p : Nat} {ps : List Nat} {a : AV} {as : List AV} : parFr fr (p :: ps) (a :: as) = parFr (fr.up p a) ps as := _root_.id rfl
@[go_sem] theorem parFr_nil {fr : Fr} {as : List AV} : parFr fr [] as = fr := by cases as <;> rfl
@[go_sem] theorem o_len {x : Operand} {t : TypeId} : aOp P (.call { callee := .builtin .len, args := #[x], argTypes := #[t] }) fr σ k = aLen (tk P t) (fr.ev x) (@hid _ ⟨fun v => k v σ⟩) := _root_.id rfl
@[go_sem] theorem o_app {s x : Operand} {t1 t2 : TypeId} : aOp P (.call { callee := .builtin .append, args := #[s, x], argTypes := #[t1, t2] }) fr σ k = (notInt (tk P t2) = true ∧ aApp (tk P t1) σ (fr.ev s) (fr.ev x) k) := _root_.id rfl

@[go_sem] theorem o_min {x y : Operand} {ts : Array TypeId} : aOp P (.call { callee := .builtin .min, args := #[x, y], argTypes := ts }) fr σ k = aMin (fr.ev x) (fr.ev y) (@hid _ ⟨fun v => k v σ⟩) := _root_.id rfl
@[go_sem] theorem o_max {x y : Operand} {ts : Array TypeId} : aOp P (.call { callee := .builtin .max, args := #[x, y], argTypes := ts }) fr σ k = aMax (fr.ev x) (fr.ev y) (@hid _ ⟨fun v => k v σ⟩) := _root_.id rfl
@[go_sem] theorem min_i {i j : IntKind} {x y : Int} : aMin (.v (.int i x)) (.v (.int j y)) K = K (.v (.int i (min x y))) := _root_.id rfl
@[go_sem] theorem max_i {i j : IntKind} {x y : Int} : aMax (.v (.int i x)) (.v (.int j y)) K = K (.v (.int i (max x y))) := _root_.id rfl
@[go_sem] theorem int_shl {ik : IntKind} {x y : Int} : aInt .shl ik x y K = (0 ≤ y ∧ K (.v (.int ik (ik.wrap (x * 2 ^ min y.toNat ik.bits))))) := _root_.id rfl
@[go_sem] theorem int_shr {ik : IntKind} {x y : Int} : aInt .shr ik x y K = (0 ≤ y ∧ K (.v (.int ik (x.fdiv (2 ^ min y.toNat ik.bits))))) := _root_.id rfl
@[go_sem] theorem o_clear {x : Operand} {t : TypeId} : aOp P (.call { callee := .builtin .clear, args := #[x], argTypes := #[t] }) fr σ k = aClear (tk P t) σ (fr.ev x) k := _root_.id rfl
@[go_sem] theorem clear_nil {i : TK} {a c : Nat} {q eby : Nat} {ez : List Value} {byt ag : Bool} {sz : Nat} {zr : List Value} : aClear (some ⟨ag, sz, zr, .sl q eby ez byt⟩) σ (.v (.slice none a c)) k = k (.tup []) σ := _root_.id rfl
@[go_sem] theorem o_delete {x y : Operand} {t t2 : TypeId} : aOp P (.call { callee := .builtin .delete, args := #[x, y], argTypes := #[t, t2] }) fr σ k = aMapDel P (tk P t) σ (fr.ev x) (fr.ev y) k := _root_.id rfl
@[go_sem] theorem o_mkmap {t : TypeId} : aOp P (.makeMap t none) fr σ k = aNewMap σ k := _root_.id rfl
@[go_sem] theorem o_look {t : TypeId} {x y : Operand} {ok : Bool} : aOp P (.lookup t x y ok) fr σ k = aLook P (tk P t) σ (fr.ev x) (fr.ev y) ok (@hid _ ⟨fun v => k v σ⟩) := _root_.id rfl
@[go_sem] theorem o_mapput {t : TypeId} {m x y : Operand} : aOp P (.mapUpdate t m x y) fr σ k = aMapPut P (tk P t) σ (fr.ev m) (fr.ev x) (fr.ev y) (@hid _ ⟨fun σ' => k (.v undef) σ'⟩) := _root_.id rfl
@[go_sem] theorem o_mki {t : TypeId} {x : Operand} : aOp P (.makeInterface t x) fr σ k = aMkI P t (fr.ev x) (@hid _ ⟨fun v => k v σ⟩) := _root_.id rfl
@[go_sem] theorem o_tya {t u : TypeId} {x : Operand} : aOp P (.typeAssert x t u false) fr σ k = aTyA P u (fr.ev x) (@hid _ ⟨fun v => k v σ⟩) := _root_.id rfl
@[go_sem] theorem mki_v {t : TypeId} {y : Value} : aMkI P t (.v y) K = (isConc P t = true ∧ K (.v (.iface t y))) := _root_.id rfl
@[go_sem] theorem tya_v {u t : TypeId} {y : Value} : aTyA P u (.v (.iface t y)) K = (isConc P u = true ∧ t = u ∧ K (.v y)) := _root_.id rfl
/-- A map's entries are looked through. -/
def aLookIn (kd : TD) (z : AV) (ob : Option AObj) (x : Value) (ok : Bool) (K : AV → Prop) : Prop :=
  match ob with
  | some (.map kv) => keyOk kd x = true ∧ (∀ p ∈ kv, keyOk kd p.1 = true) ∧ match mFind x kv with
    | some u => K (if ok then .tup [u, .v (.bool true)] else u)
    | none => K (if ok then .tup [z, .v (.bool false)] else z)
  | _ => False
def aLook2 (i j : Option TK) (σ : St) (m x : AV) (ok : Bool) (K : AV → Prop) : Prop :=
  match i, j, m, x with
  | some kk, some ke, .v (.map none), .v x => keyOk kk.td x = true ∧ K (if ok then .tup [ke.zav, .v (.bool false)] else ke.zav)
  | some kk, some ke, .v (.map (some b)), .v x => aLookIn kk.td ke.zav (σ b) x ok K
  | _, _, _, _ => False
@[go_sem] theorem look_m {ag : Bool} {sz : Nat} {zr : List Value} {kt et : TypeId} {m x : AV} {ok : Bool} : aLook P (some ⟨ag, sz, zr, .map kt et⟩) σ m x ok K = aLook2 (tk P kt) (tk P et) σ m x ok K := _root_.id rfl
@[go_sem] theorem look2_n {i j : TK} {x : Value} {ok : Bool} : aLook2 (some i) (some j) σ (.v (.map none)) (.v x) ok K = (keyOk i.td x = true ∧ K (if ok then .tup [j.zav, .v (.bool false)] else j.zav)) := _root_.id rfl
@[go_sem] theorem look2_s {i j : TK} {b : Nat} {x : Value} {ok : Bool} : aLook2 (some i) (some j) σ (.v (.map (some b))) (.v x) ok K = aLookIn i.td j.zav (σ b) x ok K := _root_.id rfl
theorem lookIn_none {kd : TD} {z : AV} {kv : List (Value × AV)} {x : Value} (h : mFind x kv = none) (h1 : keyOk kd x = true) (h2 : ∀ p ∈ kv, keyOk kd p.1 = true) (hk : K (.tup [z, .v (.bool false)])) : aLookIn kd z (some (.map kv)) x true K := by
  simp only [aLookIn, h]
  exact ⟨h1, h2, hk⟩
theorem lookIn_some {kd : TD} {z u : AV} {kv : List (Value × AV)} {x : Value} (h : mFind x kv = some u) (h1 : keyOk kd x = true) (h2 : ∀ p ∈ kv, keyOk kd p.1 = true) (hk : K (.tup [u, .v (.bool true)])) : aLookIn kd z (some (.map kv)) x true K := by
  simp only [aLookIn, h]
  exact ⟨h1, h2, hk⟩
def aMapPut2 (i : Option TK) (σ : St) (m x v : AV) (k : St → Prop) : Prop :=
  match i, m, x with
  | some kk, .v (.map (some b)), .v x => match σ b with
    | some (.map kv) => keyOk kk.td x = true ∧ (∀ p ∈ kv, keyOk kk.td p.1 = true) ∧ k (σ.set b (.map (mPut x v kv)))
    | _ => False
  | _, _, _ => False
def aMapPut3 (kd : TD) (σ : St) (b : Nat) (x : Value) (v : AV) (k : St → Prop) : Option AObj → Prop
  | some (.map kv) => keyOk kd x = true ∧ (∀ p ∈ kv, keyOk kd p.1 = true) ∧ k (σ.set b (.map (mPut x v kv)))
  | _ => False
@[go_sem] theorem mapput_m {ag : Bool} {sz : Nat} {zr : List Value} {kt et : TypeId} {m x v : AV} {k : St → Prop} : aMapPut P (some ⟨ag, sz, zr, .map kt et⟩) σ m x v k = aMapPut2 (tk P kt) σ m x v k := _root_.id rfl
@[go_sem] theorem mapput_2 {i : TK} {b : Nat} {x : Value} {v : AV} {k : St → Prop} : aMapPut2 (some i) σ (.v (.map (some b))) (.v x) v k = aMapPut3 i.td σ b x v k (σ b) := by
  simp only [aMapPut2, aMapPut3]
@[go_sem] theorem mapput_3 {kd : TD} {b : Nat} {x : Value} {v : AV} {k : St → Prop} {kv : List (Value × AV)} : aMapPut3 kd σ b x v k (some (.map kv)) = (keyOk kd x = true ∧ (∀ p ∈ kv, keyOk kd p.1 = true) ∧ k (σ.set b (.map (mPut x v kv)))) := _root_.id rfl
def aMapDel2 (i : Option TK) (σ : St) (m x : AV) (k : AV → St → Prop) : Prop :=
  match i, m, x with
  | some kk, .v (.map (some b)), .v x => match σ b with
    | some (.map kv) => keyOk kk.td x = true ∧ (∀ p ∈ kv, keyOk kk.td p.1 = true) ∧ k (.tup []) (σ.set b (.map (mDel x kv)))
    | _ => False
  | _, _, _ => False
def aMapDel3 (kd : TD) (σ : St) (b : Nat) (x : Value) (k : AV → St → Prop) : Option AObj → Prop
  | some (.map kv) => keyOk kd x = true ∧ (∀ p ∈ kv, keyOk kd p.1 = true) ∧ k (.tup []) (σ.set b (.map (mDel x kv)))
  | _ => False
@[go_sem] theorem mapdel_m {ag : Bool} {sz : Nat} {zr : List Value} {kt et : TypeId} {m x : AV} : aMapDel P (some ⟨ag, sz, zr, .map kt et⟩) σ m x k = aMapDel2 (tk P kt) σ m x k := _root_.id rfl
@[go_sem] theorem mapdel_2 {i : TK} {b : Nat} {x : Value} : aMapDel2 (some i) σ (.v (.map (some b))) (.v x) k = aMapDel3 i.td σ b x k (σ b) := by
  simp only [aMapDel2, aMapDel3]
@[go_sem] theorem mapdel_3 {kd : TD} {b : Nat} {x : Value} {kv : List (Value × AV)} : aMapDel3 kd σ b x k (some (.map kv)) = (keyOk kd x = true ∧ (∀ p ∈ kv, keyOk kd p.1 = true) ∧ k (.tup []) (σ.set b (.map (mDel x kv)))) := _root_.id rfl

/-- A new block. -/
def aNew (σ : St) (t : AObj) (k : AV → St → Prop) : Prop := ∀ b, σ b = none → k (.v (.pointer (some ⟨b, 0, none⟩))) (σ.set b t)
/-- A new row. -/
def aNewRow (σ : St) (q : Nat) (es : List (List AV)) (n : Nat) (k : AV → St → Prop) : Prop := ∀ b cap, σ b = none → n ≤ cap → k (.v (.slice (some ⟨b, 0, none⟩) n cap)) (σ.set b (.rows q es false cap))
theorem aNew_intro {t : AObj} (h : ∀ b, σ b = none → (∀ x o, σ x = some o → x ≠ b) → k (.v (.pointer (some ⟨b, 0, none⟩))) (σ.set b t)) : aNew σ t k :=
  fun b hb => h b hb fun x o hx e => by subst e; rw [hb] at hx; cases hx
theorem aNewRow_intro {q n : Nat} {es : List (List AV)} (h : ∀ b cap, σ b = none → (∀ x o, σ x = some o → x ≠ b) → n ≤ cap → k (.v (.slice (some ⟨b, 0, none⟩) n cap)) (σ.set b (.rows q es false cap))) : aNewRow σ q es n k :=
  fun b cap hb hn => h b cap hb (fun x o hx e => by subst e; rw [hb] at hx; cases hx) hn
@[go_sem] theorem pick_t {x y : AV} : aPick (.v (.bool true)) x y K = K x := by simp [aPick]
@[go_sem] theorem pick_f {x y : AV} : aPick (.v (.bool false)) x y K = K y := by simp [aPick]
theorem pick_b {b : Bool} {x y : AV} : aPick (.v (.bool b)) x y K = aIf b (K x) (K y) := by cases b <;> simp [aPick, aIf]
@[go_sem] theorem alloc_s {i : TK} : aAlloc (some i) σ k = aNew σ (.cells (i.zr.map .v)) k := _root_.id rfl
@[go_sem] theorem box_s {x : AV} : aBox x σ k = (x.cells.all AV.one = true ∧ aNew σ (.cells x.cells) k) := _root_.id rfl
@[go_sem] theorem build_st {ag : Bool} {sz : Nat} {zr : List Value} {fs : List (Nat × Nat × Bool)} {ps : List (Nat × AV)} : aBuild (some ⟨ag, sz, zr, .st fs⟩) ps K = aFill (@hid _ ⟨fun j => (fs[j]?).map fun f => (f.1, f.2.1)⟩) K (zr.map .v) ps := _root_.id rfl
@[go_sem] theorem build_arr {ag : Bool} {sz n esz : Nat} {eag : Bool} {zr : List Value} {ps : List (Nat × AV)} : aBuild (some ⟨ag, sz, zr, .arr n esz eag⟩) ps K = aFill (@hid _ ⟨fun j => some (j * esz, esz)⟩) K (zr.map .v) ps := _root_.id rfl
@[go_sem] theorem fill_nil {fs : Nat → Option (Nat × Nat)} {cs : List AV} : aFill fs K cs [] = K (.agg cs) := _root_.id rfl
/-- One part put in its place. -/
def aPutIn (q : Option (Nat × Nat)) (cs : List AV) (x : List AV) (k : List AV → Prop) : Prop :=
  match q with
  | some (off, sz) => x.length = sz ∧ off + sz ≤ cs.length ∧ k (splice cs off x)
  | none => False
@[go_sem] theorem putIn_s {off sz : Nat} {cs x : List AV} {k : List AV → Prop} : aPutIn (some (off, sz)) cs x k = (x.length = sz ∧ off + sz ≤ cs.length ∧ k (splice cs off x)) := _root_.id rfl
@[go_sem] theorem fill_cons {fs : Nat → Option (Nat × Nat)} {cs : List AV} {j : Nat} {x : AV} {r : List (Nat × AV)} : aFill fs K cs ((j, x) :: r) = aPutIn (fs j) cs x.cells (@hid _ ⟨fun cs' => aFill fs K cs' r⟩) := by
  simp only [aFill, aPutIn, hid]
  cases fs j with
  | none => rfl
  | some q => rfl
@[go_sem] theorem buildS_s {ag : Bool} {sz esz eby : Nat} {zr ez : List Value} {byt : Bool} {n : Nat} {ps : List (Nat × AV)} : aBuildS (some ⟨ag, sz, zr, .sl esz eby ez byt⟩) n ps K = (0 < esz ∧ n * esz ≤ 16777216 ∧ ez.all Value.oneCell' = true ∧ aFillS esz (@hid _ ⟨fun es => K (.fsl esz es)⟩) (List.replicate n (ez.map .v)) ps) := _root_.id rfl
@[go_sem] theorem fillS_nil {q : Nat} {k : List (List AV) → Prop} {es : List (List AV)} : aFillS q k es [] = k es := _root_.id rfl
@[go_sem] theorem fillS_cons {q : Nat} {k : List (List AV) → Prop} {es : List (List AV)} {j : Nat} {x : AV} {r : List (Nat × AV)} : aFillS q k es ((j, x) :: r) = (j < es.length ∧ x.cells.length = q ∧ x.cells.all AV.one = true ∧ aFillS q k (es.set j x.cells) r) := _root_.id rfl

/-! loads -/
def aCell (ag : Bool) (sz o : Nat) (cs : List AV) (K : AV → Prop) : Prop := if ag then o + sz ≤ cs.length ∧ K (.agg ((cs.drop o).take sz)) else o < cs.length ∧ K (cs.getD o (.v undef))
def aLoadB (ag : Bool) (sz o : Nat) (t : Option AObj) (K : AV → Prop) : Prop :=
  match t with
  | some (.cells cs) => aCell ag sz o cs K
  | _ => False
def aLoadR (ag : Bool) (sz q j f : Nat) (t : Option AObj) (K : AV → Prop) : Prop :=
  match t with
  | some (.rows q' es _ _) => q' = q ∧ j < es.length ∧ (if ag then f + sz ≤ q ∧ K (.agg (((es.getD j []).drop f).take sz)) else f < q ∧ K ((es.getD j []).getD f (.v undef)))
  | _ => False
@[go_sem] theorem load_p {ag : Bool} {sz : Nat} {zr : List Value} {td : TD} {b o : Nat} : aLoad (some ⟨ag, sz, zr, td⟩) σ (.v (.pointer (some ⟨b, o, none⟩))) K = aLoadB ag sz o (σ b) K := by
  simp only [aLoad, aLoadB]
  cases σ b with
  | none => rfl
  | some t => cases t <;> rfl
@[go_sem] theorem load_fp {ag : Bool} {sz : Nat} {zr : List Value} {td : TD} {cs : List AV} : aLoad (some ⟨ag, sz, zr, td⟩) σ (.fp cs) K = aCell ag sz 0 cs K := by
  simp [aLoad, aCell]
@[go_sem] theorem load_rp {ag : Bool} {sz : Nat} {zr : List Value} {td : TD} {b q j f : Nat} : aLoad (some ⟨ag, sz, zr, td⟩) σ (.rp b q j f) K = aLoadR ag sz q j f (σ b) K := by
  simp only [aLoad, aLoadR]
  cases σ b with
  | none => rfl
  | some t => cases t <;> rfl
@[go_sem] theorem loadB_c {ag : Bool} {sz o : Nat} {cs : List AV} : aLoadB ag sz o (some (.cells cs)) K = aCell ag sz o cs K := _root_.id rfl
def aCellR (ag : Bool) (sz f q : Nat) (cs : List AV) (K : AV → Prop) : Prop := if ag then f + sz ≤ q ∧ K (.agg ((cs.drop f).take sz)) else f < q ∧ K (cs.getD f (.v undef))
@[go_sem] theorem loadR_c {ag : Bool} {sz q j f : Nat} {es : List (List AV)} {frz : Bool} {cap : Nat} : aLoadR ag sz q j f (some (.rows q es frz cap)) K = (j < es.length ∧ aCellR ag sz f q (es.getD j []) K) := by
  simp [aLoadR, aCellR]
@[go_sem] theorem cell_ag {sz o : Nat} {cs : List AV} : aCell true sz o cs K = (o + sz ≤ cs.length ∧ K (.agg ((cs.drop o).take sz))) := by simp [aCell]
@[go_sem] theorem cell_na {sz o : Nat} {cs : List AV} : aCell false sz o cs K = (o < cs.length ∧ K (cs.getD o (.v undef))) := by simp [aCell]
@[go_sem] theorem cellR_ag {sz f q : Nat} {cs : List AV} : aCellR true sz f q cs K = (f + sz ≤ q ∧ K (.agg ((cs.drop f).take sz))) := by simp [aCellR]
@[go_sem] theorem cellR_na {sz f q : Nat} {cs : List AV} : aCellR false sz f q cs K = (f < q ∧ K (cs.getD f (.v undef))) := by simp [aCellR]

/-! stores -/
def aStoreB (sz b o : Nat) (t : Option AObj) (σ : St) (x : List AV) (k : St → Prop) : Prop :=
  match t with
  | some (.cells cs) => o + sz ≤ cs.length ∧ k (σ.set b (.cells (splice cs o x)))
  | _ => False
def aStoreR (sz b q j f : Nat) (t : Option AObj) (σ : St) (x : List AV) (k : St → Prop) : Prop :=
  match t with
  | some (.rows q' es false cap) => q' = q ∧ j < es.length ∧ f + sz ≤ q ∧ k (σ.set b (.rows q (es.set j (splice (es.getD j []) f x)) false cap))
  | _ => False
@[go_sem] theorem store_p {ag : Bool} {sz : Nat} {zr : List Value} {td : TD} {b o : Nat} {x : AV} {k : St → Prop} : aStore (some ⟨ag, sz, zr, td⟩) σ (.v (.pointer (some ⟨b, o, none⟩))) x k = (x.cells.length = sz ∧ x.cells.all AV.one = true ∧ aStoreB sz b o (σ b) σ x.cells k) := by
  simp only [aStore, aStoreB]
  cases σ b with
  | none => rfl
  | some t => cases t <;> rfl
@[go_sem] theorem store_rp {ag : Bool} {sz : Nat} {zr : List Value} {td : TD} {b q j f : Nat} {x : AV} {k : St → Prop} : aStore (some ⟨ag, sz, zr, td⟩) σ (.rp b q j f) x k = (x.cells.length = sz ∧ x.cells.all AV.one = true ∧ aStoreR sz b q j f (σ b) σ x.cells k) := by
  simp only [aStore, aStoreR]
  cases σ b with
  | none => rfl
  | some t =>
    cases t with
    | rows _ _ frz _ => cases frz <;> rfl
    | _ => rfl
@[go_sem] theorem storeB_c {sz b o : Nat} {cs x : List AV} {k : St → Prop} : aStoreB sz b o (some (.cells cs)) σ x k = (o + sz ≤ cs.length ∧ k (σ.set b (.cells (splice cs o x)))) := _root_.id rfl
@[go_sem] theorem storeR_c {sz b q j f : Nat} {es : List (List AV)} {cap : Nat} {x : List AV} {k : St → Prop} : aStoreR sz b q j f (some (.rows q es false cap)) σ x k = (j < es.length ∧ f + sz ≤ q ∧ k (σ.set b (.rows q (es.set j (splice (es.getD j []) f x)) false cap))) := by
  simp [aStoreR]

/-! addresses -/
@[go_sem] theorem nil_p {ad : Addr} : aNil (.v (.pointer (some ad))) K = K (.v (.pointer (some ad))) := _root_.id rfl
@[go_sem] theorem nil_f {f : FuncId} {x y : Array Value} : aNil (.v (.func (.func f) x y)) K = K (.v (.func (.func f) x y)) := _root_.id rfl
@[go_sem] theorem nil_y {l : Nat} {x y : Array Value} : aNil (.v (.func (.yield l) x y)) K = K (.v (.func (.yield l) x y)) := _root_.id rfl
@[go_sem] theorem nil_fp {cs : List AV} : aNil (.fp cs) K = K (.fp cs) := _root_.id rfl
@[go_sem] theorem nil_rp {b q i f : Nat} : aNil (.rp b q i f) K = K (.rp b q i f) := _root_.id rfl
def aFad (q : Option (Nat × Nat × Bool)) (x : AV) (K : AV → Prop) : Prop :=
  match q with
  | some (off, sz, _) => 0 < sz ∧ match x with
    | .v (.pointer (some ⟨b, p, none⟩)) => K (.v (.pointer (some ⟨b, p + off, none⟩)))
    | .fp cs => off ≤ cs.length ∧ K (.fp (cs.drop off))
    | .rp b q j g => K (.rp b q j (g + off))
    | _ => False
  | none => False
@[go_sem] theorem fadr_s {ag : Bool} {sz f : Nat} {zr : List Value} {fs : List (Nat × Nat × Bool)} {x : AV} : aFadr (some ⟨ag, sz, zr, .st fs⟩) f x K = aFad (fs[f]?) x K := by
  simp only [aFadr, aFad]
  cases fs[f]? with
  | none => rfl
  | some q => rfl
@[go_sem] theorem fad_p {off sz : Nat} {ag : Bool} {b p : Nat} : aFad (some (off, sz, ag)) (.v (.pointer (some ⟨b, p, none⟩))) K = (0 < sz ∧ K (.v (.pointer (some ⟨b, p + off, none⟩)))) := _root_.id rfl
@[go_sem] theorem fad_fp {off sz : Nat} {ag : Bool} {cs : List AV} : aFad (some (off, sz, ag)) (.fp cs) K = (0 < sz ∧ off ≤ cs.length ∧ K (.fp (cs.drop off))) := _root_.id rfl
@[go_sem] theorem fad_rp {off sz : Nat} {ag : Bool} {b q j g : Nat} : aFad (some (off, sz, ag)) (.rp b q j g) K = (0 < sz ∧ K (.rp b q j (g + off))) := _root_.id rfl
def aFl (q : Option (Nat × Nat × Bool)) (x : AV) (K : AV → Prop) : Prop :=
  match q with
  | some (off, sz, ag) => match x with
    | .agg cs => aCell ag sz off cs K
    | _ => False
  | none => False
@[go_sem] theorem fld_s {ag : Bool} {sz f : Nat} {zr : List Value} {fs : List (Nat × Nat × Bool)} {x : AV} : aFld (some ⟨ag, sz, zr, .st fs⟩) f x K = aFl (fs[f]?) x K := by
  simp only [aFld, aFl]
  cases fs[f]? with
  | none => rfl
  | some q => cases x <;> rfl
@[go_sem] theorem fl_a {off sz : Nat} {ag : Bool} {cs : List AV} : aFl (some (off, sz, ag)) (.agg cs) K = aCell ag sz off cs K := _root_.id rfl
section
variable {ag eag : Bool} {sz n esz eby : Nat} {zr ez : List Value} {byt : Bool} {ik : IntKind} {j : Int}
@[go_sem] theorem iadr_p {b p : Nat} : aIadr (some ⟨ag, sz, zr, .arr n esz eag⟩) σ (.v (.pointer (some ⟨b, p, none⟩))) (.v (.int ik j)) K = (0 ≤ j ∧ j < n ∧ K (.v (.pointer (some ⟨b, p + j.toNat * esz, none⟩)))) := _root_.id rfl
@[go_sem] theorem iadr_fp {cs : List AV} : aIadr (some ⟨ag, sz, zr, .arr n esz eag⟩) σ (.fp cs) (.v (.int ik j)) K = (0 ≤ j ∧ j < n ∧ j.toNat * esz ≤ cs.length ∧ K (.fp (cs.drop (j.toNat * esz)))) := _root_.id rfl
@[go_sem] theorem iadr_rp {b q r f : Nat} : aIadr (some ⟨ag, sz, zr, .arr n esz eag⟩) σ (.rp b q r f) (.v (.int ik j)) K = (0 ≤ j ∧ j < n ∧ K (.rp b q r (f + j.toNat * esz))) := _root_.id rfl
@[go_sem] theorem iadr_sl {q : Nat} {es : List (List AV)} : aIadr (some ⟨ag, sz, zr, .sl esz eby ez byt⟩) σ (.sl q es) (.v (.int ik j)) K = (q = esz ∧ 0 ≤ j ∧ j < es.length ∧ K (.fp (es.getD j.toNat []))) := _root_.id rfl
@[go_sem] theorem iadr_fsl {q : Nat} {es : List (List AV)} : aIadr (some ⟨ag, sz, zr, .sl esz eby ez byt⟩) σ (.fsl q es) (.v (.int ik j)) K = (q = esz ∧ 0 ≤ j ∧ j < es.length ∧ K (.fp (es.getD j.toNat []))) := _root_.id rfl
@[go_sem] theorem iadr_v {b m c : Nat} : aIadr (some ⟨ag, sz, zr, .sl esz eby ez byt⟩) σ (.v (.slice (some ⟨b, 0, none⟩) m c)) (.v (.int ik j)) K = (0 ≤ j ∧ j < m ∧ K (.rp b esz j.toNat 0)) := by simp [aIadr]
@[go_sem] theorem idx_arr {cs : List AV} : aIdx (some ⟨ag, sz, zr, .arr n esz eag⟩) (.agg cs) (.v (.int ik j)) K = (0 ≤ j ∧ j < n ∧ aCell eag esz (j.toNat * esz) cs K) := _root_.id rfl
@[go_sem] theorem idx_str {s : ByteArray} : aIdx (some ⟨ag, sz, zr, .str⟩) (.v (.string s)) (.v (.int ik j)) K = (0 ≤ j ∧ j < s.size ∧ K (.v (.int .u8 (s.data.toList.getD j.toNat 0).toNat))) := _root_.id rfl
@[go_sem] theorem ext_t {vs : List AV} {i : Nat} : aExt (.tup vs) i K = (i < vs.length ∧ K (vs.getD i (.v undef))) := _root_.id rfl
@[go_sem] theorem len_str {s : ByteArray} : aLen (some ⟨ag, sz, zr, .str⟩) (.v (.string s)) K = K (.v (.int .i64 s.size)) := _root_.id rfl
@[go_sem] theorem len_sl {q : Nat} {es : List (List AV)} : aLen (some ⟨ag, sz, zr, .sl esz eby ez byt⟩) (.sl q es) K = K (.v (.int .i64 es.length)) := _root_.id rfl
@[go_sem] theorem len_fsl {q : Nat} {es : List (List AV)} : aLen (some ⟨ag, sz, zr, .sl esz eby ez byt⟩) (.fsl q es) K = K (.v (.int .i64 es.length)) := _root_.id rfl
@[go_sem] theorem len_v {a : Option Addr} {m c : Nat} : aLen (some ⟨ag, sz, zr, .sl esz eby ez byt⟩) (.v (.slice a m c)) K = K (.v (.int .i64 m)) := _root_.id rfl
@[go_sem] theorem len_arr {x : AV} : aLen (some ⟨ag, sz, zr, .arr n esz eag⟩) x K = K (.v (.int .i64 n)) := _root_.id rfl
@[go_sem] theorem conv_int {i' : IntKind} {ag' : Bool} {sz' : Nat} {zr' : List Value} {i'' : IntKind} : aConv (some ⟨ag, sz, zr, .int i'⟩) (some ⟨ag', sz', zr', .int i''⟩) σ (.v (.int ik j)) k = k (.v (.int i'' (i''.wrap j))) σ := _root_.id rfl
@[go_sem] theorem conv_str {ag' : Bool} {sz' : Nat} {zr' : List Value} {s : ByteArray} : aConv (some ⟨ag, sz, zr, .str⟩) (some ⟨ag', sz', zr', .str⟩) σ (.v (.string s)) k = k (.v (.string s)) σ := _root_.id rfl
@[go_sem] theorem conv_sb {ag' : Bool} {sz' : Nat} {zr' : List Value} {s : ByteArray} : aConv (some ⟨ag, sz, zr, .str⟩) (some ⟨ag', sz', zr', .sl 1 eby ez true⟩) σ (.v (.string s)) k = aNewRow σ 1 (s.data.toList.map byteEl) s.size k := _root_.id rfl
@[go_sem] theorem conv_bs {ag' : Bool} {sz' : Nat} {zr' : List Value} {x : AV} : aConv (some ⟨ag, sz, zr, .sl 1 eby ez true⟩) (some ⟨ag', sz', zr', .str⟩) σ x k = ∃ es, vlook 1 σ x = some es ∧ es.all isByte = true ∧ k (.v (.string (strOf es))) σ := by
  cases x <;> rfl
end

/-! arithmetic -/
@[go_sem] theorem bin_int {op : BinOp} {t : TypeId} {ik : IntKind} {x y : Int} : aBin P op t (.v (.int ik x)) (.v (.int ik y)) K = aInt op ik x y K := by simp [aBin]
@[go_sem] theorem bin_fe {t : TypeId} {f : Fn} {a b : Array Value} : aBin P .eql t (.v (.func f a b)) (.v .nilFunc) K = (isFn P t = true ∧ K (.v (.bool false))) := _root_.id rfl
@[go_sem] theorem bin_fn {t : TypeId} {f : Fn} {a b : Array Value} : aBin P .neq t (.v (.func f a b)) (.v .nilFunc) K = (isFn P t = true ∧ K (.v (.bool true))) := _root_.id rfl
@[go_sem] theorem bin_ae {t : TypeId} {xs ys : List AV} : aBin P .eql t (.agg xs) (.agg ys) K = aAgg P false t (.agg xs) (.agg ys) K := _root_.id rfl
@[go_sem] theorem bin_an {t : TypeId} {xs ys : List AV} : aBin P .neq t (.agg xs) (.agg ys) K = aAgg P true t (.agg xs) (.agg ys) K := _root_.id rfl
@[go_sem] theorem str_gtr {x y : ByteArray} : aStr .gtr x y K = K (.v (.bool (!(Op.bytesLess x.toList y.toList || decide (x = y))))) := _root_.id rfl
theorem agg_by {neg : Bool} {t : TypeId} {x y : AV} {xs ys : List AV} {vs ws : List Value} {ls : List Leaf} (e5 : leaves P 9 t = some ls) (h1 : aggT P t = true) (h2 : P.eqGuardType P.depth t = false) (e1 : aggV x = some xs) (e2 : aggV y = some ys) (e3 : vals xs = some vs) (e4 : vals ys = some ws) (e6 : Fit ls vs = true) (e7 : Fit ls ws = true)
    (hk : K (.v (.bool (if neg then !eqL vs ws else eqL vs ws)))) : aAgg P neg t x y K := ⟨h1, h2, xs, ys, vs, ws, ls, e1, e2, e3, e4, e5, e6, e7, hk⟩
@[go_sem] theorem bin_str {op : BinOp} {t : TypeId} {x y : ByteArray} : aBin P op t (.v (.string x)) (.v (.string y)) K = aStr op x y K := _root_.id rfl
@[go_sem] theorem bin_be {t : TypeId} {x y : Bool} : aBin P .eql t (.v (.bool x)) (.v (.bool y)) K = (isBool P t = true ∧ K (.v (.bool (decide (x = y))))) := _root_.id rfl
@[go_sem] theorem bin_bn {t : TypeId} {x y : Bool} : aBin P .neq t (.v (.bool x)) (.v (.bool y)) K = (isBool P t = true ∧ K (.v (.bool (decide (x ≠ y))))) := _root_.id rfl
@[go_sem] theorem bin_pe {t : TypeId} {p : Option Addr} : aBin P .eql t (.v (.pointer p)) (.v (.pointer none)) K = (isPtr P t = true ∧ K (.v (.bool p.isNone))) := by cases p <;> rfl
@[go_sem] theorem bin_pn {t : TypeId} {p : Option Addr} : aBin P .neq t (.v (.pointer p)) (.v (.pointer none)) K = (isPtr P t = true ∧ K (.v (.bool p.isSome))) := by cases p <;> rfl
@[go_sem] theorem bin_se {t : TypeId} {p : Option Addr} {m c : Nat} : aBin P .eql t (.v (.slice p m c)) (.v (.slice none 0 0)) K = (isSl P t = true ∧ K (.v (.bool p.isNone))) := _root_.id rfl
@[go_sem] theorem bin_sn {t : TypeId} {p : Option Addr} {m c : Nat} : aBin P .neq t (.v (.slice p m c)) (.v (.slice none 0 0)) K = (isSl P t = true ∧ K (.v (.bool p.isSome))) := _root_.id rfl
@[go_sem] theorem bin_le {t : TypeId} {q : Nat} {es : List (List AV)} : aBin P .eql t (.sl q es) (.v (.slice none 0 0)) K = (isSl P t = true ∧ (es ≠ [] → K (.v (.bool false))) ∧ (es = [] → ∀ b, K (.v (.bool b)))) := _root_.id rfl
@[go_sem] theorem bin_ln {t : TypeId} {q : Nat} {es : List (List AV)} : aBin P .neq t (.sl q es) (.v (.slice none 0 0)) K = (isSl P t = true ∧ (es ≠ [] → K (.v (.bool true))) ∧ (es = [] → ∀ b, K (.v (.bool b)))) := _root_.id rfl
@[go_sem] theorem bin_me {t : TypeId} {p : Option Nat} : aBin P .eql t (.v (.map p)) (.v (.map none)) K = (isMapT P t = true ∧ K (.v (.bool p.isNone))) := _root_.id rfl
@[go_sem] theorem bin_mn {t : TypeId} {p : Option Nat} : aBin P .neq t (.v (.map p)) (.v (.map none)) K = (isMapT P t = true ∧ K (.v (.bool p.isSome))) := _root_.id rfl
@[go_sem] theorem int_add {ik : IntKind} {x y : Int} : aInt .add ik x y K = K (.v (.int ik (ik.wrap (x + y)))) := _root_.id rfl
@[go_sem] theorem int_sub {ik : IntKind} {x y : Int} : aInt .sub ik x y K = K (.v (.int ik (ik.wrap (x - y)))) := _root_.id rfl
@[go_sem] theorem int_mul {ik : IntKind} {x y : Int} : aInt .mul ik x y K = K (.v (.int ik (ik.wrap (x * y)))) := _root_.id rfl
@[go_sem] theorem int_quo {ik : IntKind} {x y : Int} : aInt .quo ik x y K = (y ≠ 0 ∧ K (.v (.int ik (ik.wrap (x.tdiv y))))) := _root_.id rfl
@[go_sem] theorem int_rem {ik : IntKind} {x y : Int} : aInt .rem ik x y K = (y ≠ 0 ∧ K (.v (.int ik (x.tmod y)))) := _root_.id rfl
@[go_sem] theorem int_eql {ik : IntKind} {x y : Int} : aInt .eql ik x y K = K (.v (.bool (decide (x = y)))) := _root_.id rfl
@[go_sem] theorem int_neq {ik : IntKind} {x y : Int} : aInt .neq ik x y K = K (.v (.bool (!decide (x = y)))) := by simp [aInt]
@[go_sem] theorem int_lss {ik : IntKind} {x y : Int} : aInt .lss ik x y K = K (.v (.bool (decide (x < y)))) := _root_.id rfl
@[go_sem] theorem int_leq {ik : IntKind} {x y : Int} : aInt .leq ik x y K = K (.v (.bool (decide (x ≤ y)))) := _root_.id rfl
@[go_sem] theorem int_gtr {ik : IntKind} {x y : Int} : aInt .gtr ik x y K = K (.v (.bool (decide (y < x)))) := _root_.id rfl
@[go_sem] theorem int_geq {ik : IntKind} {x y : Int} : aInt .geq ik x y K = K (.v (.bool (decide (y ≤ x)))) := _root_.id rfl
@[go_sem] theorem str_eql {x y : ByteArray} : aStr .eql x y K = K (.v (.bool (decide (x = y)))) := _root_.id rfl
@[go_sem] theorem str_neq {x y : ByteArray} : aStr .neq x y K = K (.v (.bool (!decide (x = y)))) := by simp [aStr]
@[go_sem] theorem str_lss {x y : ByteArray} : aStr .lss x y K = K (.v (.bool (Op.bytesLess x.toList y.toList))) := _root_.id rfl
@[go_sem] theorem str_add {x y : ByteArray} : aStr .add x y K = (x.size + y.size ≤ 9223372036854775807 ∧ K (.v (.string (x ++ y)))) := _root_.id rfl
@[go_sem] theorem un_not {b : Bool} : aUn .not (.v (.bool b)) K = K (.v (.bool (!b))) := _root_.id rfl
@[go_sem] theorem un_neg {ik : IntKind} {x : Int} : aUn .neg (.v (.int ik x)) K = K (.v (.int ik (ik.wrap (0 - x)))) := _root_.id rfl
end

/-! small things -/
@[go_sem] theorem evs_nil {ev : Operand → AV} : evs ev [] = [] := _root_.id rfl
@[go_sem] theorem evs_cons {ev : Operand → AV} {j : Nat} {x : Operand} {l : List (Nat × Operand)} : evs ev ((j, x) :: l) = (j, ev x) :: evs ev l := _root_.id rfl
@[go_sem] theorem cells_v {x : Value} (h : x.oneCell' = true) : AV.cells (.v x) = [.v x] := by cases x <;> first | rfl | cases h
@[go_sem] theorem cells_agg {cs : List AV} : AV.cells (.agg cs) = cs := _root_.id rfl
@[go_sem] theorem cells_sl {q : Nat} {es : List (List AV)} : AV.cells (.sl q es) = [.sl q es] := _root_.id rfl
@[go_sem] theorem cells_fsl {q : Nat} {es : List (List AV)} : AV.cells (.fsl q es) = [.fsl q es] := _root_.id rfl
@[go_sem] theorem one_v {x : Value} : AV.one (.v x) = x.oneCell' := _root_.id rfl
@[go_sem] theorem one_sl {q : Nat} {es : List (List AV)} : AV.one (.sl q es) = true := _root_.id rfl
@[go_sem] theorem one_fsl {q : Nat} {es : List (List AV)} : AV.one (.fsl q es) = true := _root_.id rfl
@[go_sem] theorem oc1 {k : IntKind} {x : Int} : (Value.int k x).oneCell' = true := _root_.id rfl
@[go_sem] theorem oc2 {x : Bool} : (Value.bool x).oneCell' = true := _root_.id rfl
@[go_sem] theorem oc3 {x : ByteArray} : (Value.string x).oneCell' = true := _root_.id rfl
@[go_sem] theorem oc4 {x : Option Addr} : (Value.pointer x).oneCell' = true := _root_.id rfl
@[go_sem] theorem oc5 {x : Option Addr} {l c : Nat} : (Value.slice x l c).oneCell' = true := _root_.id rfl
@[go_sem] theorem oc6 {x : Option Nat} : (Value.map x).oneCell' = true := _root_.id rfl
@[go_sem] theorem oc7 {f : Fn} {x y : Array Value} : (Value.func f x y).oneCell' = true := _root_.id rfl
@[go_sem] theorem oc8 : Value.nilFunc.oneCell' = true := _root_.id rfl
@[go_sem] theorem oc9 : Value.nilIface.oneCell' = true := _root_.id rfl
@[go_sem] theorem notInt_sl {ag : Bool} {sz esz eby : Nat} {zr ez : List Value} {byt : Bool} : notInt (some ⟨ag, sz, zr, .sl esz eby ez byt⟩) = true := _root_.id rfl
@[go_sem] theorem notInt_str {ag : Bool} {sz : Nat} {zr : List Value} : notInt (some ⟨ag, sz, zr, .str⟩) = true := _root_.id rfl
@[go_sem] theorem res_one {fr : Fr} {σ : St} {t : Nat} : aResult P fr σ [.tmp t] = some (fr t) := _root_.id rfl
@[go_sem] theorem res_two {fr : Fr} {σ : St} {t u : Nat} : aResult P fr σ [.tmp t, .tmp u] = some (.tup [fr t, fr u]) := _root_.id rfl
@[go_sem] theorem res_three {fr : Fr} {σ : St} {t u v : Nat} : aResult P fr σ [.tmp t, .tmp u, .tmp v] = some (.tup [fr t, fr u, fr v]) := _root_.id rfl
@[go_sem] theorem res_none {fr : Fr} {σ : St} : aResult P fr σ [] = some (.tup []) := _root_.id rfl
/-- The end of a function, its result as it stands. -/
theorem aRet_as {Q : AV → St → Prop} {l : List ResultVar} {fr : Fr} {σ : St} {r : AV} (h : aResult P fr σ l = some r) (hq : Q r σ) : aRet P Q l fr σ := ⟨r, h, r, σ, View.refl σ r, hq⟩
theorem aRet_view {Q : AV → St → Prop} {l : List ResultVar} {fr : Fr} {σ : St} {r : AV} (h : aResult P fr σ l = some r) (r' : AV) (σ' : St) (hv : View σ r σ' r') (hq : Q r' σ') : aRet P Q l fr σ := ⟨r, h, r', σ', hv, hq⟩
@[go_sem] theorem set_same {σ : St} {b : Nat} {o : AObj} : (σ.set b o) b = some o := by simp [St.set]
@[go_sem] theorem set_ne {σ : St} {b x : Nat} {o : AObj} (h : x ≠ b) : (σ.set b o) x = σ x := by simp [St.set, h]
@[go_sem] theorem set_set {σ : St} {b : Nat} {o o' : AObj} : (σ.set b o).set b o' = σ.set b o' := by
  funext x
  simp only [St.set]
  split <;> rfl
theorem set_id {σ : St} {b : Nat} {o : AObj} (h : σ b = some o) : σ.set b o = σ := by
  funext x
  simp only [St.set]
  split
  · rename_i hx; rw [hx, h]
  · rfl
@[go_sem] theorem splice_cons {c : AV} {cs xs : List AV} {o : Nat} : splice (c :: cs) (o + 1) xs = c :: splice cs o xs := by
  simp [splice, Nat.add_right_comm]
@[go_sem] theorem splice_zero {cs xs : List AV} : splice cs 0 xs = xs ++ cs.drop xs.length := by simp [splice]
end
attribute [go_sem] List.map_cons List.map_nil List.getD_cons_zero List.getD_cons_succ List.getElem?_cons_zero List.getElem?_cons_succ Option.map_some Option.map_none Option.isNone_some Option.isNone_none Option.isSome_some Option.isSome_none true_and and_true List.length_cons List.length_nil List.all_cons List.all_nil Bool.and_true Bool.true_and Bool.not_true Bool.not_false List.drop_zero List.drop_succ_cons List.drop_nil List.take_zero List.take_succ_cons List.take_nil List.cons_append List.nil_append List.append_nil decide_true decide_false List.replicate_succ List.replicate_zero List.set_cons_zero List.set_cons_succ
end Go.Av
