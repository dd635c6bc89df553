/-
  The program logic: definitions and lemmas over any program.
  Conditions: none.
-/
import Derived.Test.YthdfpankebjleaaGreatV1
import Derived.Test.YthdfpankebjleaaGreatV2
set_option linter.unusedVariables false
set_option linter.unusedSimpArgs false
set_option linter.unusedSectionVars false
set_option maxRecDepth 100000
/-
  The program logic, part 22: runs that are reckoned: the operations, each with what it comes to.
  Conditions: none (a library of definitions and lemmas).
-/
namespace Go.Av
open Go Go.RowKit

/-! ### Operands, cells -/
def rConst : Value → RS
  | .agg cs => .agg (cs.toList.map .v)
  | .tuple cs => .tup (cs.toList.map .v)
  | x => .v x
def eEv (fr : Tr RS) : Operand → Option RS
  | .tmp t => gd (Nat.blt t 1024) (fr.get 10 t)
  | .const v => some (rConst v)
  | .func f => some (.fn f [] [])
  | .global _ => none
def eEvs (fr : Tr RS) : List Operand → Option (List RS)
  | [] => some []
  | x :: l => match eEv fr x with
    | some v => match eEvs fr l with
      | some vs => some (v :: vs)
      | none => none
    | none => none
def RS.cells : RS → List RS
  | .agg cs => cs
  | .v (.agg q) => q.toList.map .v
  | x => [x]
def RS.one : RS → Bool
  | .v x => x.oneCell'
  | .agg _ => false
  | .tup _ => false
  | _ => true

section
variable {P : Program} {σ0 σ : St} {c c' : Cx} {h h' : Sto} {n : Nat} {fr : Tr RS} {v : RS} {K : AV → Prop} {k : AV → St → Prop}
theorem ivs_v (c : Cx) (l : List Value) : RS.ivs c (l.map .v) = l.map AV.v := by
  rw [ivs_map, List.map_map]
  refine List.map_congr_left fun x _ => ?_
  simp only [Function.comp, RS.iv, RS.vv]
theorem wfs_v (n : Nat) (l : List Value) : RS.wfs n (l.map .v) := wfs_iff.2 fun x hx => by
  obtain ⟨y, _, rfl⟩ := List.mem_map.1 hx
  simp only [RS.wf]
theorem rConst_iv (c : Cx) (x : Value) : (rConst x).iv c = ofConst x := by
  cases x <;> simp only [rConst, ofConst, RS.iv, RS.vv, ivs_v]
theorem rConst_wf (n : Nat) (x : Value) : (rConst x).wf n := by
  cases x <;> simp only [rConst, RS.wf, wfs_v]
theorem eEv_ok {x : Operand} (he : eEv fr x = some v) : (ifr c fr).ev x = v.iv c := by
  cases x with
  | tmp t =>
    simp only [eEv, gd_some, blt_iff] at he
    simp only [Fr.ev, ifr, if_pos he.1, he.2]
  | const y => simp only [eEv, Option.some.injEq] at he; subst he; rw [rConst_iv]; rfl
  | global g => cases he
  | func f => simp only [eEv, Option.some.injEq] at he; subst he; simp only [Fr.ev, RS.iv, RS.vv, RS.vvs]
theorem eEv_wf {x : Operand} (hf : wfr n fr) (he : eEv fr x = some v) : v.wf n := by
  cases x with
  | tmp t =>
    simp only [eEv, gd_some, blt_iff] at he
    exact hf t v he.1 he.2
  | const y => simp only [eEv, Option.some.injEq] at he; subst he; exact rConst_wf n y
  | global g => cases he
  | func f => simp only [eEv, Option.some.injEq] at he; subst he; simp only [RS.wf, RS.wfs, and_self]
theorem eEvs_ok : ∀ {l : List Operand} {vs : List RS}, eEvs fr l = some vs → l.map (ifr c fr).ev = vs.map (RS.iv c)
  | [], vs, he => by simp only [eEvs, Option.some.injEq] at he; subst he; rfl
  | x :: l, vs, he => by
    simp only [eEvs] at he
    split at he
    · rename_i v hv
      split at he
      · rename_i vs' hvs
        injection he with he
        subst he
        simp only [List.map_cons, eEv_ok hv, eEvs_ok hvs]
      · cases he
    · cases he
theorem eEvs_wf (hf : wfr n fr) : ∀ {l : List Operand} {vs : List RS}, eEvs fr l = some vs → RS.wfs n vs
  | [], vs, he => by simp only [eEvs, Option.some.injEq] at he; subst he; simp only [RS.wfs]
  | x :: l, vs, he => by
    simp only [eEvs] at he
    split at he
    · rename_i v hv
      split at he
      · rename_i vs' hvs
        injection he with he
        subst he
        simp only [RS.wfs]
        exact ⟨eEv_wf hf hv, eEvs_wf hf hvs⟩
      · cases he
    · cases he
theorem cells_iv (ha : ∀ i, (c.a i).one = true ∧ (c.a i).cells = [c.a i]) (x : RS) : (x.iv c).cells = RS.ivs c x.cells := by
  cases x with
  | v y => cases y <;> simp only [RS.iv, RS.vv, AV.cells, RS.cells, RS.ivs, ivs_v]
  | opq i => simp only [RS.iv, RS.cells, RS.ivs, (ha i).2]
  | _ => simp only [RS.iv, RS.vv, AV.cells, RS.cells, RS.ivs]
theorem cells_wf {x : RS} (h : x.wf n) : RS.wfs n x.cells := by
  cases x with
  | v y => cases y <;> simp only [RS.cells, wfs_v, RS.wfs, RS.wf, and_self]
  | _ => simp only [RS.cells, RS.wfs, and_true]; exact h
theorem one_iv (ha : ∀ i, (c.a i).one = true ∧ (c.a i).cells = [c.a i]) (x : RS) : (x.iv c).one = x.one := by
  cases x with
  | opq i => simp only [RS.iv, RS.one, (ha i).1]
  | _ => simp only [RS.iv, RS.vv, AV.one, RS.one, Value.oneCell']
theorem ones_iv (ha : ∀ i, (c.a i).one = true ∧ (c.a i).cells = [c.a i]) (l : List RS) : (RS.ivs c l).all AV.one = l.all RS.one := by
  rw [ivs_map, List.all_map]
  congr 1
  funext x
  exact one_iv ha x
theorem ivs_len (c : Cx) (l : List RS) : (RS.ivs c l).length = l.length := by rw [ivs_map, List.length_map]
theorem ivss_len (c : Cx) (l : List (List RS)) : (RS.ivss c l).length = l.length := by rw [ivss_map, List.length_map]
theorem ivs_getD {l : List RS} {i : Nat} {x : RS} (h : l[i]? = some x) : (RS.ivs c l).getD i (.v undef) = x.iv c := by
  rw [ivs_map, List.getD_eq_getElem?_getD, List.getElem?_map, h]; rfl
theorem ivss_getD {l : List (List RS)} {i : Nat} {x : List RS} (h : l[i]? = some x) : (RS.ivss c l).getD i [] = RS.ivs c x := by
  rw [ivss_map, List.getD_eq_getElem?_getD, List.getElem?_map, h]; rfl
theorem ivs_take (l : List RS) (i : Nat) : (RS.ivs c l).take i = RS.ivs c (l.take i) := by rw [ivs_map, ivs_map, List.map_take]
theorem ivs_drop (l : List RS) (i : Nat) : (RS.ivs c l).drop i = RS.ivs c (l.drop i) := by rw [ivs_map, ivs_map, List.map_drop]
theorem ivss_take (l : List (List RS)) (i : Nat) : (RS.ivss c l).take i = RS.ivss c (l.take i) := by rw [ivss_map, ivss_map, List.map_take]
theorem ivss_drop (l : List (List RS)) (i : Nat) : (RS.ivss c l).drop i = RS.ivss c (l.drop i) := by rw [ivss_map, ivss_map, List.map_drop]
theorem ivs_app (l l' : List RS) : RS.ivs c (l ++ l') = RS.ivs c l ++ RS.ivs c l' := by rw [ivs_map, ivs_map, ivs_map, List.map_append]
theorem ivss_app (l l' : List (List RS)) : RS.ivss c (l ++ l') = RS.ivss c l ++ RS.ivss c l' := by rw [ivss_map, ivss_map, ivss_map, List.map_append]
theorem ivss_set (l : List (List RS)) (i : Nat) (x : List RS) : RS.ivss c (l.set i x) = (RS.ivss c l).set i (RS.ivs c x) := by rw [ivss_map, ivss_map, List.map_set]
theorem wfs_take {l : List RS} (i : Nat) (h : RS.wfs n l) : RS.wfs n (l.take i) := wfs_iff.2 fun x hx => wfs_iff.1 h x (List.mem_of_mem_take hx)
theorem wfs_drop {l : List RS} (i : Nat) (h : RS.wfs n l) : RS.wfs n (l.drop i) := wfs_iff.2 fun x hx => wfs_iff.1 h x (List.mem_of_mem_drop hx)
theorem wfs_app {l l' : List RS} (h : RS.wfs n l) (h' : RS.wfs n l') : RS.wfs n (l ++ l') := wfs_iff.2 fun x hx => (List.mem_append.1 hx).elim (wfs_iff.1 h x) (wfs_iff.1 h' x)
theorem wfss_take {l : List (List RS)} (i : Nat) (h : RS.wfss n l) : RS.wfss n (l.take i) := wfss_iff.2 fun x hx => wfss_iff.1 h x (List.mem_of_mem_take hx)
theorem wfss_drop {l : List (List RS)} (i : Nat) (h : RS.wfss n l) : RS.wfss n (l.drop i) := wfss_iff.2 fun x hx => wfss_iff.1 h x (List.mem_of_mem_drop hx)
theorem wfss_app {l l' : List (List RS)} (h : RS.wfss n l) (h' : RS.wfss n l') : RS.wfss n (l ++ l') := wfss_iff.2 fun x hx => (List.mem_append.1 hx).elim (wfss_iff.1 h x) (wfss_iff.1 h' x)
theorem wfss_set {l : List (List RS)} {i : Nat} {x : List RS} (h : RS.wfss n l) (hx : RS.wfs n x) : RS.wfss n (l.set i x) := wfss_iff.2 fun y hy => by
  rcases List.mem_or_eq_of_mem_set hy with hy | rfl
  · exact wfss_iff.1 h y hy
  · exact hx
theorem wfs_get {l : List RS} {i : Nat} {x : RS} (h : RS.wfs n l) (hx : l[i]? = some x) : x.wf n := wfs_iff.1 h x (List.mem_of_getElem? hx)
theorem wfss_get {l : List (List RS)} {i : Nat} {x : List RS} (h : RS.wfss n l) (hx : l[i]? = some x) : RS.wfs n x := wfss_iff.1 h x (List.mem_of_getElem? hx)
theorem get_lt {α : Type} {l : List α} {i : Nat} {x : α} (h : l[i]? = some x) : i < l.length := (List.getElem?_eq_some_iff.1 h).1

/-! ### What lies in a block -/
/-- One cell, or several. -/
def eTake (ag : Bool) (sz off : Nat) (cs : List RS) : Option RS := match ag with
  | true => gd (Nat.ble (off + sz) cs.length) (some (.agg ((cs.drop off).take sz)))
  | false => cs[off]?
theorem eTake_ok {ag : Bool} {sz off : Nat} {cs : List RS} (he : eTake ag sz off cs = some v) (hk : K (v.iv c)) : aPart ag off sz (RS.ivs c cs) K := by
  unfold aPart
  cases ag with
  | true =>
    simp only [eTake, gd_some, ble_iff, Option.some.injEq] at he
    obtain ⟨h1, rfl⟩ := he
    rw [if_pos rfl, ivs_len]
    refine ⟨h1, ?_⟩
    simp only [RS.iv, ← ivs_take, ← ivs_drop] at hk
    exact hk
  | false =>
    simp only [eTake] at he
    rw [if_neg (by simp), ivs_len, ivs_getD he]
    exact ⟨get_lt he, hk⟩
theorem eTake_wf {ag : Bool} {sz off : Nat} {cs : List RS} (hw : RS.wfs n cs) (he : eTake ag sz off cs = some v) : v.wf n := by
  cases ag with
  | true =>
    simp only [eTake, gd_some, ble_iff, Option.some.injEq] at he
    obtain ⟨h1, rfl⟩ := he
    simp only [RS.wf]
    exact wfs_take _ (wfs_drop _ hw)
  | false => exact wfs_get hw he
def eLoad (i : TK) (h : Sto) : RS → Option RS
  | .fp cs => eTake i.ag i.sz 0 cs
  | .ptr b o => match h.get b with
    | .cells cs => eTake i.ag i.sz o cs
    | _ => none
  | .rp b q j f => match h.get b with
    | .rows q' es _ => gd (Nat.beq q' q) (match es[j]? with
      | some e => gd (match i.ag with | true => Nat.ble (f + i.sz) q | false => Nat.blt f q) (eTake i.ag i.sz f e)
      | none => none)
    | _ => none
  | _ => none
theorem eLoad_ok (hM : Mt σ0 c h σ) {i : TK} {p : RS} (hp : p.wf h.n) (he : eLoad i h p = some v) (hk : K (v.iv c)) : aLoad (some i) σ (p.iv c) K := by
  cases p with
  | fp cs =>
    simp only [eLoad] at he
    have := eTake_ok he hk
    simp only [RS.iv, aLoad]
    unfold aPart at this
    cases hg : i.ag with
    | true => rw [hg] at this; simpa using this
    | false => rw [hg] at this; simpa using this
  | ptr b o =>
    simp only [eLoad] at he
    split at he
    · rename_i cs hb
      simp only [RS.wf] at hp
      have h1 : io c b (h.get b) = some (.cells (RS.ivs c cs)) := by rw [hb]; rfl
      have h2 := hM.ob b _ hp h1
      have := eTake_ok he hk
      simp only [RS.iv, RS.vv, aLoad, h2]
      unfold aPart at this
      exact this
    · cases he
  | rp b q j f =>
    simp only [eLoad] at he
    split at he
    · rename_i q' es frz hb
      simp only [RS.wf] at hp
      rw [gd_some, beq_iff] at he
      obtain ⟨rfl, he⟩ := he
      have h1 : io c b (h.get b) = some (.rows q' (RS.ivss c es) frz (c.k b)) := by rw [hb]; rfl
      have h2 := hM.ob b _ hp h1
      split at he
      · rename_i e hj
        rw [gd_some] at he
        have := eTake_ok he.2 hk
        simp only [RS.iv, aLoad, h2, ivss_len, ivss_getD hj]
        refine ⟨trivial, get_lt hj, ?_⟩
        unfold aPart at this
        cases hg : i.ag with
        | true =>
          rw [hg] at this he
          simp only [if_true] at this ⊢
          exact ⟨ble_iff.1 he.1, this.2⟩
        | false =>
          rw [hg] at this he
          simp only [Bool.false_eq_true, if_false] at this ⊢
          exact ⟨blt_iff.1 he.1, this.2⟩
      · cases he
    · cases he
  | _ => cases he
theorem eLoad_wf (hS : WfS h) {i : TK} {p : RS} (hp : p.wf h.n) (he : eLoad i h p = some v) : v.wf h.n := by
  cases p with
  | fp cs => simp only [eLoad] at he; simp only [RS.wf] at hp; exact eTake_wf hp he
  | ptr b o =>
    simp only [eLoad] at he
    simp only [RS.wf] at hp
    have := hS.ob b hp
    split at he
    · rename_i cs hb
      rw [hb] at this
      exact eTake_wf this he
    · cases he
  | rp b q j f =>
    simp only [eLoad] at he
    simp only [RS.wf] at hp
    have := hS.ob b hp
    split at he
    · rename_i q' es frz hb
      rw [hb] at this
      rw [gd_some] at he
      have he := he.2
      split at he
      · rename_i e hj
        rw [gd_some] at he
        exact eTake_wf (wfss_get this hj) he.2
      · cases he
    · cases he
  | _ => cases he

def rsplice (cs : List RS) (o : Nat) (xs : List RS) : List RS := cs.take o ++ xs ++ cs.drop (o + xs.length)
theorem ivs_splice (cs : List RS) (o : Nat) (xs : List RS) : RS.ivs c (rsplice cs o xs) = splice (RS.ivs c cs) o (RS.ivs c xs) := by
  unfold rsplice splice
  rw [ivs_app, ivs_app, ivs_take, ivs_drop, ivs_len]
theorem wfs_splice {cs xs : List RS} (o : Nat) (h : RS.wfs n cs) (h' : RS.wfs n xs) : RS.wfs n (rsplice cs o xs) := wfs_app (wfs_app (wfs_take _ h) h') (wfs_drop _ h)
def eStore (i : TK) (h : Sto) (p x : RS) : Option Sto := gd (Nat.beq x.cells.length i.sz && x.cells.all RS.one) (match p with
  | .ptr b o => match h.get b with
    | .cells cs => gd (Nat.ble (o + i.sz) cs.length) (some (h.put b (.cells (rsplice cs o x.cells))))
    | _ => none
  | .rp b q j f => match h.get b with
    | .rows q' es false => gd (Nat.beq q' q && Nat.ble (f + i.sz) q) (match es[j]? with
      | some e => some (h.put b (.rows q (es.set j (rsplice e f x.cells)) false))
      | none => none)
    | _ => none
  | _ => none)
theorem eStore_ok (hM : Mt σ0 c h σ) {i : TK} {p x : RS} (hp : p.wf h.n) (hx : x.wf h.n) (he : eStore i h p x = some h') {k : St → Prop} (hk : ∀ σ', h'.n = h.n → Keep h h' → Mt σ0 c h' σ' → k σ') : aStore (some i) σ (p.iv c) (x.iv c) k := by
  unfold eStore at he
  rw [gd_some, Bool.and_eq_true, beq_iff] at he
  obtain ⟨⟨h1, h2⟩, he⟩ := he
  simp only [aStore, cells_iv hM.a, ivs_len, ones_iv hM.a]
  refine ⟨h1, h2, ?_⟩
  have hxw := cells_wf hx
  cases p with
  | ptr b o =>
    simp only at he
    split at he
    · rename_i cs hb
      simp only [RS.wf] at hp
      rw [gd_some, ble_iff] at he
      obtain ⟨h3, he⟩ := he
      injection he with he
      subst he
      have h4 : io c b (h.get b) = some (.cells (RS.ivs c cs)) := by rw [hb]; rfl
      have h5 := hM.ob b _ hp h4
      have hw := hM.wf.ob b hp
      rw [hb] at hw
      simp only [RS.iv, RS.vv, h5, ivs_len]
      refine ⟨h3, hk _ rfl (.put hM.wf.lt hp (by rw [hb]; intro _ _ _ _ _ _ _ e; cases e) (by rw [hb]; intro e; cases e)) ?_⟩
      refine hM.put hp (by rw [hb]; intro e; cases e) ?_ (wfs_splice o hw hxw) (Nat.zero_le _)
      simp only [io, ivs_splice]
    · cases he
  | rp b q j f =>
    simp only at he
    split at he
    · rename_i q' es hb
      simp only [RS.wf] at hp
      rw [gd_some, Bool.and_eq_true, beq_iff, ble_iff] at he
      obtain ⟨⟨rfl, h3⟩, he⟩ := he
      split at he
      · rename_i e hj
        injection he with he
        subst he
        have h4 : io c b (h.get b) = some (.rows q' (RS.ivss c es) false (c.k b)) := by rw [hb]; rfl
        have h5 := hM.ob b _ hp h4
        have hw := hM.wf.ob b hp
        have hcap := hM.cap b hp
        rw [hb] at hw hcap
        simp only [RS.iv, h5, ivss_len, ivss_getD hj]
        refine ⟨trivial, get_lt hj, h3, hk _ rfl (.put hM.wf.lt hp (by rw [hb]; intro _ _ _ _ _ _ _ e; cases e) (by rw [hb]; intro e; cases e)) ?_⟩
        refine hM.put hp (by rw [hb]; intro e; cases e) ?_ (wfss_set hw (wfs_splice f (wfss_get hw hj) hxw)) (by simpa [SO.len] using hcap)
        simp only [io, ivss_set, ivs_splice]
      · cases he
    · cases he
  | _ => cases he
end
end Go.Av

/-
  The program logic, part 23: runs that are reckoned: more operations.
  Conditions: none (a library of definitions and lemmas).
-/
namespace Go.Av
open Go Go.RowKit

section
variable {P : Program} {σ0 σ : St} {c c' : Cx} {h h' : Sto} {n : Nat} {fr : Tr RS} {v : RS} {K : AV → Prop} {k : AV → St → Prop}
/-! ### addresses, fields, indexes -/
def eNil : RS → Option RS
  | .ptr i o => some (.ptr i o)
  | .fp cs => some (.fp cs)
  | .rp i k j f => some (.rp i k j f)
  | .fn f fi ca => some (.fn f fi ca)
  | .yld l => some (.yld l)
  | _ => none
theorem eNil_ok {x : RS} (he : eNil x = some v) (hk : K (v.iv c)) : aNil (x.iv c) K := by
  cases x <;> first | (cases he; done) | (simp only [eNil, Option.some.injEq] at he; subst he; simpa only [RS.iv, RS.vv, aNil] using hk)
theorem eNil_wf {x : RS} (hx : x.wf n) (he : eNil x = some v) : v.wf n := by
  cases x <;> first | (cases he; done) | (simp only [eNil, Option.some.injEq] at he; subst he; exact hx)
def eFadr (i : TK) (f : Nat) (x : RS) : Option RS := match i.td with
  | .st fs => match fs[f]? with
    | some (off, sz, _) => gd (Nat.blt 0 sz) (match x with
      | .ptr b p => some (.ptr b (p + off))
      | .fp cs => gd (Nat.ble off cs.length) (some (.fp (cs.drop off)))
      | .rp b q j g => some (.rp b q j (g + off))
      | _ => none)
    | none => none
  | _ => none
theorem eFadr_ok {i : TK} {f : Nat} {x : RS} (he : eFadr i f x = some v) (hk : K (v.iv c)) : aFadr (some i) f (x.iv c) K := by
  unfold eFadr at he
  simp only [aFadr]
  split at he
  · rename_i fs htd
    simp only [htd]
    split at he
    · rename_i off sz bb hf
      simp only [hf]
      rw [gd_some, blt_iff] at he
      obtain ⟨h1, he⟩ := he
      refine ⟨h1, ?_⟩
      cases x with
      | ptr b p => simp only [Option.some.injEq] at he; subst he; simpa only [RS.iv, RS.vv] using hk
      | fp cs =>
        simp only [gd_some, ble_iff, Option.some.injEq] at he
        obtain ⟨h2, rfl⟩ := he
        simp only [RS.iv, ivs_len, ← ivs_drop] at hk ⊢
        exact ⟨h2, hk⟩
      | rp b q j g => simp only [Option.some.injEq] at he; subst he; simpa only [RS.iv, RS.vv] using hk
      | _ => cases he
    · cases he
  · cases he
theorem eFadr_wf {i : TK} {f : Nat} {x : RS} (hx : x.wf n) (he : eFadr i f x = some v) : v.wf n := by
  unfold eFadr at he
  split at he
  · split at he
    · rw [gd_some] at he
      have he := he.2
      cases x with
      | ptr b p => simp only [Option.some.injEq] at he; subst he; exact hx
      | fp cs =>
        simp only [gd_some, Option.some.injEq] at he
        obtain ⟨h2, rfl⟩ := he
        simp only [RS.wf] at hx ⊢
        exact wfs_drop _ hx
      | rp b q j g => simp only [Option.some.injEq] at he; subst he; exact hx
      | _ => cases he
    · cases he
  · cases he
def eFld (i : TK) (f : Nat) (x : RS) : Option RS := match i.td with
  | .st fs => match fs[f]? with
    | some (off, sz, ag) => match x with
      | .agg cs => eTake ag sz off cs
      | _ => none
    | none => none
  | _ => none
theorem eFld_ok {i : TK} {f : Nat} {x : RS} (he : eFld i f x = some v) (hk : K (v.iv c)) : aFld (some i) f (x.iv c) K := by
  unfold eFld at he
  simp only [aFld]
  split at he
  · rename_i fs htd
    simp only [htd]
    split at he
    · rename_i off sz ag hf
      simp only [hf]
      cases x with
      | agg cs => simp only [RS.iv]; exact eTake_ok he hk
      | _ => cases he
    · cases he
  · cases he
theorem eFld_wf {i : TK} {f : Nat} {x : RS} (hx : x.wf n) (he : eFld i f x = some v) : v.wf n := by
  unfold eFld at he
  split at he
  · split at he
    · cases x with
      | agg cs => simp only [RS.wf] at hx; exact eTake_wf hx he
      | _ => cases he
    · cases he
  · cases he
/-- A number of a value. -/
def eNat : RS → Option Nat
  | .v (.int _ (.ofNat j)) => some j
  | _ => none
theorem eNat_ok {x : RS} {j : Nat} (he : eNat x = some j) : ∃ ik, x = .v (.int ik (j : Int)) := by
  unfold eNat at he
  split at he
  · injection he with he; subst he; exact ⟨_, rfl⟩
  · cases he
def eIadr (i : TK) (x ix : RS) : Option RS := match eNat ix with
  | none => none
  | some j => match i.td with
    | .arr m esz _ => gd (Nat.blt j m) (match x with
      | .ptr b p => some (.ptr b (p + j * esz))
      | .fp cs => gd (Nat.ble (j * esz) cs.length) (some (.fp (cs.drop (j * esz))))
      | .rp b q r f => some (.rp b q r (f + j * esz))
      | _ => none)
    | .sl esz _ _ _ => match x with
      | .sl q es => gd (Nat.beq q esz) (match es[j]? with | some e => some (.fp e) | none => none)
      | .fsl q es => gd (Nat.beq q esz) (match es[j]? with | some e => some (.fp e) | none => none)
      | .row b n => gd (Nat.blt j n && Nat.blt 0 esz) (some (.rp b esz j 0))
      | .part b q l n => gd (Nat.blt j n && Nat.blt 0 esz && Nat.beq q esz) (some (.rp b esz (l + j) 0))
      | _ => none
    | _ => none
theorem eIadr_ok {i : TK} {x ix : RS} (he : eIadr i x ix = some v) (hk : K (v.iv c)) : aIadr (some i) σ (x.iv c) (ix.iv c) K := by
  unfold eIadr at he
  split at he
  · cases he
  · rename_i j hj
    obtain ⟨ik, rfl⟩ := eNat_ok hj
    simp only [aIadr, RS.iv, RS.vv]
    split at he
    · rename_i m esz eag htd
      simp only [htd]
      rw [gd_some, blt_iff] at he
      obtain ⟨h1, he⟩ := he
      cases x with
      | ptr b p =>
        simp only [Option.some.injEq] at he; subst he
        simp only [RS.iv, RS.vv, Int.toNat_natCast] at hk ⊢
        exact ⟨by omega, by omega, hk⟩
      | fp cs =>
        simp only [gd_some, ble_iff, Option.some.injEq] at he
        obtain ⟨h2, rfl⟩ := he
        simp only [RS.iv, ivs_len, ← ivs_drop, Int.toNat_natCast] at hk ⊢
        exact ⟨by omega, by omega, h2, hk⟩
      | rp b q r f =>
        simp only [Option.some.injEq] at he; subst he
        simp only [RS.iv, RS.vv, Int.toNat_natCast] at hk ⊢
        exact ⟨by omega, by omega, hk⟩
      | _ => cases he
    · rename_i esz eby ez byt htd
      simp only [htd]
      cases x with
      | sl q es =>
        simp only [gd_some, beq_iff] at he
        obtain ⟨h1, he⟩ := he
        split at he
        · rename_i e hg
          injection he with he; subst he
          simp only [RS.iv, ivss_len, Int.toNat_natCast, ivss_getD hg] at hk ⊢
          exact ⟨h1, by omega, by have := get_lt hg; omega, hk⟩
        · cases he
      | fsl q es =>
        simp only [gd_some, beq_iff] at he
        obtain ⟨h1, he⟩ := he
        split at he
        · rename_i e hg
          injection he with he; subst he
          simp only [RS.iv, ivss_len, Int.toNat_natCast, ivss_getD hg] at hk ⊢
          exact ⟨h1, by omega, by have := get_lt hg; omega, hk⟩
        · cases he
      | row b n =>
        simp only [gd_some, Bool.and_eq_true, blt_iff, Option.some.injEq] at he
        obtain ⟨⟨h1, h2⟩, rfl⟩ := he
        simp only [RS.iv, RS.vv, Int.toNat_natCast, Nat.zero_div, Nat.zero_add] at hk ⊢
        exact ⟨by simp, by omega, by omega, hk⟩
      | part b q l n =>
        simp only [gd_some, Bool.and_eq_true, blt_iff, beq_iff, Option.some.injEq] at he
        obtain ⟨⟨⟨h1, h2⟩, rfl⟩, rfl⟩ := he
        simp only [RS.iv, RS.vv, Int.toNat_natCast, Nat.mul_div_cancel _ h2] at hk ⊢
        exact ⟨by simp, by omega, by omega, hk⟩
      | _ => cases he
    · cases he
theorem eIadr_wf {i : TK} {x ix : RS} (hx : x.wf n) (he : eIadr i x ix = some v) : v.wf n := by
  unfold eIadr at he
  split at he
  · cases he
  · split at he
    · rw [gd_some] at he
      have he := he.2
      cases x with
      | ptr b p => simp only [Option.some.injEq] at he; subst he; exact hx
      | fp cs =>
        simp only [gd_some, Option.some.injEq] at he
        obtain ⟨h2, rfl⟩ := he
        simp only [RS.wf] at hx ⊢
        exact wfs_drop _ hx
      | rp b q r f => simp only [Option.some.injEq] at he; subst he; exact hx
      | _ => cases he
    · cases x with
      | sl q es =>
        simp only [gd_some] at he
        have he := he.2
        split at he
        · rename_i e hg
          injection he with he; subst he
          simp only [RS.wf] at hx ⊢
          exact wfss_get hx hg
        · cases he
      | fsl q es =>
        simp only [gd_some] at he
        have he := he.2
        split at he
        · rename_i e hg
          injection he with he; subst he
          simp only [RS.wf] at hx ⊢
          exact wfss_get hx hg
        · cases he
      | row b n => simp only [gd_some, Option.some.injEq] at he; obtain ⟨_, rfl⟩ := he; exact hx
      | part b q l n => simp only [gd_some, Option.some.injEq] at he; obtain ⟨_, rfl⟩ := he; exact hx
      | _ => cases he
    · cases he
def eIdx (i : TK) (x ix : RS) : Option RS := match eNat ix with
  | none => none
  | some j => match i.td with
    | .arr m esz ag => match x with
      | .agg cs => gd (Nat.blt j m) (eTake ag esz (j * esz) cs)
      | _ => none
    | .str => match x with
      | .v (.string s) => match s.data.toList[j]? with
        | some b => some (.v (.int .u8 b.toNat))
        | none => none
      | _ => none
    | _ => none
theorem eIdx_ok {i : TK} {x ix : RS} (he : eIdx i x ix = some v) (hk : K (v.iv c)) : aIdx (some i) (x.iv c) (ix.iv c) K := by
  unfold eIdx at he
  split at he
  · cases he
  · rename_i j hj
    obtain ⟨ik, rfl⟩ := eNat_ok hj
    simp only [aIdx, RS.iv, RS.vv]
    split at he
    · rename_i m esz ag htd
      simp only [htd]
      cases x with
      | agg cs =>
        simp only [gd_some, blt_iff] at he
        simp only [RS.iv, Int.toNat_natCast]
        exact ⟨by omega, by omega, eTake_ok he.2 hk⟩
      | _ => cases he
    · rename_i htd
      simp only [htd]
      split at he
      · rename_i s
        split at he
        · rename_i b hb
          injection he with he; subst he
          simp only [RS.iv, RS.vv, Int.toNat_natCast, List.getD_eq_getElem?_getD, hb, Option.getD_some] at hk ⊢
          have := get_lt hb
          rw [Array.length_toList] at this
          exact ⟨by omega, Int.ofNat_lt.2 this, hk⟩
        · cases he
      · cases he
    · cases he
theorem eIdx_wf {i : TK} {x ix : RS} (hx : x.wf n) (he : eIdx i x ix = some v) : v.wf n := by
  unfold eIdx at he
  split at he
  · cases he
  · split at he
    · cases x with
      | agg cs => simp only [gd_some] at he; simp only [RS.wf] at hx; exact eTake_wf hx he.2
      | _ => cases he
    · split at he
      · split at he
        · injection he with he; subst he; simp only [RS.wf]
        · cases he
      · cases he
    · cases he
def eExt (x : RS) (j : Nat) : Option RS := match x with
  | .tup vs => vs[j]?
  | _ => none
theorem eExt_ok {x : RS} {j : Nat} (he : eExt x j = some v) (hk : K (v.iv c)) : aExt (x.iv c) j K := by
  cases x with
  | tup vs =>
    simp only [eExt] at he
    simp only [RS.iv, aExt, ivs_len, ivs_getD he]
    exact ⟨get_lt he, hk⟩
  | _ => cases he
theorem eExt_wf {x : RS} {j : Nat} (hx : x.wf n) (he : eExt x j = some v) : v.wf n := by
  cases x with
  | tup vs => simp only [RS.wf] at hx; exact wfs_get hx he
  | _ => cases he
def ePick (c x y : RS) : Option RS := match c with
  | .v (.bool true) => some x
  | .v (.bool false) => some y
  | _ => none
theorem ePick_ok {p x y : RS} (he : ePick p x y = some v) (hk : K (v.iv c)) : aPick (p.iv c) (x.iv c) (y.iv c) K := by
  unfold ePick at he
  split at he
  · injection he with he; subst he; simpa only [RS.iv, RS.vv, aPick, if_true] using hk
  · injection he with he; subst he; simpa only [RS.iv, RS.vv, aPick, Bool.false_eq_true, if_false] using hk
  · cases he
theorem ePick_wf {p x y : RS} (hx : x.wf n) (hy : y.wf n) (he : ePick p x y = some v) : v.wf n := by
  unfold ePick at he
  split at he
  · injection he with he; subst he; exact hx
  · injection he with he; subst he; exact hy
  · cases he
/-! ### len -/
def eLen (i : TK) (x : RS) : Option RS := match i.td with
  | .str => match x with
    | .v (.string s) => some (.v (.int .i64 (.ofNat s.data.toList.length)))
    | _ => none
  | .sl _ _ _ _ => match x with
    | .sl _ es => some (.v (.int .i64 (.ofNat es.length)))
    | .fsl _ es => some (.v (.int .i64 (.ofNat es.length)))
    | .v (.slice _ n _) => some (.v (.int .i64 (.ofNat n)))
    | .row _ n => some (.v (.int .i64 (.ofNat n)))
    | .part _ _ _ n => some (.v (.int .i64 (.ofNat n)))
    | .mt _ _ _ => some (.v (.int .i64 (.ofNat 0)))
    | _ => none
  | .arr m _ _ => some (.v (.int .i64 (.ofNat m)))
  | _ => none
theorem eLen_ok {i : TK} {x : RS} (he : eLen i x = some v) (hk : K (v.iv c)) : aLen (some i) (x.iv c) K := by
  unfold eLen at he
  simp only [aLen]
  split at he
  · rename_i htd
    simp only [htd]
    split at he
    · injection he with he; subst he
      simpa only [RS.iv, RS.vv, ByteArray.size, Array.length_toList, Int.ofNat_eq_natCast] using hk
    · cases he
  · rename_i htd
    simp only [htd]
    split at he <;> first
      | (cases he; done)
      | (injection he with he; subst he; simpa only [RS.iv, RS.vv, ivss_len, Int.ofNat_eq_natCast] using hk)
  · rename_i htd
    simp only [htd]
    injection he with he; subst he
    simpa only [RS.iv, RS.vv, Int.ofNat_eq_natCast] using hk
  · cases he
theorem eLen_wf {i : TK} {x : RS} (he : eLen i x = some v) : v.wf n := by
  unfold eLen at he
  split at he
  · split at he <;> first | (cases he; done) | (injection he with he; subst he; simp only [RS.wf])
  · split at he <;> first | (cases he; done) | (injection he with he; subst he; simp only [RS.wf])
  · injection he with he; subst he; simp only [RS.wf]
  · cases he
/-! ### built values -/
def eFill (fs : Nat → Option (Nat × Nat)) : List RS → List (Nat × RS) → Option RS
  | cs, [] => some (.agg cs)
  | cs, (j, x) :: r => match fs j with
    | some (off, sz) => gd (Nat.beq x.cells.length sz && Nat.ble (off + sz) cs.length) (eFill fs (rsplice cs off x.cells) r)
    | none => none
def ivp (c : Cx) (ps : List (Nat × RS)) : List (Nat × AV) := ps.map fun p => (p.1, p.2.iv c)
theorem eFill_ok (ha : ∀ i, (c.a i).one = true ∧ (c.a i).cells = [c.a i]) {fs : Nat → Option (Nat × Nat)} (hk : K (v.iv c)) : ∀ {ps : List (Nat × RS)} {cs : List RS}, eFill fs cs ps = some v → aFill fs K (RS.ivs c cs) (ivp c ps)
  | [], cs, he => by simp only [eFill, Option.some.injEq] at he; subst he; simpa only [RS.iv, ivp, List.map_nil, aFill] using hk
  | (j, x) :: r, cs, he => by
    simp only [eFill] at he
    simp only [ivp, List.map_cons, aFill]
    split at he
    · rename_i off sz hf
      rw [gd_some, Bool.and_eq_true, beq_iff, ble_iff] at he
      simp only [hf, cells_iv ha, ivs_len]
      refine ⟨he.1.1, he.1.2, ?_⟩
      rw [← ivs_splice]
      exact eFill_ok ha hk he.2
    · cases he
theorem eFill_wf {fs : Nat → Option (Nat × Nat)} : ∀ {ps : List (Nat × RS)} {cs : List RS}, (∀ p ∈ ps, p.2.wf n) → RS.wfs n cs → eFill fs cs ps = some v → v.wf n
  | [], cs, _, hc, he => by simp only [eFill, Option.some.injEq] at he; subst he; simpa only [RS.wf] using hc
  | (j, x) :: r, cs, hp, hc, he => by
    simp only [eFill] at he
    split at he
    · rw [gd_some] at he
      exact eFill_wf (fun p h => hp p (by simp [h])) (wfs_splice _ hc (cells_wf (hp (j, x) (by simp)))) he.2
    · cases he
def eBuild (i : TK) (ps : List (Nat × RS)) : Option RS := match i.td with
  | .st fs => eFill (fun j => (fs[j]?).map fun f => (f.1, f.2.1)) (i.zr.map .v) ps
  | .arr _ esz _ => eFill (fun j => some (j * esz, esz)) (i.zr.map .v) ps
  | _ => none
theorem eBuild_ok (ha : ∀ i, (c.a i).one = true ∧ (c.a i).cells = [c.a i]) {i : TK} {ps : List (Nat × RS)} (he : eBuild i ps = some v) (hk : K (v.iv c)) : aBuild (some i) (ivp c ps) K := by
  unfold eBuild at he
  simp only [aBuild]
  split at he
  · rename_i fs htd; simp only [htd]; rw [← ivs_v c]; exact eFill_ok ha hk he
  · rename_i m esz ag htd; simp only [htd]; rw [← ivs_v c]; exact eFill_ok ha hk he
  · cases he
theorem eBuild_wf {i : TK} {ps : List (Nat × RS)} (hp : ∀ p ∈ ps, p.2.wf n) (he : eBuild i ps = some v) : v.wf n := by
  unfold eBuild at he
  split at he
  · exact eFill_wf hp (wfs_v n _) he
  · exact eFill_wf hp (wfs_v n _) he
  · cases he
def eFillS (esz : Nat) : List (List RS) → List (Nat × RS) → Option RS
  | es, [] => some (.fsl esz es)
  | es, (j, x) :: r => gd (Nat.blt j es.length && Nat.beq x.cells.length esz && x.cells.all RS.one) (eFillS esz (es.set j x.cells) r)
theorem eFillS_ok (ha : ∀ i, (c.a i).one = true ∧ (c.a i).cells = [c.a i]) {esz : Nat} (hk : K (v.iv c)) : ∀ {ps : List (Nat × RS)} {es : List (List RS)}, eFillS esz es ps = some v → aFillS esz (fun es => K (.fsl esz es)) (RS.ivss c es) (ivp c ps)
  | [], es, he => by simp only [eFillS, Option.some.injEq] at he; subst he; simpa only [RS.iv, ivp, List.map_nil, aFillS] using hk
  | (j, x) :: r, es, he => by
    simp only [eFillS] at he
    simp only [ivp, List.map_cons, aFillS]
    rw [gd_some, Bool.and_eq_true, Bool.and_eq_true, blt_iff, beq_iff] at he
    simp only [cells_iv ha, ivs_len, ivss_len, ones_iv ha]
    refine ⟨he.1.1.1, he.1.1.2, he.1.2, ?_⟩
    rw [← ivss_set]
    exact eFillS_ok ha hk he.2
theorem eFillS_wf {esz : Nat} : ∀ {ps : List (Nat × RS)} {es : List (List RS)}, (∀ p ∈ ps, p.2.wf n) → RS.wfss n es → eFillS esz es ps = some v → v.wf n
  | [], es, _, hc, he => by simp only [eFillS, Option.some.injEq] at he; subst he; simpa only [RS.wf] using hc
  | (j, x) :: r, es, hp, hc, he => by
    simp only [eFillS] at he
    rw [gd_some] at he
    exact eFillS_wf (fun p h => hp p (by simp [h])) (wfss_set hc (cells_wf (hp (j, x) (by simp)))) he.2
theorem ivss_rep (m : Nat) (l : List Value) : RS.ivss c (List.replicate m (l.map .v)) = List.replicate m (l.map AV.v) := by
  rw [ivss_map, List.map_replicate, ivs_v]
theorem wfss_rep (n m : Nat) (l : List Value) : RS.wfss n (List.replicate m (l.map .v)) := wfss_iff.2 fun x hx => by
  obtain ⟨_, rfl⟩ := List.mem_replicate.1 hx
  exact wfs_v n l
def eBuildS (i : TK) (len : Nat) (ps : List (Nat × RS)) : Option RS := match i.td with
  | .sl esz _ ez _ => gd (Nat.blt 0 esz && Nat.ble (len * esz) 16777216 && ez.all Value.oneCell') (eFillS esz (List.replicate len (ez.map .v)) ps)
  | _ => none
theorem eBuildS_ok (ha : ∀ i, (c.a i).one = true ∧ (c.a i).cells = [c.a i]) {i : TK} {len : Nat} {ps : List (Nat × RS)} (he : eBuildS i len ps = some v) (hk : K (v.iv c)) : aBuildS (some i) len (ivp c ps) K := by
  unfold eBuildS at he
  simp only [aBuildS]
  split at he
  · rename_i esz eby ez byt htd
    simp only [htd]
    rw [gd_some, Bool.and_eq_true, Bool.and_eq_true, blt_iff, ble_iff] at he
    refine ⟨he.1.1.1, he.1.1.2, he.1.2, ?_⟩
    rw [← ivss_rep (c := c)]
    exact eFillS_ok ha hk he.2
  · cases he
theorem eBuildS_wf {i : TK} {len : Nat} {ps : List (Nat × RS)} (hp : ∀ p ∈ ps, p.2.wf n) (he : eBuildS i len ps = some v) : v.wf n := by
  unfold eBuildS at he
  split at he
  · rw [gd_some] at he
    exact eFillS_wf hp (wfss_rep n _ _) he.2
  · cases he
def eEvp (fr : Tr RS) : List (Nat × Operand) → Option (List (Nat × RS))
  | [] => some []
  | (j, x) :: l => match eEv fr x with
    | some v => match eEvp fr l with
      | some vs => some ((j, v) :: vs)
      | none => none
    | none => none
theorem eEvp_ok : ∀ {l : List (Nat × Operand)} {vs : List (Nat × RS)}, eEvp fr l = some vs → evs (ifr c fr).ev l = ivp c vs
  | [], vs, he => by simp only [eEvp, Option.some.injEq] at he; subst he; rfl
  | (j, x) :: l, vs, he => by
    simp only [eEvp] at he
    split at he
    · rename_i v hv
      split at he
      · rename_i vs' hvs
        injection he with he
        subst he
        have := eEvp_ok hvs
        simp only [evs, ivp, List.map_cons, eEv_ok hv] at this ⊢
        rw [this]
      · cases he
    · cases he
theorem eEvp_wf (hf : wfr n fr) : ∀ {l : List (Nat × Operand)} {vs : List (Nat × RS)}, eEvp fr l = some vs → ∀ p ∈ vs, p.2.wf n
  | [], vs, he => by simp only [eEvp, Option.some.injEq] at he; subst he; exact fun p hp => by cases hp
  | (j, x) :: l, vs, he => by
    simp only [eEvp] at he
    split at he
    · rename_i v hv
      split at he
      · rename_i vs' hvs
        injection he with he
        subst he
        intro p hp
        rcases List.mem_cons.1 hp with rfl | hp
        · exact eEv_wf hf hv
        · exact eEvp_wf hf hvs p hp
      · cases he
    · cases he
end
end Go.Av

/-
  The program logic, part 24: runs that are reckoned: numbers, texts, comparisons, slices, conversions.
  Conditions: none (a library of definitions and lemmas).
-/
namespace Go.Av
open Go Go.RowKit

/-! ### Numbers -/
def lim : IntKind → Nat
  | .i8 | .u8 => 256
  | .i16 | .u16 => 65536
  | .i32 | .u32 => 4294967296
  | .i64 | .u64 => 18446744073709551616
def half : IntKind → Nat
  | .i8 => 128
  | .u8 => 256
  | .i16 => 32768
  | .u16 => 65536
  | .i32 => 2147483648
  | .u32 => 4294967296
  | .i64 => 9223372036854775808
  | .u64 => 18446744073709551616
def wr (k : IntKind) (r : Nat) : Int := match Nat.blt r (half k) with
  | true => .ofNat r
  | false => Int.subNatNat r (lim k)
def ewrap (k : IntKind) : Int → Int
  | .ofNat m => wr k (m % lim k)
  | .negSucc m => wr k (lim k - 1 - m % lim k)
theorem wr_eq (k : IntKind) (r : Nat) (n : Int) (h : (r : Int) = n % (lim k : Int)) : wr k r = k.wrap n := by
  unfold wr
  rw [IntKind.wrap]
  cases hb : Nat.blt r (half k) with
  | true =>
    rw [blt_iff] at hb
    simp only
    cases k <;> simp only [half, lim, IntKind.bits, IntKind.signed, Int.ofNat_eq_natCast] at hb h ⊢ <;> simp <;> omega
  | false =>
    have hb' : ¬ r < half k := fun h => by rw [← blt_iff, hb] at h; cases h
    simp only [Int.subNatNat_eq_coe]
    cases k <;> simp only [half, lim, IntKind.bits, IntKind.signed] at hb' h ⊢ <;> simp <;> omega
theorem ewrap_eq (k : IntKind) (n : Int) : ewrap k n = k.wrap n := by
  cases n with
  | ofNat m =>
    refine wr_eq k _ _ ?_
    simp
  | negSucc m =>
    refine wr_eq k _ _ ?_
    have : 0 < lim k := by cases k <;> decide
    have h2 : m % lim k < lim k := Nat.mod_lt _ this
    have e : (Int.negSucc m) % (lim k : Int) = (lim k : Int) - 1 - ((m % lim k : Nat) : Int) := by
      rw [Int.negSucc_emod _ (by omega)]
      simp
    rw [e]
    omega
def ieq : Int → Int → Bool
  | .ofNat a, .ofNat b => Nat.beq a b
  | .negSucc a, .negSucc b => Nat.beq a b
  | _, _ => false
def ilt : Int → Int → Bool
  | .ofNat a, .ofNat b => Nat.blt a b
  | .negSucc a, .negSucc b => Nat.blt b a
  | .negSucc _, .ofNat _ => true
  | .ofNat _, .negSucc _ => false
theorem bool_dec {b : Bool} {p : Prop} [Decidable p] (h : b = true ↔ p) : b = decide p := by
  cases b with
  | true => exact (decide_eq_true (h.1 rfl)).symm
  | false => exact (decide_eq_false fun hp => by have := h.2 hp; cases this).symm
theorem ieq_eq (a b : Int) : ieq a b = decide (a = b) := bool_dec (by
  cases a <;> cases b <;> simp only [ieq, beq_iff, Int.ofNat_eq_natCast, Bool.false_eq_true, false_iff, true_iff] <;> omega)
theorem ilt_eq (a b : Int) : ilt a b = decide (a < b) := bool_dec (by
  cases a <;> cases b <;> simp only [ilt, blt_iff, Int.ofNat_eq_natCast, Bool.false_eq_true, false_iff, true_iff] <;> omega)
theorem not_ilt (a b : Int) : (!ilt a b) = decide (b ≤ a) := by
  rw [ilt_eq]
  by_cases h : a < b
  · rw [decide_eq_true h, decide_eq_false (by omega)]; rfl
  · rw [decide_eq_false h, decide_eq_true (by omega)]; rfl
def eInt (op : BinOp) (k : IntKind) (x y : Int) : Option Value := match op with
  | .add => some (.int k (ewrap k (x + y)))
  | .sub => some (.int k (ewrap k (x - y)))
  | .mul => some (.int k (ewrap k (x * y)))
  | .quo => gd (!ieq y 0) (some (.int k (ewrap k (x.tdiv y))))
  | .rem => gd (!ieq y 0) (some (.int k (x.tmod y)))
  | .eql => some (.bool (ieq x y))
  | .neq => some (.bool (!ieq x y))
  | .lss => some (.bool (ilt x y))
  | .leq => some (.bool (!ilt y x))
  | .gtr => some (.bool (ilt y x))
  | .geq => some (.bool (!ilt x y))
  | .shl => match y with
    | .ofNat m => some (.int k (ewrap k (x * ((2 ^ min m k.bits : Nat) : Int))))
    | .negSucc _ => none
  | .shr => match y with
    | .ofNat m => some (.int k (x.fdiv ((2 ^ min m k.bits : Nat) : Int)))
    | .negSucc _ => none
  | .and => some (.int k (ewrap k ((BitVec.ofInt k.bits x &&& BitVec.ofInt k.bits y).toNat : Int)))
  | .or => some (.int k (ewrap k ((BitVec.ofInt k.bits x ||| BitVec.ofInt k.bits y).toNat : Int)))
  | .xor => some (.int k (ewrap k ((BitVec.ofInt k.bits x ^^^ BitVec.ofInt k.bits y).toNat : Int)))
  | .andNot => some (.int k (ewrap k ((BitVec.ofInt k.bits x &&& ~~~BitVec.ofInt k.bits y).toNat : Int)))
section
variable {K : AV → Prop}
theorem eInt_ok {op : BinOp} {k : IntKind} {x y : Int} {v : Value} (he : eInt op k x y = some v) (hk : K (.v v)) : aInt op k x y K := by
  cases op with
  | add => simp only [eInt, Option.some.injEq] at he; subst he; rw [ewrap_eq] at hk; exact hk
  | sub => simp only [eInt, Option.some.injEq] at he; subst he; rw [ewrap_eq] at hk; exact hk
  | mul => simp only [eInt, Option.some.injEq] at he; subst he; rw [ewrap_eq] at hk; exact hk
  | and => simp only [eInt, Option.some.injEq] at he; subst he; rw [ewrap_eq] at hk; exact hk
  | or => simp only [eInt, Option.some.injEq] at he; subst he; rw [ewrap_eq] at hk; exact hk
  | xor => simp only [eInt, Option.some.injEq] at he; subst he; rw [ewrap_eq] at hk; exact hk
  | andNot => simp only [eInt, Option.some.injEq] at he; subst he; rw [ewrap_eq] at hk; exact hk
  | quo =>
    simp only [eInt, gd_some, ieq_eq, Option.some.injEq] at he
    obtain ⟨h1, rfl⟩ := he
    rw [ewrap_eq] at hk
    exact ⟨by simpa using h1, hk⟩
  | rem =>
    simp only [eInt, gd_some, ieq_eq, Option.some.injEq] at he
    obtain ⟨h1, rfl⟩ := he
    exact ⟨by simpa using h1, hk⟩
  | eql => simp only [eInt, Option.some.injEq] at he; subst he; rw [ieq_eq] at hk; exact hk
  | neq => simp only [eInt, Option.some.injEq] at he; subst he; rw [ieq_eq] at hk; simpa only [aInt, ne_eq, decide_not] using hk
  | lss => simp only [eInt, Option.some.injEq] at he; subst he; rw [ilt_eq] at hk; exact hk
  | leq => simp only [eInt, Option.some.injEq] at he; subst he; rw [not_ilt] at hk; exact hk
  | gtr => simp only [eInt, Option.some.injEq] at he; subst he; rw [ilt_eq] at hk; exact hk
  | geq => simp only [eInt, Option.some.injEq] at he; subst he; rw [not_ilt] at hk; exact hk
  | shl =>
    simp only [eInt] at he
    cases y with
    | ofNat m =>
      simp only [Option.some.injEq] at he; subst he; rw [ewrap_eq] at hk
      simp only [aInt, Int.ofNat_eq_natCast, Int.toNat_natCast]
      refine ⟨by omega, ?_⟩
      simpa using hk
    | negSucc m => cases he
  | shr =>
    simp only [eInt] at he
    cases y with
    | ofNat m =>
      simp only [Option.some.injEq] at he; subst he
      simp only [aInt, Int.ofNat_eq_natCast, Int.toNat_natCast]
      refine ⟨by omega, ?_⟩
      simpa using hk
    | negSucc m => cases he
/-! ### Texts -/
def beqB : List UInt8 → List UInt8 → Bool
  | [], [] => true
  | a :: x, b :: y => match Nat.beq a.toNat b.toNat with
    | true => beqB x y
    | false => false
  | _, _ => false
def bltB : List UInt8 → List UInt8 → Bool
  | _, [] => false
  | [], _ :: _ => true
  | a :: x, b :: y => match Nat.blt a.toNat b.toNat with
    | true => true
    | false => match Nat.beq a.toNat b.toNat with
      | true => bltB x y
      | false => false
theorem beqB_iff : ∀ {x y : List UInt8}, beqB x y = true ↔ x = y
  | [], [] => by simp [beqB]
  | [], _ :: _ => by simp [beqB]
  | _ :: _, [] => by simp [beqB]
  | a :: x, b :: y => by
    simp only [beqB]
    cases hb : Nat.beq a.toNat b.toNat with
    | true =>
      rw [beq_iff] at hb
      have hab : a = b := UInt8.toNat_inj.1 hb
      simp only [beqB_iff (x := x), hab, List.cons.injEq, true_and]
    | false =>
      have hab : a ≠ b := fun e => by subst e; rw [Nat.beq_refl] at hb; cases hb
      simp [hab]
theorem bltB_eq : ∀ (x y : List UInt8), bltB x y = Op.bytesLess x y
  | [], [] => by simp only [bltB, Op.bytesLess]
  | _ :: _, [] => by simp only [bltB, Op.bytesLess]
  | [], _ :: _ => by simp only [bltB, Op.bytesLess]
  | a :: x, b :: y => by
    simp only [bltB, Op.bytesLess]
    cases hl : Nat.blt a.toNat b.toNat with
    | true =>
      rw [blt_iff] at hl
      have : a < b := UInt8.lt_iff_toNat_lt.2 hl
      simp [this]
    | false =>
      have hl' : ¬ a < b := fun h => by
        have := blt_iff.2 (UInt8.lt_iff_toNat_lt.1 h)
        rw [hl] at this; cases this
      cases hb : Nat.beq a.toNat b.toNat with
      | true =>
        rw [beq_iff] at hb
        have hab : a = b := UInt8.toNat_inj.1 hb
        simp [hl', hab, bltB_eq x y]
      | false =>
        have hab : a ≠ b := fun e => by subst e; rw [Nat.beq_refl] at hb; cases hb
        simp [hl', hab]
theorem ba_eq {x y : ByteArray} : x = y ↔ x.data.toList = y.data.toList := by
  cases x; cases y
  simp [ByteArray.mk.injEq, Array.toList_inj]
theorem ba_list (x : ByteArray) : x.toList = x.data.toList := by
  exact ByteArray.toList_eq x
def eStr (op : BinOp) (x y : List UInt8) : Option Value := match op with
  | .add => gd (Nat.ble (x.length + y.length) 9223372036854775807) (some (.string ⟨(x ++ y).toArray⟩))
  | .eql => some (.bool (beqB x y))
  | .neq => some (.bool (!beqB x y))
  | .lss => some (.bool (bltB x y))
  | .leq => some (.bool (bltB x y || beqB x y))
  | .gtr => some (.bool (!(bltB x y || beqB x y)))
  | .geq => some (.bool (!bltB x y))
  | _ => none
theorem beqB_dec (x y : ByteArray) : beqB x.data.toList y.data.toList = decide (x = y) := bool_dec (by rw [beqB_iff, ← ba_eq])
theorem ba_app (x y : ByteArray) : (⟨(x.data.toList ++ y.data.toList).toArray⟩ : ByteArray) = x ++ y := ba_eq.2 (by simp)
theorem eStr_ok {op : BinOp} {x y : ByteArray} {v : Value} (he : eStr op x.data.toList y.data.toList = some v) (hk : K (.v v)) : aStr op x y K := by
  cases op with
  | add =>
    simp only [eStr, gd_some, ble_iff, Option.some.injEq] at he
    obtain ⟨h1, rfl⟩ := he
    rw [ba_app] at hk
    exact ⟨by simpa only [Array.length_toList, ByteArray.size] using h1, hk⟩
  | eql => simp only [eStr, Option.some.injEq] at he; subst he; rw [beqB_dec] at hk; exact hk
  | neq => simp only [eStr, Option.some.injEq] at he; subst he; rw [beqB_dec] at hk; simpa only [aStr, ne_eq, decide_not] using hk
  | lss => simp only [eStr, Option.some.injEq] at he; subst he; rw [bltB_eq] at hk; simpa only [aStr, ba_list] using hk
  | leq => simp only [eStr, Option.some.injEq] at he; subst he; rw [bltB_eq, beqB_dec] at hk; simpa only [aStr, ba_list] using hk
  | gtr => simp only [eStr, Option.some.injEq] at he; subst he; rw [bltB_eq, beqB_dec] at hk; simpa only [aStr, ba_list] using hk
  | geq => simp only [eStr, Option.some.injEq] at he; subst he; rw [bltB_eq] at hk; simpa only [aStr, ba_list] using hk
  | _ => cases he
end

/-! ### Types -/
structure TE where
  k : TK
  sl : Bool
  ptr : Bool
  fn : Bool
  mp : Bool
  bl : Bool
  cc : Bool
  lv : Option (List Leaf)
structure TeOk (P : Program) (t : TypeId) (e : TE) : Prop where
  k : tk P t = some e.k
  sl : isSl P t = e.sl
  ptr : isPtr P t = e.ptr
  fn : isFn P t = e.fn
  mp : isMapT P t = e.mp
  bl : isBool P t = e.bl
  cc : isConc P t = e.cc
  lv : ∀ ls, e.lv = some ls → aggT P t = true ∧ P.eqGuardType P.depth t = false ∧ leaves P 9 t = some ls

/-! ### Comparisons -/
def valsR : List RS → Option (List Value)
  | [] => some []
  | .v x :: l => match valsR l with
    | some vs => some (x :: vs)
    | none => none
  | _ => none
def eqLeafF : Value → Value → Bool
  | .bool a, .bool b => match a with
    | true => b
    | false => !b
  | .int _ a, .int _ b => ieq a b
  | .string a, .string b => beqB a.data.toList b.data.toList
  | _, _ => true
def eqLF : List Value → List Value → Bool
  | x :: xs, y :: ys => match eqLeafF x y with
    | true => eqLF xs ys
    | false => false
  | _, _ => true
def fitF : List Leaf → List Value → Bool
  | [], [] => true
  | .b :: ls, .bool _ :: vs => fitF ls vs
  | .s :: ls, .string _ :: vs => fitF ls vs
  | .i k :: ls, .int k' _ :: vs => match decide (k = k') with
    | true => fitF ls vs
    | false => false
  | _, _ => false
theorem eqLeafF_eq (x y : Value) : eqLeafF x y = eqLeaf x y := by
  cases x <;> cases y <;> try rfl
  · rename_i a b; cases a <;> cases b <;> rfl
  · simp only [eqLeafF, eqLeaf, ieq_eq]
  · simp only [eqLeafF, eqLeaf, beqB_dec]
theorem eqLF_eq : ∀ (xs ys : List Value), eqLF xs ys = eqL xs ys
  | [], [] => rfl
  | [], _ :: _ => rfl
  | _ :: _, [] => rfl
  | x :: xs, y :: ys => by
    simp only [eqLF, eqL, eqLeafF_eq, eqLF_eq xs ys]
    cases eqLeaf x y <;> rfl
theorem fitF_ok : ∀ {ls : List Leaf} {vs : List Value}, fitF ls vs = true → Fit ls vs = true
  | [], [], _ => rfl
  | .b :: ls, .bool _ :: vs, h => by simp only [fitF] at h; simp [Fit, Leaf.ok, fitF_ok h]
  | .s :: ls, .string _ :: vs, h => by simp only [fitF] at h; simp [Fit, Leaf.ok, fitF_ok h]
  | .i k :: ls, .int k' _ :: vs, h => by
    simp only [fitF] at h
    split at h
    · rename_i hk; simp [Fit, Leaf.ok, fitF_ok h, hk]
    · cases h
  | [], _ :: _, h => by simp [fitF] at h
  | l :: _, [], h => by cases l <;> simp [fitF] at h
  | .b :: _, .int _ _ :: _, h => by simp [fitF] at h
  | .b :: _, .string _ :: _, h => by simp [fitF] at h
  | .s :: _, .bool _ :: _, h => by simp [fitF] at h
  | .s :: _, .int _ _ :: _, h => by simp [fitF] at h
  | .i _ :: _, .bool _ :: _, h => by simp [fitF] at h
  | .i _ :: _, .string _ :: _, h => by simp [fitF] at h
section
variable {P : Program} {σ0 σ : St} {c c' : Cx} {h h' : Sto} {n : Nat} {fr : Tr RS} {v : RS} {K : AV → Prop} {k : AV → St → Prop}
theorem valsR_ok : ∀ {l : List RS} {vs : List Value}, valsR l = some vs → vals (RS.ivs c l) = some vs
  | [], vs, he => by simp only [valsR, Option.some.injEq] at he; subst he; rfl
  | .v x :: l, vs, he => by
    simp only [valsR] at he
    split at he
    · rename_i vs' hv
      injection he with he; subst he
      simp only [RS.ivs, RS.iv, RS.vv, vals, valsR_ok hv, Option.map_some]
    · cases he
def eEqv (neg : Bool) (te : TE) : RS → RS → Option Bool
  | .v (.bool a), .v (.bool b) => gd te.bl (some (match neg, a with | true, true => !b | true, false => b | false, true => b | false, false => !b))
  | .v (.pointer p), .v (.pointer none) => gd te.ptr (some (match neg with | true => p.isSome | false => p.isNone))
  | .ptr _ _, .v (.pointer none) => gd te.ptr (some neg)
  | .v (.pointer none), .ptr _ _ => gd te.ptr (some neg)
  | .fp _, .v (.pointer none) => gd te.ptr (some neg)
  | .rp _ _ _ _, .v (.pointer none) => gd te.ptr (some neg)
  | .v (.slice a _ _), .v (.slice none 0 0) => gd te.sl (some (match neg with | true => a.isSome | false => a.isNone))
  | .row _ _, .v (.slice none 0 0) => gd te.sl (some neg)
  | .part _ _ _ _, .v (.slice none 0 0) => gd te.sl (some neg)
  | .mt _ _ _, .v (.slice none 0 0) => gd te.sl (some neg)
  | .sl _ (_ :: _), .v (.slice none 0 0) => gd te.sl (some neg)
  | .fsl _ (_ :: _), .v (.slice none 0 0) => gd te.sl (some neg)
  | .v (.map m), .v (.map none) => gd te.mp (some (match neg with | true => m.isSome | false => m.isNone))
  | .mp _, .v (.map none) => gd te.mp (some neg)
  | .fn _ _ _, .v .nilFunc => gd te.fn (some neg)
  | .yld _, .v .nilFunc => gd te.fn (some neg)
  | .v .nilFunc, .v .nilFunc => gd te.fn (some (!neg))
  | _, _ => none
def eAgg (neg : Bool) (te : TE) (xs ys : List RS) : Option Bool := match te.lv with
  | some ls => match valsR xs with
    | some vs => match valsR ys with
      | some ws => gd (fitF ls vs && fitF ls ws) (some (match neg with | true => !eqLF vs ws | false => eqLF vs ws))
      | none => none
    | none => none
  | none => none
def eEq2 (neg : Bool) (te : TE) : RS → RS → Option Bool
  | .agg xs, .agg ys => eAgg neg te xs ys
  | x, y => eEqv neg te x y
def eBin (op : BinOp) (te : TE) : RS → RS → Option RS
  | .v (.int k a), .v (.int k' b) => match decide (k = k') || isSh op with
    | true => match eInt op k a b with
      | some v => some (.v v)
      | none => none
    | false => none
  | .v (.string a), .v (.string b) => match eStr op a.data.toList b.data.toList with
    | some v => some (.v v)
    | none => none
  | x, y => match op with
    | .eql => match eEq2 false te x y with
      | some b => some (.v (.bool b))
      | none => none
    | .neq => match eEq2 true te x y with
      | some b => some (.v (.bool b))
      | none => none
    | _ => none
theorem eEqv_ok {t : TypeId} {te : TE} (ht : TeOk P t te) {neg : Bool} {x y : RS} {b : Bool} (he : eEqv neg te x y = some b) (hk : K (.v (.bool b))) :
    (∀ op, op = (if neg then BinOp.neq else .eql) → aBin P op t (x.iv c) (y.iv c) K) := by
  rintro op rfl
  unfold eEqv at he
  split at he <;> first
    | (cases he; done)
    | (rw [gd_some] at he
       obtain ⟨hf, he⟩ := he
       injection he with he
       subst he
       cases neg <;> first
         | (refine ⟨ht.bl.trans hf, ?_⟩; rename_i a b; cases a <;> cases b <;> exact hk)
         | exact ⟨ht.ptr.trans hf, hk⟩
         | exact ⟨ht.sl.trans hf, hk⟩
         | exact ⟨ht.mp.trans hf, hk⟩
         | exact ⟨ht.fn.trans hf, hk⟩
         | (refine ⟨ht.sl.trans hf, fun _ => hk, fun h => ?_⟩; simp only [RS.ivss] at h; cases h))
theorem eAgg_ok {t : TypeId} {te : TE} (ht : TeOk P t te) {neg : Bool} {xs ys : List RS} {b : Bool} (he : eAgg neg te xs ys = some b) (hk : K (.v (.bool b))) : aAgg P neg t (.agg (RS.ivs c xs)) (.agg (RS.ivs c ys)) K := by
  unfold eAgg at he
  split at he
  · rename_i ls hls
    split at he
    · rename_i vs hvs
      split at he
      · rename_i ws hws
        rw [gd_some, Bool.and_eq_true] at he
        obtain ⟨hf, he⟩ := he
        injection he with he
        subst he
        obtain ⟨h1, h2, h3⟩ := ht.lv ls hls
        refine ⟨h1, h2, _, _, vs, ws, ls, rfl, rfl, valsR_ok hvs, valsR_ok hws, h3, fitF_ok hf.1, fitF_ok hf.2, ?_⟩
        rw [eqLF_eq] at hk
        cases neg <;> exact hk
      · cases he
    · cases he
  · cases he
theorem eEq2_ok {t : TypeId} {te : TE} (ht : TeOk P t te) {neg : Bool} {x y : RS} {b : Bool} (he : eEq2 neg te x y = some b) (hk : K (.v (.bool b))) :
    (∀ op, op = (if neg then BinOp.neq else .eql) → aBin P op t (x.iv c) (y.iv c) K) := by
  unfold eEq2 at he
  split at he
  · rintro op rfl
    have := eAgg_ok (c := c) ht he hk
    cases neg <;> exact this
  · exact eEqv_ok ht he hk
theorem eBin_ok {op : BinOp} {t : TypeId} {te : TE} (ht : TeOk P t te) {x y : RS} (he : eBin op te x y = some v) (hk : K (v.iv c)) : aBin P op t (x.iv c) (y.iv c) K := by
  unfold eBin at he
  split at he
  · rename_i k a k' b
    split at he
    · rename_i hkk
      have hkk : k = k' ∨ isSh op = true := by
        rcases Bool.or_eq_true _ _ ▸ hkk with h | h
        · exact .inl (of_decide_eq_true h)
        · exact .inr h
      split at he
      · rename_i w hw
        injection he with he; subst he
        simp only [RS.iv, RS.vv] at hk ⊢
        exact ⟨hkk, eInt_ok hw hk⟩
      · cases he
    · cases he
  · rename_i a b
    split at he
    · rename_i w hw
      injection he with he; subst he
      simp only [RS.iv, RS.vv] at hk ⊢
      exact eStr_ok hw hk
    · cases he
  · split at he
    · split at he
      · rename_i b hb
        injection he with he; subst he
        simp only [RS.iv, RS.vv] at hk
        exact eEq2_ok ht hb hk _ rfl
      · cases he
    · split at he
      · rename_i b hb
        injection he with he; subst he
        simp only [RS.iv, RS.vv] at hk
        exact eEq2_ok ht hb hk _ rfl
      · cases he
    · cases he
theorem eBin_wf {op : BinOp} {te : TE} {x y : RS} (he : eBin op te x y = some v) : v.wf n := by
  unfold eBin at he
  split at he
  · split at he
    · split at he
      · injection he with he; subst he; simp only [RS.wf]
      · cases he
    · cases he
  · split at he
    · injection he with he; subst he; simp only [RS.wf]
    · cases he
  · split at he
    · split at he
      · injection he with he; subst he; simp only [RS.wf]
      · cases he
    · split at he
      · injection he with he; subst he; simp only [RS.wf]
      · cases he
    · cases he
def eUn (op : UnOp) (x : RS) : Option RS := match op, x with
  | .not, .v (.bool b) => some (.v (.bool (!b)))
  | .neg, .v (.int ik m) => some (.v (.int ik (ewrap ik (0 - m))))
  | .xor, .v (.int ik m) => some (.v (.int ik (ewrap ik ((BitVec.ofInt ik.bits (if ik.signed then -1 else ik.max) ^^^ BitVec.ofInt ik.bits m).toNat : Int))))
  | _, _ => none
theorem eUn_ok {op : UnOp} {x : RS} (he : eUn op x = some v) (hk : K (v.iv c)) : aUn op (x.iv c) K := by
  unfold eUn at he
  split at he
  · injection he with he; subst he; simpa only [RS.iv, RS.vv, aUn] using hk
  · injection he with he; subst he; rw [ewrap_eq] at hk; simpa only [RS.iv, RS.vv, aUn] using hk
  · injection he with he; subst he; rw [ewrap_eq] at hk; simpa only [RS.iv, RS.vv, aUn] using hk
  · cases he
theorem eUn_wf {op : UnOp} {x : RS} (he : eUn op x = some v) : v.wf n := by
  unfold eUn at he
  split at he
  · injection he with he; subst he; simp only [RS.wf]
  · injection he with he; subst he; simp only [RS.wf]
  · injection he with he; subst he; simp only [RS.wf]
  · cases he
end
end Go.Av

/-
  The program logic, part 25: runs that are reckoned: slices, conversions, function values, interfaces; new blocks, append.
  Conditions: none (a library of definitions and lemmas).
-/
namespace Go.Av
open Go Go.RowKit

section
variable {P : Program} {σ0 σ : St} {c c' : Cx} {h h' : Sto} {n : Nat} {fr : Tr RS} {v : RS} {K : AV → Prop} {k : AV → St → Prop}
/-! ### slices of slices -/
def eOptN (d : Nat) : Option RS → Option Nat
  | none => some d
  | some x => eNat x
theorem eOptN_ok {d : Nat} {x : Option RS} {j : Nat} (he : eOptN d x = some j) : optI (d : Int) (x.map (RS.iv c)) = some (j : Int) := by
  cases x with
  | none => simp only [eOptN, Option.some.injEq] at he; subst he; rfl
  | some x =>
    obtain ⟨ik, rfl⟩ := eNat_ok he
    simp only [Option.map_some, RS.iv, RS.vv, optI]
def mkPart (b q l0 l r : Nat) : RS := match Nat.beq (l0 + l) 0 with
  | true => .row b r
  | false => match Nat.blt l r with
    | true => .part b q (l0 + l) (r - l)
    | false => .mt b (fun m => offAt (m - l0) l (l0 * q) q) (fun m => m - l0 - l)
theorem mkPart_iv {b q l0 l r : Nat} (hl : l ≤ r) (hr : l0 + r ≤ c.k b) : (mkPart b q l0 l r).iv c = .v (.slice (some ⟨c.r b, offAt (c.k b - l0) l (l0 * q) q, none⟩) (r - l) (c.k b - l0 - l)) := by
  unfold mkPart
  cases h1 : Nat.beq (l0 + l) 0 with
  | true =>
    rw [beq_iff] at h1
    obtain rfl : l0 = 0 := by omega
    obtain rfl : l = 0 := by omega
    simp only [RS.iv, RS.vv, offAt, Nat.zero_mul, Nat.add_zero, Nat.sub_zero, ite_self]
  | false =>
    cases h2 : Nat.blt l r with
    | true =>
      rw [blt_iff] at h2
      simp only [RS.iv, RS.vv, offAt]
      rw [if_neg (by omega), ← Nat.add_mul, Nat.sub_sub]
    | false =>
      have h3 : ¬ l < r := fun h => by rw [← blt_iff, h2] at h; cases h
      obtain rfl : l = r := by omega
      simp only [RS.iv, RS.vv, Nat.sub_self]
theorem mkPart_wf {b q l0 l r : Nat} (hb : b < n) : (mkPart b q l0 l r).wf n := by
  unfold mkPart
  split
  · simp only [RS.wf]; exact hb
  · split <;> (simp only [RS.wf]; exact hb)
def eView (q : Nat) : RS → Option (List (List RS))
  | .sl q' es => gd (Nat.beq q' q) (some es)
  | .fsl q' es => gd (Nat.beq q' q) (some es)
  | .v (.slice none 0 0) => some []
  | _ => none
theorem eView_ok {q : Nat} {x : RS} {es : List (List RS)} (he : eView q x = some es) : view q σ (x.iv c) = some (RS.ivss c es) := by
  unfold eView at he
  split at he
  · rw [gd_some, beq_iff] at he; obtain ⟨rfl, he⟩ := he; injection he with he; subst he; simp only [RS.iv, view, if_true]
  · rw [gd_some, beq_iff] at he; obtain ⟨rfl, he⟩ := he; injection he with he; subst he; simp only [RS.iv, view, if_true]
  · injection he with he; subst he; rfl
  · cases he
theorem eView_wf {q : Nat} {x : RS} {es : List (List RS)} (hx : x.wf n) (he : eView q x = some es) : RS.wfss n es := by
  unfold eView at he
  split at he
  · rw [gd_some] at he; have he := he.2; injection he with he; subst he; simpa only [RS.wf] using hx
  · rw [gd_some] at he; have he := he.2; injection he with he; subst he; simpa only [RS.wf] using hx
  · injection he with he; subst he; simp only [RS.wfss]
  · cases he
def eSli (i : TK) (h : Sto) (x : RS) (lo hi mx : Option RS) : Option RS := match i.td with
  | .str => match x, mx with
    | .v (.string s), none => match eOptN 0 lo, eOptN s.data.toList.length hi with
      | some l, some r => gd (Nat.ble l r && Nat.ble r s.data.toList.length) (some (.v (.string ⟨((s.data.toList.take r).drop l).toArray⟩)))
      | _, _ => none
    | _, _ => none
  | .sl q _ _ _ => match x, mx with
    | .row b n, none => match eOptN 0 lo, eOptN n hi with
      | some l, some r => gd (Nat.ble l r && Nat.ble r n && Nat.ble n (h.get b).len) (some (mkPart b q 0 l r))
      | _, _ => none
    | .part b q' l0 n, none => match eOptN 0 lo, eOptN n hi with
      | some l, some r => gd (Nat.ble l r && Nat.ble r n && Nat.ble (l0 + n) (h.get b).len && Nat.beq q' q) (some (mkPart b q l0 l r))
      | _, _ => none
    | x, none => match eView q x with
      | some es => match eOptN 0 lo, eOptN es.length hi with
        | some l, some r => gd (Nat.ble l r && Nat.ble r es.length) (some (.sl q ((es.take r).drop l)))
        | _, _ => none
      | none => none
    | _, _ => none
  | _ => none
theorem ba_ext (s : ByteArray) (l r : Nat) (h : r ≤ s.size) : (⟨((s.data.toList.take r).drop l).toArray⟩ : ByteArray) = s.extract l r := ba_eq.2 (by
  simp [ByteArray.extract, ByteArray.copySlice, List.drop_take])
theorem eSli_ok (hM : Mt σ0 c h σ) {i : TK} {x : RS} {lo hi mx : Option RS} (hx : x.wf h.n) (he : eSli i h x lo hi mx = some v) (hk : K (v.iv c)) :
    aSli (some i) σ (x.iv c) (lo.map (RS.iv c)) (hi.map (RS.iv c)) (mx.map (RS.iv c)) K := by
  unfold eSli at he
  simp only [aSli]
  split at he
  · rename_i htd
    simp only [htd]
    split at he
    · rename_i s
      split at he
      · rename_i l r hl hr
        simp only [gd_some, Bool.and_eq_true, ble_iff, Option.some.injEq] at he
        obtain ⟨⟨h1, h2⟩, rfl⟩ := he
        have hsz : s.data.toList.length = s.size := Array.length_toList
        rw [hsz] at h2
        simp only [RS.iv, RS.vv] at hk ⊢
        rw [ba_ext s l r h2] at hk
        have h3 := eOptN_ok (c := c) hl
        have h4 := eOptN_ok (c := c) hr
        rw [hsz] at h4
        exact ⟨rfl, l, r, h3, h4, by omega, by omega, by omega, by simpa using hk⟩
      · cases he
    · cases he
  · rename_i q eby ez byt htd
    simp only [htd]
    split at he
    · rename_i b n
      split at he
      · rename_i l r hl hr
        simp only [gd_some, Bool.and_eq_true, ble_iff, Option.some.injEq] at he
        obtain ⟨⟨⟨h1, h2⟩, h3⟩, rfl⟩ := he
        have hb : b < h.n := by simpa only [RS.wf] using hx
        have hc := hM.cap b hb
        rw [mkPart_iv h1 (by omega)] at hk
        refine .inl ⟨c.r b, 0, n, c.k b, by simp only [RS.iv, RS.vv], (l : Int), (r : Int), (c.k b : Int), eOptN_ok hl, eOptN_ok hr, .inl ⟨rfl, rfl⟩, by omega, by omega, by omega, by omega, ?_⟩
        simpa only [Int.toNat_natCast, Nat.sub_zero, Nat.zero_mul] using hk
      · cases he
    · rename_i b q' l0 n
      split at he
      · rename_i l r hl hr
        simp only [gd_some, Bool.and_eq_true, ble_iff, beq_iff, Option.some.injEq] at he
        obtain ⟨⟨⟨⟨h1, h2⟩, h3⟩, rfl⟩, rfl⟩ := he
        have hb : b < h.n := by simpa only [RS.wf] using hx
        have hc := hM.cap b hb
        rw [mkPart_iv h1 (by omega)] at hk
        refine .inl ⟨c.r b, l0 * q', n, c.k b - l0, by simp only [RS.iv, RS.vv], (l : Int), (r : Int), ((c.k b - l0 : Nat) : Int), eOptN_ok hl, eOptN_ok hr, .inl ⟨rfl, rfl⟩, by omega, by omega, by omega, by omega, ?_⟩
        simpa only [Int.toNat_natCast] using hk
      · cases he
    · split at he
      · rename_i es hes
        split at he
        · rename_i l r hl hr
          simp only [gd_some, Bool.and_eq_true, ble_iff, Option.some.injEq] at he
          obtain ⟨⟨h1, h2⟩, rfl⟩ := he
          refine .inr ⟨RS.ivss c es, eView_ok hes, (l : Int), (r : Int), eOptN_ok hl, by rw [ivss_len]; exact eOptN_ok hr, by omega, by omega, by rw [ivss_len]; omega, .inl ⟨rfl, ?_⟩⟩
          simp only [RS.iv, Int.toNat_natCast, ivss_take, ivss_drop] at hk ⊢
          exact hk
        · cases he
      · cases he
    · cases he
  · cases he
theorem eSli_wf {i : TK} {x : RS} {lo hi mx : Option RS} (hx : x.wf n) (he : eSli i h x lo hi mx = some v) : v.wf n := by
  unfold eSli at he
  split at he
  · split at he
    · split at he
      · simp only [gd_some, Option.some.injEq] at he
        obtain ⟨_, rfl⟩ := he
        simp only [RS.wf]
      · cases he
    · cases he
  · split at he
    · split at he
      · simp only [gd_some, Option.some.injEq] at he
        obtain ⟨_, rfl⟩ := he
        exact mkPart_wf (by simpa only [RS.wf] using hx)
      · cases he
    · split at he
      · simp only [gd_some, Option.some.injEq] at he
        obtain ⟨_, rfl⟩ := he
        exact mkPart_wf (by simpa only [RS.wf] using hx)
      · cases he
    · split at he
      · rename_i es hes
        split at he
        · simp only [gd_some, Option.some.injEq] at he
          obtain ⟨_, rfl⟩ := he
          simp only [RS.wf]
          exact wfss_drop _ (wfss_take _ (eView_wf hx hes))
        · cases he
      · cases he
    · cases he
  · cases he
/-! ### function values, interfaces -/
def eFunc (fn : Fn) (fi ca : List RS) : Option RS := match fn with
  | .func f => gd (fi.all RS.isV && ca.all RS.isV) (some (.fn f fi ca))
  | _ => none
theorem exacts_of {ev : Operand → AV} : ∀ {l : List Operand} {vs : List RS}, l.map ev = vs.map (RS.iv c) → vs.all RS.isV = true → exacts ev l = some (RS.vvs c vs)
  | [], [], _, _ => rfl
  | x :: l, v :: vs, h, hv => by
    simp only [List.map_cons, List.cons.injEq] at h
    simp only [List.all_cons, Bool.and_eq_true] at hv
    simp only [exacts, h.1, iv_v hv.1, exacts_of h.2 hv.2, RS.vvs]
  | [], _ :: _, h, _ => by simp at h
  | _ :: _, [], h, _ => by simp at h
theorem eFunc_ok {ev : Operand → AV} {fn : Fn} {l m : List Operand} {fi ca : List RS} (hl : l.map ev = fi.map (RS.iv c)) (hm : m.map ev = ca.map (RS.iv c)) (he : eFunc fn fi ca = some v) (hk : K (v.iv c)) : aFunc fn ev l m K := by
  unfold eFunc at he
  split at he
  · rw [gd_some, Bool.and_eq_true] at he
    obtain ⟨hf, he⟩ := he
    injection he with he
    subst he
    simp only [aFunc, exacts_of hl hf.1, exacts_of hm hf.2]
    simpa only [RS.iv, RS.vv] using hk
  · cases he
theorem eFunc_wf {fn : Fn} {fi ca : List RS} (h1 : RS.wfs n fi) (h2 : RS.wfs n ca) (he : eFunc fn fi ca = some v) : v.wf n := by
  unfold eFunc at he
  split at he
  · rw [gd_some] at he
    have he := he.2
    injection he with he
    subst he
    simp only [RS.wf]
    exact ⟨h1, h2⟩
  · cases he
def eMkI (te : TE) (t : TypeId) (x : RS) : Option RS := gd (te.cc && x.isV) (some (.ifc t x))
theorem eMkI_ok {t : TypeId} {te : TE} (ht : TeOk P t te) {x : RS} (he : eMkI te t x = some v) (hk : K (v.iv c)) : aMkI P t (x.iv c) K := by
  unfold eMkI at he
  rw [gd_some, Bool.and_eq_true] at he
  obtain ⟨hf, he⟩ := he
  injection he with he
  subst he
  refine ⟨ht.cc.trans hf.1, ?_⟩
  rw [iv_v hf.2]
  simpa only [RS.iv, RS.vv] using hk
def eTyA (te : TE) (u : TypeId) (x : RS) : Option RS := match x with
  | .ifc t y => gd (te.cc && y.isV && Nat.beq t u) (some y)
  | _ => none
theorem eTyA_ok {u : TypeId} {te : TE} (ht : TeOk P u te) {x : RS} (he : eTyA te u x = some v) (hk : K (v.iv c)) : aTyA P u (x.iv c) K := by
  unfold eTyA at he
  split at he
  · rename_i t y
    rw [gd_some, Bool.and_eq_true, Bool.and_eq_true, beq_iff] at he
    obtain ⟨⟨⟨h1, h2⟩, h3⟩, he⟩ := he
    injection he with he
    subst he
    rw [iv_v h2] at hk
    simp only [RS.iv, RS.vv]
    exact ⟨ht.cc.trans h1, h3, hk⟩
  · cases he
/-! ### conversions -/
def bytesR : List (List RS) → Option (List UInt8)
  | [] => some []
  | [.v (.int .u8 (.ofNat m))] :: l => match bytesR l with
    | some bs => some (UInt8.ofNat m :: bs)
    | none => none
  | _ => none
theorem bytesR_ok : ∀ {es : List (List RS)} {bs : List UInt8}, bytesR es = some bs → (RS.ivss c es).all isByte = true ∧ (RS.ivss c es).map byteOf = bs
  | [], bs, he => by simp only [bytesR, Option.some.injEq] at he; subst he; exact ⟨rfl, rfl⟩
  | e :: l, bs, he => by
    unfold bytesR at he
    split at he
    · rename_i h; cases h
    · rename_i m l' heq
      injection heq with h1 h2
      subst h1; subst h2
      split at he
      · rename_i bs' hb
        injection he with he
        subst he
        obtain ⟨g1, g2⟩ := bytesR_ok (es := l) hb
        simp only [RS.ivss, RS.ivs, RS.iv, RS.vv, List.all_cons, isByte, g1, Bool.and_self, List.map_cons, byteOf, g2, Int.ofNat_eq_natCast, Int.toNat_natCast, and_self]
      · cases he
    · cases he
def eLook (q : Nat) (h : Sto) : RS → Option (List (List RS))
  | .sl q' es => gd (Nat.beq q' q) (some es)
  | .fsl q' es => gd (Nat.beq q' q) (some es)
  | .v (.slice none 0 0) => some []
  | .row b n => match h.get b with
    | .rows q' es _ => gd (Nat.beq q' q && Nat.ble n es.length) (some (es.take n))
    | _ => none
  | _ => none
theorem eLook_ok (hM : Mt σ0 c h σ) {q : Nat} {x : RS} {es : List (List RS)} (hx : x.wf h.n) (he : eLook q h x = some es) : vlook q σ (x.iv c) = some (RS.ivss c es) := by
  unfold eLook at he
  split at he
  · rw [gd_some, beq_iff] at he; obtain ⟨rfl, he⟩ := he; injection he with he; subst he; simp only [RS.iv, vlook, if_true]
  · rw [gd_some, beq_iff] at he; obtain ⟨rfl, he⟩ := he; injection he with he; subst he; simp only [RS.iv, vlook, if_true]
  · injection he with he; subst he; rfl
  · rename_i b n
    split at he
    · rename_i q' es' frz hb
      rw [gd_some, Bool.and_eq_true, beq_iff, ble_iff] at he
      obtain ⟨⟨rfl, h1⟩, he⟩ := he
      injection he with he; subst he
      have hbn : b < h.n := by simpa only [RS.wf] using hx
      have h2 := hM.ob b (.rows q' (RS.ivss c es') frz (c.k b)) hbn (by rw [hb]; rfl)
      have hc := hM.cap b hbn
      rw [hb] at hc
      simp only [SO.len] at hc
      simp only [RS.iv, RS.vv, vlook, h2, ivss_len, ivss_take]
      rw [if_pos ⟨trivial, h1, by omega⟩]
    · cases he
  · cases he
def rByte (b : UInt8) : List RS := [.v (.int .u8 (.ofNat b.toNat))]
theorem rByte_iv (l : List UInt8) : RS.ivss c (l.map rByte) = l.map byteEl := by
  rw [ivss_map, List.map_map]
  refine List.map_congr_left fun b _ => ?_
  simp only [Function.comp, rByte, RS.ivs, RS.iv, RS.vv, byteEl, Int.ofNat_eq_natCast]
theorem rByte_wf (n : Nat) (l : List UInt8) : RS.wfss n (l.map rByte) := wfss_iff.2 fun x hx => by
  obtain ⟨b, _, rfl⟩ := List.mem_map.1 hx
  simp only [rByte, RS.wfs, RS.wf, and_self]
def eConv (i j : TK) (h : Sto) (x : RS) : Option (RS × Sto) := match i.td, j.td with
  | .int _, .int ik => match x with
    | .v (.int _ m) => some (.v (.int ik (ewrap ik m)), h)
    | _ => none
  | .str, .str => match x with
    | .v (.string s) => some (.v (.string s), h)
    | _ => none
  | .str, .sl 1 _ _ true => match x with
    | .v (.string s) => match h.new (.rows 1 (s.data.toList.map rByte) false) with
      | some (b, h') => some (.row b s.data.toList.length, h')
      | none => none
    | _ => none
  | .sl 1 _ _ true, .str => match eLook 1 h x with
    | some es => match bytesR es with
      | some bs => some (.v (.string ⟨bs.toArray⟩), h)
      | none => none
    | none => none
  | _, _ => none
/-- What follows. -/
def Kt (σ0 : St) (c : Cx) (h : Sto) (v : RS) (h' : Sto) (k : AV → St → Prop) : Prop :=
  ∀ c' σ', Agree h.n c c' → Mt σ0 c' h' σ' → h.n ≤ h'.n → Keep h h' → v.wf h'.n → k (v.iv c') σ'
theorem Kt.same (hM : Mt σ0 c h σ) (hk : Kt σ0 c h v h k) (hv : v.wf h.n) : k (v.iv c) σ := hk c σ (.refl _ _) hM (Nat.le_refl _) (.refl h) hv
/-- A new block. -/
theorem Kt.new (hM : Mt σ0 c h σ) {o : SO} {i : Nat} (hn : h.new o = some (i, h')) (hw : o.wf h.n) {b kk : Nat} {x : AObj} (hb : σ b = none) (hx : io (c.more h.n b kk) h.n o = some x) (hc : o.len ≤ kk)
    (hk : Kt σ0 c h v h' k) (hv : v.wf (h.n + 1)) : k (v.iv (c.more h.n b kk)) (σ.set b x) := by
  obtain ⟨h1, h2, h3⟩ := hM.new hb hn hx hw hc
  exact hk _ _ (more_agree c h.n b kk) h3 (by omega) (.new hn) (by rw [h2]; exact hv)
theorem new_n {o : SO} {i : Nat} (hn : h.new o = some (i, h')) : i = h.n := by
  unfold Sto.new at hn
  rw [gd_some] at hn
  have := hn.2
  injection this with this
  injection this with h1 h2
  exact h1.symm
theorem eConv_ok (hM : Mt σ0 c h σ) {i j : TK} {x : RS} (hx : x.wf h.n) (he : eConv i j h x = some (v, h')) (hk : Kt σ0 c h v h' k) : aConv (some i) (some j) σ (x.iv c) k := by
  unfold eConv at he
  simp only [aConv]
  split at he
  · rename_i htd htd2
    split at he
    · injection he with he
      injection he with h1 h2
      subst h1; subst h2
      have := hk.same hM (by simp only [RS.wf])
      rw [ewrap_eq] at this
      simpa only [htd, htd2, RS.iv, RS.vv] using this
    · cases he
  · rename_i htd htd2
    split at he
    · injection he with he
      injection he with h1 h2
      subst h1; subst h2
      have := hk.same hM (by simp only [RS.wf])
      simpa only [htd, htd2, RS.iv, RS.vv] using this
    · cases he
  · rename_i eby ez htd htd2
    split at he
    · rename_i s
      split at he
      · rename_i b h2 hn
        injection he with he
        injection he with h1 h3
        subst h1; subst h3
        simp only [htd, htd2, RS.iv, RS.vv]
        intro bb cap hbb hcap
        have hsz : s.data.toList.length = s.size := Array.length_toList
        have hi := new_n hn
        subst hi
        have := Kt.new (kk := cap) hM hn (rByte_wf _ _) hbb (x := .rows 1 (s.data.toList.map byteEl) false cap) (by simp only [io, rByte_iv, Cx.more, if_true]) (by simp only [SO.len, List.length_map]; omega) hk (by simp only [RS.wf]; omega)
        simp only [RS.iv, RS.vv, Cx.more, if_true, hsz] at this
        exact this
      · cases he
    · cases he
  · rename_i eby ez htd htd2
    split at he
    · rename_i es hes
      split at he
      · rename_i bs hbs
        injection he with he
        injection he with h1 h3
        subst h1; subst h3
        have h4 := bytesR_ok (c := c) hbs
        have := hk.same hM (by simp only [RS.wf])
        simp only [htd, htd2]
        have h5 := eLook_ok hM hx hes
        have h6 : strOf (RS.ivss c es) = ⟨bs.toArray⟩ := by unfold strOf; rw [h4.2]
        have key : ∃ es, vlook 1 σ (x.iv c) = some es ∧ es.all isByte = true ∧ k (.v (.string (strOf es))) σ := ⟨_, h5, h4.1, by rw [h6]; simpa only [RS.iv, RS.vv] using this⟩
        generalize x.iv c = y at key
        cases y <;> exact key
      · cases he
    · cases he
  · cases he
/-! ### new blocks -/
def eAlloc (i : TK) (h : Sto) : Option (RS × Sto) := match h.new (.cells (i.zr.map .v)) with
  | some (b, h') => some (.ptr b 0, h')
  | none => none
theorem eAlloc_ok (hM : Mt σ0 c h σ) {i : TK} (he : eAlloc i h = some (v, h')) (hk : Kt σ0 c h v h' k) : aAlloc (some i) σ k := by
  unfold eAlloc at he
  split at he
  · rename_i b h2 hn
    injection he with he
    injection he with h1 h3
    subst h1; subst h3
    have hi := new_n hn
    subst hi
    intro bb hbb
    have := Kt.new (kk := 0) hM hn (wfs_v _ _) hbb (x := .cells (i.zr.map .v)) (by simp only [io, ivs_v]) (Nat.le_refl _) hk (by simp only [RS.wf]; omega)
    simpa only [RS.iv, RS.vv, Cx.more, if_true] using this
  · cases he
def eBox (x : RS) (h : Sto) : Option (RS × Sto) := gd (x.cells.all RS.one) (match h.new (.cells x.cells) with
  | some (b, h') => some (.ptr b 0, h')
  | none => none)
theorem eBox_ok (hM : Mt σ0 c h σ) {x : RS} (hx : x.wf h.n) (he : eBox x h = some (v, h')) (hk : Kt σ0 c h v h' k) : aBox (x.iv c) σ k := by
  unfold eBox at he
  rw [gd_some] at he
  obtain ⟨hone, he⟩ := he
  split at he
  · rename_i b h2 hn
    injection he with he
    injection he with h1 h3
    subst h1; subst h3
    have hi := new_n hn
    subst hi
    refine ⟨by rw [cells_iv hM.a, ones_iv hM.a]; exact hone, fun bb hbb => ?_⟩
    have hw := cells_wf hx
    have := Kt.new (kk := 0) hM hn hw hbb (x := .cells (x.iv c).cells) (by simp only [io]; rw [ivs_agree (more_agree c h.n bb 0) _ hw, cells_iv hM.a]) (Nat.le_refl _) hk (by simp only [RS.wf]; omega)
    simpa only [RS.iv, RS.vv, Cx.more, if_true] using this
  · cases he
def eMkSl (i : TK) (h : Sto) (l m : RS) : Option (RS × Sto) := match i.td with
  | .sl q eby ez _ => match eNat l, eNat m with
    | some l, some m => gd (Nat.beq l m && Nat.blt 0 q && Nat.blt 0 eby && ez.all Value.oneCell' && Nat.ble (eby * m) 281474976710656) (match h.new (.rows q (List.replicate l (ez.map .v)) false) with
      | some (b, h') => some (.row b l, h')
      | none => none)
    | _, _ => none
  | _ => none
theorem eMkSl_ok (hM : Mt σ0 c h σ) {i : TK} {l m : RS} (he : eMkSl i h l m = some (v, h')) (hk : Kt σ0 c h v h' k) : aMkSl (some i) σ (l.iv c) (m.iv c) k := by
  unfold eMkSl at he
  simp only [aMkSl]
  split at he
  · rename_i q eby ez byt htd
    simp only [htd]
    split at he
    · rename_i l' m' hl hm
      obtain ⟨ik, rfl⟩ := eNat_ok hl
      obtain ⟨ik', rfl⟩ := eNat_ok hm
      rw [gd_some] at he
      simp only [Bool.and_eq_true, beq_iff, blt_iff, ble_iff] at he
      obtain ⟨⟨⟨⟨⟨rfl, h1⟩, h2⟩, h3⟩, h4⟩, he⟩ := he
      split at he
      · rename_i b h5 hn
        injection he with he
        injection he with h6 h7
        subst h6; subst h7
        have hi := new_n hn
        subst hi
        simp only [RS.iv, RS.vv]
        refine ⟨h1, h2, h3, by omega, by omega, by have : ((eby * l' : Nat) : Int) ≤ 281474976710656 := by omega
                                                   simpa using this, fun bb hbb => ?_⟩
        have := Kt.new (kk := l') hM hn (wfss_rep _ _ _) hbb (x := .rows q (List.replicate l' (ez.map .v)) false l') (by simp only [io, ivss_rep, Cx.more, if_true]) (by simp [SO.len]) hk (by simp only [RS.wf]; omega)
        simpa only [RS.iv, RS.vv, Cx.more, if_true, Int.toNat_natCast] using this
      · cases he
    · cases he
  · cases he
/-! ### append -/
def eSrc (q : Nat) (byt : Bool) (h : Sto) : RS → Option (List (List RS))
  | .sl q' es => gd (Nat.beq q' q) (some es)
  | .fsl q' es => gd (Nat.beq q' q) (some es)
  | .v (.slice none 0 0) => some []
  | .v (.string s) => gd (byt && Nat.beq q 1) (some (s.data.toList.map rByte))
  | .row b n => match h.get b with
    | .rows q' es _ => gd (Nat.beq q' q && Nat.ble n es.length) (some (es.take n))
    | _ => none
  | .part b q1 l n => match h.get b with
    | .rows q' es _ => gd (Nat.beq q' q && Nat.beq q1 q && Nat.blt 0 q && Nat.ble (l + n) es.length) (some ((es.drop l).take n))
    | _ => none
  | _ => none
theorem eSrc_ok (hM : Mt σ0 c h σ) {q : Nat} {byt : Bool} {x : RS} {es : List (List RS)} (hx : x.wf h.n) (he : eSrc q byt h x = some es) : src q byt σ (x.iv c) = some (RS.ivss c es) := by
  unfold eSrc at he
  split at he
  · rw [gd_some, beq_iff] at he; obtain ⟨rfl, he⟩ := he; injection he with he; subst he; simp only [RS.iv, src, if_true]
  · rw [gd_some, beq_iff] at he; obtain ⟨rfl, he⟩ := he; injection he with he; subst he; simp only [RS.iv, src, if_true]
  · injection he with he; subst he; rfl
  · rw [gd_some, Bool.and_eq_true, beq_iff] at he
    obtain ⟨⟨h1, h2⟩, he⟩ := he; injection he with he; subst he
    simp only [RS.iv, RS.vv, src, rByte_iv]
    rw [if_pos ⟨h1, h2⟩]
  · rename_i b n
    split at he
    · rename_i q' es' frz hb
      rw [gd_some, Bool.and_eq_true, beq_iff, ble_iff] at he
      obtain ⟨⟨rfl, h1⟩, he⟩ := he
      injection he with he; subst he
      have hbn : b < h.n := by simpa only [RS.wf] using hx
      have h2 := hM.ob b (.rows q' (RS.ivss c es') frz (c.k b)) hbn (by rw [hb]; rfl)
      simp only [RS.iv, RS.vv, src, h2, ivss_len, ← ivss_take, Nat.zero_mod, Nat.zero_div, Nat.zero_add, List.drop_zero]
      rw [if_pos ⟨trivial, trivial, h1⟩]
    · cases he
  · rename_i b q1 l n
    split at he
    · rename_i q' es' frz hb
      simp only [gd_some, Bool.and_eq_true, beq_iff, ble_iff, blt_iff] at he
      obtain ⟨⟨⟨⟨rfl, rfl⟩, hq⟩, h1⟩, he⟩ := he
      injection he with he; subst he
      have hbn : b < h.n := by simpa only [RS.wf] using hx
      have h2 := hM.ob b (.rows q1 (RS.ivss c es') frz (c.k b)) hbn (by rw [hb]; rfl)
      simp only [RS.iv, RS.vv, src, h2, ivss_len, ← ivss_take, ← ivss_drop, Nat.mul_mod_left, Nat.mul_div_cancel _ hq]
      rw [if_pos ⟨trivial, trivial, h1⟩]
    · cases he
  · cases he
theorem eSrc_wf (hS : WfS h) {q : Nat} {byt : Bool} {x : RS} {es : List (List RS)} (hx : x.wf h.n) (he : eSrc q byt h x = some es) : RS.wfss h.n es := by
  unfold eSrc at he
  split at he
  · rw [gd_some] at he; have he := he.2; injection he with he; subst he; simpa only [RS.wf] using hx
  · rw [gd_some] at he; have he := he.2; injection he with he; subst he; simpa only [RS.wf] using hx
  · injection he with he; subst he; simp only [RS.wfss]
  · rw [gd_some] at he; have he := he.2; injection he with he; subst he; exact rByte_wf _ _
  · rename_i b n
    have hbn : b < h.n := by simpa only [RS.wf] using hx
    have hw := hS.ob b hbn
    split at he
    · rename_i q' es' frz hb
      rw [hb] at hw
      rw [gd_some] at he; have he := he.2; injection he with he; subst he
      exact wfss_take _ hw
    · cases he
  · rename_i b q1 l n
    have hbn : b < h.n := by simpa only [RS.wf] using hx
    have hw := hS.ob b hbn
    split at he
    · rename_i q' es' frz hb
      rw [hb] at hw
      rw [gd_some] at he; have he := he.2; injection he with he; subst he
      exact wfss_take _ (wfss_drop _ hw)
    · cases he
  · cases he
end
end Go.Av

/-
  The program logic, part 26: runs that are reckoned: append; whole operations.
  Conditions: none (a library of definitions and lemmas).
-/
namespace Go.Av
open Go Go.RowKit

section
variable {P : Program} {σ0 σ : St} {c c' : Cx} {h h' : Sto} {n : Nat} {fr : Tr RS} {v : RS} {K : AV → Prop} {k : AV → St → Prop}
def eNewRow (q : Nat) (es : List (List RS)) (frz : Bool) (h : Sto) : Option (RS × Sto) := match h.new (.rows q es frz) with
  | some (b, h') => some (.row b es.length, h')
  | none => none
theorem eNewRow_ok (hM : Mt σ0 c h σ) {q : Nat} {es : List (List RS)} {frz : Bool} (hw : RS.wfss h.n es) (he : eNewRow q es frz h = some (v, h')) (hk : Kt σ0 c h v h' k) {bb cap : Nat} (hb : σ bb = none) (hc : es.length ≤ cap) :
    k (.v (.slice (some ⟨bb, 0, none⟩) es.length cap)) (σ.set bb (.rows q (RS.ivss c es) frz cap)) := by
  unfold eNewRow at he
  split at he
  · rename_i b h2 hn
    injection he with he
    injection he with h1 h3
    subst h1; subst h3
    have hi := new_n hn
    subst hi
    have := Kt.new (kk := cap) hM hn hw hb (x := .rows q (RS.ivss c es) frz cap) (by simp only [io]; rw [ivss_agree (more_agree c h.n bb cap) _ hw]; simp only [Cx.more, if_true]) (by simp only [SO.len]; exact hc) hk (by simp only [RS.wf]; omega)
    simpa only [RS.iv, RS.vv, Cx.more, if_true] using this
  · cases he
theorem isE {α : Type} (l : List α) : l.isEmpty = true ↔ l = [] := List.isEmpty_iff
def eAppTo (q eby : Nat) (ys : List (List RS)) (h : Sto) (s : RS) : Option (RS × Sto) := match s with
  | .v (.slice none 0 0) => match ys with
    | [] => some (.v (.slice none 0 0), h)
    | y :: l => gd (Nat.ble ((y :: l).length * eby) 140737488355328) (eNewRow q (y :: l) false h)
  | .fsl q' es => gd (Nat.beq q' q) (match ys with
    | [] => some (.fsl q es, h)
    | y :: l => gd (Nat.ble ((es.length + (y :: l).length) * eby) 140737488355328) (eNewRow q (es ++ (y :: l)) false h))
  | .row b n => match h.get b with
    | .rows q' es frz => gd (Nat.beq q' q && Nat.ble ((n + ys.length) * eby) 140737488355328) (match Nat.beq n es.length with
      | true => eNewRow q (es ++ ys) frz (h.put b .gone)
      | false => match frz with
        | true => none
        | false => gd (Nat.ble (n + ys.length) es.length) (some (.row b (n + ys.length), h.put b (.rows q (es.take n ++ ys ++ es.drop (n + ys.length)) false))))
    | _ => none
  | _ => none
theorem Kt.of_put (hM : Mt σ0 c h σ) {b : Nat} {o : SO} {v : RS} {h2 : Sto} (hb : b < h.n) (hl : ∀ fr ps a b' st pend pls, h.get b ≠ .loop fr ps a b' st pend pls) (hg : h.get b ≠ .gone) (hk : Kt σ0 c h v h2 k) : Kt σ0 c (h.put b o) v h2 k :=
  fun c' σ' h1 h2' h3 h4 h5 => hk c' σ' h1 h2' h3 ((Keep.put hM.wf.lt hb (fun _ _ _ _ _ _ _ e => absurd e (hl _ _ _ _ _ _ _)) (fun e => absurd e hg)).trans h4 (Nat.le_refl _)) h5
theorem eAppTo_ok (hM : Mt σ0 c h σ) {q eby : Nat} {ys : List (List RS)} {s : RS} (hs : s.wf h.n) (hy : RS.wfss h.n ys) (he : eAppTo q eby ys h s = some (v, h')) (hk : Kt σ0 c h v h' k) : aAppTo q eby (RS.ivss c ys) σ (s.iv c) k := by
  unfold eAppTo at he
  split at he
  · simp only [RS.iv, RS.vv, aAppTo]
    split at he
    · injection he with he
      injection he with h1 h2
      subst h1; subst h2
      have := hk.same hM (by simp only [RS.wf])
      exact ⟨fun _ => by simpa only [RS.iv, RS.vv] using this, fun h => absurd rfl h⟩
    · rename_i y l
      rw [gd_some, ble_iff] at he
      refine ⟨(fun h => by simp only [RS.ivss] at h; cases h), fun _ => ⟨by rw [ivss_len]; exact he.1, fun b cap hb hc => ?_⟩⟩
      rw [ivss_len] at hc ⊢
      exact eNewRow_ok hM hy he.2 hk hb hc
  · rename_i q' es
    rw [gd_some, beq_iff] at he
    obtain ⟨rfl, he⟩ := he
    simp only [RS.iv, aAppTo]
    have hes : RS.wfss h.n es := by simpa only [RS.wf] using hs
    split at he
    · injection he with he
      injection he with h1 h2
      subst h1; subst h2
      have := hk.same hM (by simpa only [RS.wf] using hes)
      exact ⟨trivial, fun _ => by simpa only [RS.iv] using this, fun h => absurd rfl h⟩
    · rename_i y l
      rw [gd_some, ble_iff] at he
      refine ⟨trivial, (fun h => by simp only [RS.ivss] at h; cases h), fun _ => ⟨by rw [ivss_len, ivss_len]; exact he.1, fun b cap hb hc => ?_⟩⟩
      have := eNewRow_ok (bb := b) (cap := cap) hM (wfss_app hes hy) he.2 hk hb (by rw [List.length_append]; rwa [ivss_len, ivss_len] at hc)
      rw [ivss_app, List.length_append] at this
      rw [ivss_len, ivss_len]
      exact this
  · rename_i b n
    have hb : b < h.n := by simpa only [RS.wf] using hs
    split at he
    · rename_i q' es frz hg
      rw [gd_some, Bool.and_eq_true, beq_iff, ble_iff] at he
      obtain ⟨⟨rfl, hbd⟩, he⟩ := he
      have hw := hM.wf.ob b hb
      have hcap := hM.cap b hb
      have hne : h.get b ≠ .gone := by rw [hg]; intro e; cases e
      have hob := hM.ob b (.rows q' (RS.ivss c es) frz (c.k b)) hb (by rw [hg]; rfl)
      rw [hg] at hw hcap
      simp only [SO.len] at hcap
      simp only [RS.iv, RS.vv, aAppTo]
      split at he
      · rename_i hn
        rw [beq_iff] at hn
        subst hn
        refine .inr (.inl ⟨trivial, ?_⟩)
        simp only [hob, ivss_len]
        refine ⟨trivial, trivial, trivial, hbd, fun b' cap' hb' hc' => ?_⟩
        have := eNewRow_ok (bb := b') (cap := cap') (hM.del hb hne) (wfss_app hw hy) he (Kt.of_put hM hb (by rw [hg]; intro _ _ _ _ _ _ _ e; cases e) hne hk) hb' (by rw [List.length_append]; exact hc')
        rw [ivss_app, List.length_append] at this
        exact this
      · split at he
        · cases he
        · rw [gd_some, ble_iff] at he
          obtain ⟨hle, he⟩ := he
          injection he with he
          injection he with h1 h2
          subst h1; subst h2
          refine .inr (.inr (.inl ⟨trivial, ?_⟩))
          simp only [hob, ivss_len]
          refine ⟨trivial, by omega, trivial, by omega, hbd, ?_⟩
          have hl2 : (es.take n ++ ys ++ es.drop (n + ys.length)).length = es.length := by simp; omega
          have hM2 := hM.put (o := .rows q' (es.take n ++ ys ++ es.drop (n + ys.length)) false) (x := .rows q' ((RS.ivss c es).take n ++ RS.ivss c ys ++ (RS.ivss c es).drop (n + ys.length)) false (c.k b)) hb hne
            (by simp only [io, ivss_app, ivss_take, ivss_drop]) (wfss_app (wfss_app (wfss_take _ hw) hy) (wfss_drop _ hw)) (by simp only [SO.len, hl2]; exact hcap)
          have := hk c _ (.refl _ _) hM2 (Nat.le_refl _) (.put hM.wf.lt hb (by rw [hg]; intro _ _ _ _ _ _ _ e; cases e) (by rw [hg]; intro e; cases e)) (by simp only [RS.wf]; exact hb)
          simpa only [RS.iv, RS.vv] using this
    · cases he
  · cases he
def eApp (i : TK) (h : Sto) (s x : RS) : Option (RS × Sto) := match i.td with
  | .sl q eby ez byt => gd (Nat.blt 0 q && Nat.blt 0 eby && ez.all Value.oneCell') (match eSrc q byt h x with
    | some ys => eAppTo q eby ys h s
    | none => none)
  | _ => none
theorem eApp_ok (hM : Mt σ0 c h σ) {i : TK} {s x : RS} (hs : s.wf h.n) (hx : x.wf h.n) (he : eApp i h s x = some (v, h')) (hk : Kt σ0 c h v h' k) : aApp (some i) σ (s.iv c) (x.iv c) k := by
  unfold eApp at he
  simp only [aApp]
  split at he
  · rename_i q eby ez byt htd
    simp only [htd]
    rw [gd_some, Bool.and_eq_true, Bool.and_eq_true, blt_iff, blt_iff] at he
    obtain ⟨⟨⟨h1, h2⟩, h3⟩, he⟩ := he
    split at he
    · rename_i ys hys
      exact ⟨h1, h2, h3, _, eSrc_ok hM hx hys, eAppTo_ok hM hs (eSrc_wf hM.wf hx hys) he hk⟩
    · cases he
  · cases he

/-! ### What is cleared -/
def eClr (q : Nat) (ez : List Value) (h : Sto) (b l n : Nat) : Option (RS × Sto) := match h.get b with
  | .rows q' es false => gd (Nat.beq q' q && Nat.blt 0 q && Nat.ble (l + n) es.length && Nat.blt 0 n && ez.all Value.oneCell') (some (.tup [], h.put b (.rows q (es.take l ++ List.replicate n (ez.map .v) ++ es.drop (l + n)) false)))
  | _ => none
def eClear (i : TK) (h : Sto) (x : RS) : Option (RS × Sto) := match i.td with
  | .sl q _ ez _ => match x with
    | .v (.slice none _ _) => some (.tup [], h)
    | .row b n => eClr q ez h b 0 n
    | .part b q1 l n => gd (Nat.beq q1 q) (eClr q ez h b l n)
    | _ => none
  | _ => none
theorem ivss_repv (c : Cx) (n : Nat) (ez : List Value) : RS.ivss c (List.replicate n (ez.map .v)) = List.replicate n (ez.map AV.v) := by
  rw [ivss_map, List.map_replicate, ivs_v]
theorem eClr_ok (hM : Mt σ0 c h σ) {q b l n p cc : Nat} {ez : List Value} (hb : b < h.n) (hp : p = l * q) (he : eClr q ez h b l n = some (v, h')) (hk : Kt σ0 c h v h' k) {ag byt : Bool} {sz eby : Nat} {zr : List Value} :
    aClear (some ⟨ag, sz, zr, .sl q eby ez byt⟩) σ (.v (.slice (some ⟨c.r b, p, none⟩) n cc)) k := by
  unfold eClr at he
  split at he
  · rename_i q' es hg
    simp only [gd_some, Bool.and_eq_true, beq_iff, blt_iff, ble_iff] at he
    obtain ⟨⟨⟨⟨⟨rfl, h1⟩, h2⟩, h3⟩, h4⟩, he⟩ := he
    injection he with he
    injection he with he1 he2
    subst he1; subst he2; subst hp
    have h5 : io c b (h.get b) = some (.rows q' (RS.ivss c es) false (c.k b)) := by rw [hg]; rfl
    have h6 := hM.ob b _ hb h5
    have hw := hM.wf.ob b hb
    have hcap := hM.cap b hb
    rw [hg] at hw hcap
    simp only [SO.len] at hcap
    simp only [aClear]
    rw [if_neg (by omega)]
    simp only [h6, Nat.mul_div_cancel _ h1, ivss_len]
    refine ⟨trivial, h1, Nat.mul_mod_left _ _, h2, h4, ?_⟩
    have e : RS.ivss c (es.take l ++ List.replicate n (ez.map .v) ++ es.drop (l + n)) = (RS.ivss c es).take l ++ List.replicate n (ez.map AV.v) ++ (RS.ivss c es).drop (l + n) := by
      rw [ivss_app, ivss_app, ivss_take, ivss_drop, ivss_repv]
    have hz : RS.wfss h.n (List.replicate n (ez.map RS.v)) := wfss_iff.2 fun x hx => by
      rw [(List.mem_replicate.1 hx).2]; exact wfs_v _ _
    have hM' : Mt σ0 c (h.put b (.rows q' (es.take l ++ List.replicate n (ez.map .v) ++ es.drop (l + n)) false)) (σ.set (c.r b) (.rows q' ((RS.ivss c es).take l ++ List.replicate n (ez.map AV.v) ++ (RS.ivss c es).drop (l + n)) false (c.k b))) :=
      hM.put hb (by rw [hg]; intro e; cases e) (by simp only [io, e]) (wfss_app (wfss_app (wfss_take _ hw) hz) (wfss_drop _ hw)) (by simp only [SO.len, List.length_append, List.length_take, List.length_replicate, List.length_drop]; omega)
    have := hk c _ (.refl _ _) hM' (Nat.le_refl _) (.put hM.wf.lt hb (by rw [hg]; intro _ _ _ _ _ _ _ e; cases e) (by rw [hg]; intro e; cases e)) (by simp only [RS.wf, RS.wfs])
    simpa only [RS.iv, RS.ivs] using this
  · cases he
theorem eClear_ok (hM : Mt σ0 c h σ) {i : TK} {x : RS} (hx : x.wf h.n) (he : eClear i h x = some (v, h')) (hk : Kt σ0 c h v h' k) : aClear (some i) σ (x.iv c) k := by
  obtain ⟨ag, sz, zr, td⟩ := i
  unfold eClear at he
  simp only at he
  split at he
  · split at he
    · injection he with he
      injection he with he1 he2
      subst he1; subst he2
      have := hk c _ (.refl _ _) hM (Nat.le_refl _) (.refl h) (by simp only [RS.wf, RS.wfs])
      simpa only [RS.iv, RS.vv, RS.ivs, aClear] using this
    · rename_i b n
      simp only [RS.wf] at hx
      simp only [RS.iv, RS.vv]
      exact eClr_ok hM hx (p := 0) (by omega) he hk
    · rename_i b q1 l n
      simp only [RS.wf] at hx
      rw [gd_some, beq_iff] at he
      obtain ⟨rfl, he⟩ := he
      simp only [RS.iv, RS.vv]
      exact eClr_ok hM hx rfl he hk
    · cases he
  · cases he

/-! ### Whole operations -/
/-- What is known of a program: its types; what its functions come to; which deferred calls do nothing. -/
structure En where
  ty : Tr TE
  cl : FuncId → List RS → Sto → Option (RS × Sto)
  yl : Nat → List RS → Sto → Option (RS × Sto)
  idle : FuncId → Bool
def En.te (E : En) (t : TypeId) : Option TE := gd (Nat.blt t 1024) (E.ty.get 10 t)
structure EnOk (P : Program) (E : En) : Prop where
  ty : ∀ t e, E.te t = some e → TeOk P t e
  cl : ∀ (f : FuncId) (as : List RS) (h : Sto) (v : RS) (h' : Sto), E.cl f as h = some (v, h') → ∀ σ0 c σ k, Mt σ0 c h σ → RS.wfs h.n as → Kt σ0 c h v h' k → AT P f (RS.ivs c as) σ k
  yl : ∀ (l : Nat) (as : List RS) (h : Sto) (v : RS) (h' : Sto), E.yl l as h = some (v, h') → ∀ σ0 c σ k, Mt σ0 c h σ → RS.wfs h.n as → l < h.n → Kt σ0 c h v h' k → YC P (c.r l) (RS.ivs c as) σ k
  idle : ∀ f, E.idle f = true → (∃ fn, P.funcs[f]? = some fn ∧ fn.body.isSome = true ∧ fn.name ≠ "runtime.NumGoroutine") ∧ ∀ vs, IdleF P f vs
def oOpd (fr : Tr RS) : Option Operand → Option (Option RS)
  | none => some none
  | some x => match eEv fr x with
    | some v => some (some v)
    | none => none
def pureR (h : Sto) : Option RS → Option (RS × Sto)
  | some v => some (v, h)
  | none => none
def eCall (E : En) (c : Call) (fr : Tr RS) (h : Sto) : Option (RS × Sto) := match eEvs fr c.args.toList with
  | none => none
  | some as => match c.callee with
    | .value (.func f) => E.cl f as h
    | .value (.tmp t) => match eEv fr (.tmp t) with
      | some (.fn f fi ca) => gd (fi.all RS.isV && ca.all RS.isV) (E.cl f (fi ++ as ++ ca) h)
      | some (.yld l) => E.yl l as h
      | _ => none
    | .builtin .len => match as, c.argTypes.toList with
      | [x], [t] => match E.te t with
        | some te => pureR h (eLen te.k x)
        | none => none
      | _, _ => none
    | .builtin .append => match as, c.argTypes.toList with
      | [s, x], [t1, t2] => match E.te t1, E.te t2 with
        | some e1, some e2 => match notInt (some e2.k) with
          | true => eApp e1.k h s x
          | false => none
        | _, _ => none
      | _, _ => none
    | .builtin .clear => match as, c.argTypes.toList with
      | [x], [t] => match E.te t with
        | some te => eClear te.k h x
        | none => none
      | _, _ => none
    | _ => none
def eOp (E : En) (o : Op) (fr : Tr RS) (h : Sto) : Option (RS × Sto) := match o with
  | .move x => pureR h (eEv fr x)
  | .assign x => pureR h (eEv fr x)
  | .pick c x y => match eEv fr c, eEv fr x, eEv fr y with
    | some c, some x, some y => pureR h (ePick c x y)
    | _, _, _ => none
  | .alloc t => match E.te t with
    | some te => eAlloc te.k h
    | none => none
  | .box _ x => match eEv fr x with
    | some x => eBox x h
    | none => none
  | .build t ps => match E.te t, eEvp fr ps.toList with
    | some te, some vs => pureR h (eBuild te.k vs)
    | _, _ => none
  | .buildSlice t n ps => match E.te t, eEvp fr ps.toList with
    | some te, some vs => pureR h (eBuildS te.k n vs)
    | _, _ => none
  | .load t x => match E.te t, eEv fr x with
    | some te, some x => pureR h (eLoad te.k h x)
    | _, _ => none
  | .store t x y => match E.te t, eEv fr x, eEv fr y with
    | some te, some x, some y => match eStore te.k h x y with
      | some h' => some (.v undef, h')
      | none => none
    | _, _, _ => none
  | .nilCheck x => match eEv fr x with
    | some x => pureR h (eNil x)
    | none => none
  | .binOp op t x y _ => match E.te t, eEv fr x, eEv fr y with
    | some te, some x, some y => pureR h (eBin op te x y)
    | _, _, _ => none
  | .unOp op _ x => match eEv fr x with
    | some x => pureR h (eUn op x)
    | none => none
  | .convert s d x => match E.te s, E.te d, eEv fr x with
    | some i, some j, some x => eConv i.k j.k h x
    | _, _, _ => none
  | .makeFunc fn fi ca => match eEvs fr fi.toList, eEvs fr ca.toList with
    | some fi, some ca => pureR h (eFunc fn fi ca)
    | _, _ => none
  | .slice t x lo hi mx => match E.te t, eEv fr x, oOpd fr lo, oOpd fr hi, oOpd fr mx with
    | some te, some x, some lo, some hi, some mx => pureR h (eSli te.k h x lo hi mx)
    | _, _, _, _, _ => none
  | .fieldAddr s x f => match E.te s, eEv fr x with
    | some te, some x => pureR h (eFadr te.k f x)
    | _, _ => none
  | .field s x f => match E.te s, eEv fr x with
    | some te, some x => pureR h (eFld te.k f x)
    | _, _ => none
  | .indexAddr t x ix => match E.te t, eEv fr x, eEv fr ix with
    | some te, some x, some ix => pureR h (eIadr te.k x ix)
    | _, _, _ => none
  | .index t x ix => match E.te t, eEv fr x, eEv fr ix with
    | some te, some x, some ix => pureR h (eIdx te.k x ix)
    | _, _, _ => none
  | .extract x j => match eEv fr x with
    | some x => pureR h (eExt x j)
    | none => none
  | .call c => eCall E c fr h
  | .makeSlice t l m => match E.te t, eEv fr l, eEv fr m with
    | some te, some l, some m => eMkSl te.k h l m
    | _, _, _ => none
  | .makeInterface t x => match E.te t, eEv fr x with
    | some te, some x => pureR h (eMkI te t x)
    | _, _ => none
  | .typeAssert x _ u false => match E.te u, eEv fr x with
    | some te, some x => pureR h (eTyA te u x)
    | _, _ => none
  | .defer c => match c.callee, c.args.toList with
    | .value (.tmp t), [] => match eEv fr (.tmp t) with
      | some (.fn f _ _) => gd (E.idle f) (some (.v undef, h))
      | _ => none
    | _, _ => none
  | _ => none
theorem pureR_some {x : Option RS} (he : pureR h x = some (v, h')) : x = some v ∧ h' = h := by
  cases x with
  | none => cases he
  | some y => simp only [pureR, Option.some.injEq, Prod.mk.injEq] at he; exact ⟨by rw [he.1], he.2.symm⟩
theorem oOpd_ok {x : Option Operand} {y : Option RS} (he : oOpd fr x = some y) : x.map (ifr c fr).ev = y.map (RS.iv c) := by
  cases x with
  | none => simp only [oOpd, Option.some.injEq] at he; subst he; rfl
  | some x =>
    simp only [oOpd] at he
    split at he
    · rename_i v hv
      injection he with he; subst he
      simp only [Option.map_some, eEv_ok hv]
    · cases he
theorem eCall_ok {E : En} (hE : EnOk P E) (hM : Mt σ0 c h σ) (hf : wfr h.n fr) {cc : Call} (he : eCall E cc fr h = some (v, h')) (hk : Kt σ0 c h v h' k) : aCallOp P cc (ifr c fr) σ k := by
  obtain ⟨callee, args, ts⟩ := cc
  unfold eCall at he
  simp only at he
  split at he
  · cases he
  · rename_i as has
    have hav : args.toList.map (ifr c fr).ev = RS.ivs c as := by rw [eEvs_ok has, ivs_map]
    have haw := eEvs_wf hf has
    split at he
    · simp only [aCallOp]
      rw [hav]
      exact hE.cl _ _ _ _ _ he σ0 c σ k hM haw hk
    · rename_i t
      simp only [aCallOp]
      rw [hav]
      split at he
      · rename_i f fi ca hx
        have h1 := eEv_ok (c := c) hx
        have h2 := eEv_wf hf hx
        simp only [RS.wf] at h2
        rw [gd_some, Bool.and_eq_true] at he
        have := hE.cl _ _ _ _ _ he.2 σ0 c σ k hM (wfs_app (wfs_app h2.1 haw) h2.2) hk
        simp only [Fr.ev, RS.iv, RS.vv] at h1
        rw [h1]
        have e : ∀ l : List RS, l.all RS.isV = true → (RS.vvs c l).map AV.v = RS.ivs c l := fun l hl => by
          rw [vvs_map, ivs_map, List.map_map]
          exact List.map_congr_left fun x hx => (iv_v (List.all_eq_true.1 hl x hx)).symm
        simp only [aCallV, e fi he.1.1, e ca he.1.2, ← ivs_app]
        exact this
      · rename_i l hx
        have h1 := eEv_ok (c := c) hx
        have h2 := eEv_wf hf hx
        simp only [RS.wf] at h2
        simp only [Fr.ev, RS.iv, RS.vv] at h1
        rw [h1]
        exact ⟨rfl, rfl, hE.yl _ _ _ _ _ he σ0 c σ k hM haw h2 hk⟩
      · cases he
    · split at he
      · rename_i x t hts
        split at he
        · rename_i te hte
          obtain ⟨hq, rfl⟩ := pureR_some he
          replace he := hq
          obtain ⟨x1, hx1⟩ : ∃ x1, args.toList = [x1] := by
            match hl : args.toList, has with
            | [x1], _ => exact ⟨x1, rfl⟩
            | [], has => simp [eEvs] at has
            | a :: b :: l, has =>
              have := congrArg List.length hav
              rw [hl, List.length_map, ivs_len] at this
              simp at this
          rw [hx1] at hav
          simp only [List.map_cons, List.map_nil, RS.ivs, List.cons.injEq, and_true] at hav
          simp only [aCallOp, hx1, hts, (hE.ty _ _ hte).k, hav]
          exact eLen_ok he (hk.same hM (eLen_wf he))
        · cases he
      · cases he
    · split at he
      · rename_i s x t1 t2 hts
        split at he
        · rename_i e1 e2 ht1 ht2
          split at he
          · rename_i hni
            obtain ⟨x1, x2, hx1⟩ : ∃ x1 x2, args.toList = [x1, x2] := by
              have := congrArg List.length hav
              rw [List.length_map, ivs_len] at this
              match hl : args.toList with
              | [x1, x2] => exact ⟨x1, x2, rfl⟩
              | [] => rw [hl] at this; simp at this
              | [_] => rw [hl] at this; simp at this
              | _ :: _ :: _ :: _ => rw [hl] at this; simp at this
            rw [hx1] at hav
            simp only [List.map_cons, List.map_nil, RS.ivs, List.cons.injEq, and_true] at hav
            simp only [RS.wfs, and_true] at haw
            simp only [aCallOp, hx1, hts, (hE.ty _ _ ht1).k, (hE.ty _ _ ht2).k, hav.1, hav.2]
            exact ⟨hni, eApp_ok hM haw.1 haw.2 he hk⟩
          · cases he
        · cases he
      · cases he
    · split at he
      · rename_i x t hts
        split at he
        · rename_i te hte
          obtain ⟨x1, hx1⟩ : ∃ x1, args.toList = [x1] := by
            have := congrArg List.length hav
            rw [List.length_map, ivs_len] at this
            match hl : args.toList with
            | [x1] => exact ⟨x1, rfl⟩
            | [] => rw [hl] at this; simp at this
            | _ :: _ :: _ => rw [hl] at this; simp at this
          rw [hx1] at hav
          simp only [List.map_cons, List.map_nil, RS.ivs, List.cons.injEq, and_true] at hav
          simp only [RS.wfs, and_true] at haw
          simp only [aCallOp, aBI, hx1, hts, List.map_cons, List.map_nil, (hE.ty _ _ hte).k, hav]
          exact eClear_ok hM haw he hk
        · cases he
      · cases he
    · cases he
theorem eOp_ok {E : En} (hE : EnOk P E) (hM : Mt σ0 c h σ) (hf : wfr h.n fr) {o : Op} (he : eOp E o fr h = some (v, h')) (hk : Kt σ0 c h v h' k) : aOp P o (ifr c fr) σ k := by
  cases o with
  | move x =>
    obtain ⟨hq, rfl⟩ := pureR_some he
    replace he := hq
    simp only [aOp, eEv_ok he]
    exact hk.same hM (eEv_wf hf he)
  | assign x =>
    obtain ⟨hq, rfl⟩ := pureR_some he
    replace he := hq
    simp only [aOp, eEv_ok he]
    exact hk.same hM (eEv_wf hf he)
  | pick p x y =>
    simp only [eOp] at he
    split at he
    · rename_i p' x' y' h1 h2 h3
      obtain ⟨hq, rfl⟩ := pureR_some he
      replace he := hq
      simp only [aOp, eEv_ok h1, eEv_ok h2, eEv_ok h3]
      exact ePick_ok he (hk.same hM (ePick_wf (eEv_wf hf h2) (eEv_wf hf h3) he))
    · cases he
  | alloc t =>
    simp only [eOp] at he
    split at he
    · rename_i te hte
      simp only [aOp, (hE.ty _ _ hte).k]
      exact eAlloc_ok hM he hk
    · cases he
  | box t x =>
    simp only [eOp] at he
    split at he
    · rename_i x' h1
      simp only [aOp, eEv_ok h1]
      exact eBox_ok hM (eEv_wf hf h1) he hk
    · cases he
  | build t ps =>
    simp only [eOp] at he
    split at he
    · rename_i te vs hte h1
      obtain ⟨hq, rfl⟩ := pureR_some he
      replace he := hq
      simp only [aOp, (hE.ty _ _ hte).k, eEvp_ok h1]
      exact eBuild_ok hM.a he (hk.same hM (eBuild_wf (eEvp_wf hf h1) he))
    · cases he
  | buildSlice t m ps =>
    simp only [eOp] at he
    split at he
    · rename_i te vs hte h1
      obtain ⟨hq, rfl⟩ := pureR_some he
      replace he := hq
      simp only [aOp, (hE.ty _ _ hte).k, eEvp_ok h1]
      exact eBuildS_ok hM.a he (hk.same hM (eBuildS_wf (eEvp_wf hf h1) he))
    · cases he
  | load t x =>
    simp only [eOp] at he
    split at he
    · rename_i te x' hte h1
      obtain ⟨hq, rfl⟩ := pureR_some he
      replace he := hq
      simp only [aOp, (hE.ty _ _ hte).k, eEv_ok h1]
      exact eLoad_ok hM (eEv_wf hf h1) he (hk.same hM (eLoad_wf hM.wf (eEv_wf hf h1) he))
    · cases he
  | store t x y =>
    simp only [eOp] at he
    split at he
    · rename_i te x' y' hte h1 h2
      split at he
      · rename_i h2' hst
        injection he with he
        injection he with h3 h4
        subst h3; subst h4
        simp only [aOp, (hE.ty _ _ hte).k, eEv_ok h1, eEv_ok h2]
        refine eStore_ok hM (eEv_wf hf h1) (eEv_wf hf h2) hst fun σ' hn hkp hM' => ?_
        have := hk c σ' (.refl _ _) hM' (by omega) hkp (by simp only [RS.wf])
        simpa only [RS.iv, RS.vv] using this
      · cases he
    · cases he
  | nilCheck x =>
    simp only [eOp] at he
    split at he
    · rename_i x' h1
      obtain ⟨hq, rfl⟩ := pureR_some he
      replace he := hq
      simp only [aOp, eEv_ok h1]
      exact eNil_ok he (hk.same hM (eNil_wf (eEv_wf hf h1) he))
    · cases he
  | binOp op t x y ty =>
    simp only [eOp] at he
    split at he
    · rename_i te x' y' hte h1 h2
      obtain ⟨hq, rfl⟩ := pureR_some he
      replace he := hq
      simp only [aOp, eEv_ok h1, eEv_ok h2]
      exact eBin_ok (hE.ty _ _ hte) he (hk.same hM (eBin_wf he))
    · cases he
  | unOp op t x =>
    simp only [eOp] at he
    split at he
    · rename_i x' h1
      obtain ⟨hq, rfl⟩ := pureR_some he
      replace he := hq
      simp only [aOp, eEv_ok h1]
      exact eUn_ok he (hk.same hM (eUn_wf he))
    · cases he
  | convert s d x =>
    simp only [eOp] at he
    split at he
    · rename_i i j x' hi hj h1
      simp only [aOp, (hE.ty _ _ hi).k, (hE.ty _ _ hj).k, eEv_ok h1]
      exact eConv_ok hM (eEv_wf hf h1) he hk
    · cases he
  | makeFunc fn fi ca =>
    simp only [eOp] at he
    split at he
    · rename_i fi' ca' h1 h2
      obtain ⟨hq, rfl⟩ := pureR_some he
      replace he := hq
      simp only [aOp]
      exact eFunc_ok (eEvs_ok h1) (eEvs_ok h2) he (hk.same hM (eFunc_wf (eEvs_wf hf h1) (eEvs_wf hf h2) he))
    · cases he
  | slice t x lo hi mx =>
    simp only [eOp] at he
    split at he
    · rename_i te x' lo' hi' mx' hte h1 h2 h3 h4
      obtain ⟨hq, rfl⟩ := pureR_some he
      replace he := hq
      simp only [aOp, (hE.ty _ _ hte).k, eEv_ok h1, oOpd_ok h2, oOpd_ok h3, oOpd_ok h4]
      exact eSli_ok hM (eEv_wf hf h1) he (hk.same hM (eSli_wf (eEv_wf hf h1) he))
    · cases he
  | fieldAddr s x f =>
    simp only [eOp] at he
    split at he
    · rename_i te x' hte h1
      obtain ⟨hq, rfl⟩ := pureR_some he
      replace he := hq
      simp only [aOp, (hE.ty _ _ hte).k, eEv_ok h1]
      exact eFadr_ok he (hk.same hM (eFadr_wf (eEv_wf hf h1) he))
    · cases he
  | field s x f =>
    simp only [eOp] at he
    split at he
    · rename_i te x' hte h1
      obtain ⟨hq, rfl⟩ := pureR_some he
      replace he := hq
      simp only [aOp, (hE.ty _ _ hte).k, eEv_ok h1]
      exact eFld_ok he (hk.same hM (eFld_wf (eEv_wf hf h1) he))
    · cases he
  | indexAddr t x ix =>
    simp only [eOp] at he
    split at he
    · rename_i te x' y' hte h1 h2
      obtain ⟨hq, rfl⟩ := pureR_some he
      replace he := hq
      simp only [aOp, (hE.ty _ _ hte).k, eEv_ok h1, eEv_ok h2]
      exact eIadr_ok he (hk.same hM (eIadr_wf (eEv_wf hf h1) he))
    · cases he
  | index t x ix =>
    simp only [eOp] at he
    split at he
    · rename_i te x' y' hte h1 h2
      obtain ⟨hq, rfl⟩ := pureR_some he
      replace he := hq
      simp only [aOp, (hE.ty _ _ hte).k, eEv_ok h1, eEv_ok h2]
      exact eIdx_ok he (hk.same hM (eIdx_wf (eEv_wf hf h1) he))
    · cases he
  | extract x j =>
    simp only [eOp] at he
    split at he
    · rename_i x' h1
      obtain ⟨hq, rfl⟩ := pureR_some he
      replace he := hq
      simp only [aOp, eEv_ok h1]
      exact eExt_ok he (hk.same hM (eExt_wf (eEv_wf hf h1) he))
    · cases he
  | call cc => exact eCall_ok hE hM hf he hk
  | makeSlice t l m =>
    simp only [eOp] at he
    split at he
    · rename_i te x' y' hte h1 h2
      simp only [aOp, aMore, (hE.ty _ _ hte).k, eEv_ok h1, eEv_ok h2]
      exact eMkSl_ok hM he hk
    · cases he
  | makeInterface t x =>
    simp only [eOp] at he
    split at he
    · rename_i te x' hte h1
      obtain ⟨hq, rfl⟩ := pureR_some he
      replace he := hq
      simp only [aOp, aMore, eEv_ok h1]
      refine eMkI_ok (hE.ty _ _ hte) he (hk.same hM ?_)
      unfold eMkI at he
      rw [gd_some] at he
      have h2 := he.2
      injection h2 with h2
      subst h2
      simpa only [RS.wf] using eEv_wf hf h1
    · cases he
  | typeAssert x t u ok =>
    cases ok with
    | true => cases he
    | false =>
      simp only [eOp] at he
      split at he
      · rename_i te x' hte h1
        obtain ⟨hq, rfl⟩ := pureR_some he
        replace he := hq
        simp only [aOp, aMore, eEv_ok h1]
        refine eTyA_ok (hE.ty _ _ hte) he (hk.same hM ?_)
        have hw := eEv_wf hf h1
        unfold eTyA at he
        split at he
        · rw [gd_some] at he
          have h2 := he.2
          injection h2 with h2
          subst h2
          simpa only [RS.wf] using hw
        · cases he
      · cases he
  | defer cc =>
    obtain ⟨callee, args, ts⟩ := cc
    simp only [eOp] at he
    split at he
    · rename_i t ha
      split at he
      · rename_i f fi ca h1
        rw [gd_some] at he
        obtain ⟨hi, he⟩ := he
        injection he with he
        injection he with h3 h4
        subst h3; subst h4
        have h5 := eEv_ok (c := c) h1
        simp only [Fr.ev, RS.iv, RS.vv] at h5
        simp only [aOp, aMore, aDefer, ha, h5]
        have h6 := hE.idle f hi
        have := hk.same hM (by simp only [RS.wf])
        exact ⟨h6.1, h6.2 _, by simpa only [RS.iv, RS.vv] using this⟩
      · cases he
    · cases he
  | _ => cases he
end
end Go.Av

/-
  The program logic, part 27: runs that are reckoned: regions, code.
  Conditions: none (a library of definitions and lemmas).
-/
namespace Go.Av
open Go Go.RowKit

/-! ### Are two values the same? -/
def valEq : Value → Value → Bool
  | .int k x, .int k' y => decide (k = k') && ieq x y
  | .bool a, .bool b => match a with
    | true => b
    | false => !b
  | .string x, .string y => beqB x.data.toList y.data.toList
  | .pointer none, .pointer none => true
  | .slice none 0 0, .slice none 0 0 => true
  | .nilFunc, .nilFunc => true
  | .nilIface, .nilIface => true
  | .map none, .map none => true
  | _, _ => false
theorem valEq_ok {x y : Value} (h : valEq x y = true) : x = y := by
  unfold valEq at h
  split at h
  · rw [Bool.and_eq_true, ieq_eq] at h
    rw [of_decide_eq_true h.1, of_decide_eq_true h.2]
  · rename_i a b; cases a <;> cases b <;> first | rfl | cases h
  · rw [beqB_iff, ← ba_eq] at h; rw [h]
  · rfl
  · rfl
  · rfl
  · rfl
  · rfl
  · cases h
mutual
def RS.beq : RS → RS → Bool
  | .v x, .v y => valEq x y
  | .opq i, .opq j => Nat.beq i j
  | .ptr i o, .ptr j p => Nat.beq i j && Nat.beq o p
  | .rp i k j f, .rp i' k' j' f' => Nat.beq i i' && Nat.beq k k' && Nat.beq j j' && Nat.beq f f'
  | .row i n, .row j m => Nat.beq i j && Nat.beq n m
  | .part i q l n, .part i' q' l' n' => Nat.beq i i' && Nat.beq q q' && Nat.beq l l' && Nat.beq n n'
  | .sl k es, .sl k' es' => Nat.beq k k' && RS.beqss es es'
  | .fsl k es, .fsl k' es' => Nat.beq k k' && RS.beqss es es'
  | .fp cs, .fp cs' => RS.beqs cs cs'
  | .agg cs, .agg cs' => RS.beqs cs cs'
  | .tup cs, .tup cs' => RS.beqs cs cs'
  | .fn f a b, .fn f' a' b' => Nat.beq f f' && RS.beqs a a' && RS.beqs b b'
  | .yld l, .yld l' => Nat.beq l l'
  | .ifc t x, .ifc t' x' => Nat.beq t t' && RS.beq x x'
  | .mp i, .mp j => Nat.beq i j
  | _, _ => false
def RS.beqs : List RS → List RS → Bool
  | [], [] => true
  | x :: l, y :: m => RS.beq x y && RS.beqs l m
  | _, _ => false
def RS.beqss : List (List RS) → List (List RS) → Bool
  | [], [] => true
  | x :: l, y :: m => RS.beqs x y && RS.beqss l m
  | _, _ => false
end
mutual
theorem rbeq_ok : ∀ {x y : RS}, RS.beq x y = true → x = y
  | .v x, y, h => by cases y <;> simp only [RS.beq, Bool.false_eq_true] at h; rw [valEq_ok h]
  | .opq i, y, h => by cases y <;> simp only [RS.beq, Bool.false_eq_true, beq_iff] at h; rw [h]
  | .ptr i o, y, h => by cases y <;> simp only [RS.beq, Bool.false_eq_true, Bool.and_eq_true, beq_iff] at h; rw [h.1, h.2]
  | .rp i k j f, y, h => by cases y <;> simp only [RS.beq, Bool.false_eq_true, Bool.and_eq_true, beq_iff] at h; rw [h.1.1.1, h.1.1.2, h.1.2, h.2]
  | .row i n, y, h => by cases y <;> simp only [RS.beq, Bool.false_eq_true, Bool.and_eq_true, beq_iff] at h; rw [h.1, h.2]
  | .part i q l n, y, h => by cases y <;> simp only [RS.beq, Bool.false_eq_true, Bool.and_eq_true, beq_iff] at h; rw [h.1.1.1, h.1.1.2, h.1.2, h.2]
  | .mt i p q, y, h => by cases y <;> simp only [RS.beq, Bool.false_eq_true] at h
  | .sl k es, y, h => by cases y <;> simp only [RS.beq, Bool.false_eq_true, Bool.and_eq_true, beq_iff] at h; rw [h.1, rbeqss_ok h.2]
  | .fsl k es, y, h => by cases y <;> simp only [RS.beq, Bool.false_eq_true, Bool.and_eq_true, beq_iff] at h; rw [h.1, rbeqss_ok h.2]
  | .fp cs, y, h => by cases y <;> simp only [RS.beq, Bool.false_eq_true] at h; rw [rbeqs_ok h]
  | .agg cs, y, h => by cases y <;> simp only [RS.beq, Bool.false_eq_true] at h; rw [rbeqs_ok h]
  | .tup cs, y, h => by cases y <;> simp only [RS.beq, Bool.false_eq_true] at h; rw [rbeqs_ok h]
  | .fn f a b, y, h => by cases y <;> simp only [RS.beq, Bool.false_eq_true, Bool.and_eq_true, beq_iff] at h; rw [h.1.1, rbeqs_ok h.1.2, rbeqs_ok h.2]
  | .yld l, y, h => by cases y <;> simp only [RS.beq, Bool.false_eq_true, beq_iff] at h; rw [h]
  | .ifc t x, y, h => by cases y <;> simp only [RS.beq, Bool.false_eq_true, Bool.and_eq_true, beq_iff] at h; rw [h.1, rbeq_ok h.2]
  | .mp i, y, h => by cases y <;> simp only [RS.beq, Bool.false_eq_true, beq_iff] at h; rw [h]
theorem rbeqs_ok : ∀ {x y : List RS}, RS.beqs x y = true → x = y
  | [], y, h => by cases y <;> simp only [RS.beqs, Bool.false_eq_true] at h; rfl
  | x :: l, y, h => by cases y <;> simp only [RS.beqs, Bool.false_eq_true, Bool.and_eq_true] at h; rw [rbeq_ok h.1, rbeqs_ok h.2]
theorem rbeqss_ok : ∀ {x y : List (List RS)}, RS.beqss x y = true → x = y
  | [], y, h => by cases y <;> simp only [RS.beqss, Bool.false_eq_true] at h; rfl
  | x :: l, y, h => by cases y <;> simp only [RS.beqss, Bool.false_eq_true, Bool.and_eq_true] at h; rw [rbeqs_ok h.1, rbeqss_ok h.2]
end

section
variable {P : Program} {σ0 σ : St} {c c' : Cx} {h h' : Sto} {n : Nat} {fr fr' : Tr RS} {v : RS}
/-! ### Regions -/
def ePut (fr : Tr RS) (d : Option Nat) (v : RS) : Option (Tr RS) := match d with
  | some t => gd (Nat.blt t 1024) (some (fr.set 10 t v))
  | none => some fr
theorem ePut_ok {d : Option Nat} (he : ePut fr d v = some fr') : ifr c fr' = (ifr c fr).put d (v.iv c) := by
  cases d with
  | none => simp only [ePut, Option.some.injEq] at he; subst he; rfl
  | some t =>
    simp only [ePut, gd_some, blt_iff, Option.some.injEq] at he
    obtain ⟨ht, rfl⟩ := he
    funext x
    simp only [Fr.put, Fr.up, ifr]
    by_cases hx : x < 1024
    · rw [if_pos hx, if_pos hx, Tr.get_set 10 _ _ _ _ (by simpa using ht) (by simpa using hx)]
      by_cases e : x = t
      · rw [if_pos e, if_pos e]
      · rw [if_neg e, if_neg e]
    · rw [if_neg hx, if_neg hx, if_neg (by omega)]
theorem ePut_wf {d : Option Nat} (hf : wfr n fr) (hv : v.wf n) (he : ePut fr d v = some fr') : wfr n fr' := by
  cases d with
  | none => simp only [ePut, Option.some.injEq] at he; subst he; exact hf
  | some t =>
    simp only [ePut, gd_some, blt_iff, Option.some.injEq] at he
    obtain ⟨ht, rfl⟩ := he
    intro x w hx hw
    rw [Tr.get_set 10 _ _ _ _ (by simpa using ht) (by simpa using hx)] at hw
    split at hw
    · injection hw with hw; subst hw; exact hv
    · exact hf x w hx hw
def eGd (ds : List (Option Nat)) (fr : Tr RS) : Option (Nat × Bool) → Option Bool
  | none => some true
  | some (j, want) => match ds.getD j none with
    | some d => match eEv fr (.tmp d) with
      | some (.v (.bool true)) => some want
      | some (.v (.bool false)) => some (!want)
      | some (.v (.tuple _)) => some false
      | _ => none
    | none => none
theorem eGd_ok {ds : List (Option Nat)} {g : Option (Nat × Bool)} {A B : Prop} {b : Bool} (he : eGd ds fr g = some b) (hA : b = true → A) (hB : b = false → B) : aGd ds (ifr c fr) g A B := by
  cases g with
  | none => simp only [eGd, Option.some.injEq] at he; subst he; exact hA rfl
  | some g =>
    obtain ⟨j, want⟩ := g
    simp only [eGd] at he
    simp only [aGd]
    split at he
    · rename_i d hd
      simp only [hd]
      split at he
      · rename_i hx
        have := eEv_ok (c := c) hx
        simp only [Fr.ev, RS.iv, RS.vv] at this
        injection he with he
        subst he
        rw [this]
        cases want with
        | true => exact hA rfl
        | false => exact hB rfl
      · rename_i hx
        have := eEv_ok (c := c) hx
        simp only [Fr.ev, RS.iv, RS.vv] at this
        injection he with he
        subst he
        rw [this]
        cases want with
        | true => exact hB rfl
        | false => exact hA rfl
      · rename_i hx
        have := eEv_ok (c := c) hx
        simp only [Fr.ev, RS.iv, RS.vv] at this
        injection he with he
        subst he
        rw [this]
        exact hB rfl
      · cases he
    · cases he
def eOps (E : En) (ds : List (Option Nat)) : List Oper → Tr RS → Sto → Option (Tr RS × Sto)
  | [], fr, h => some (fr, h)
  | o :: r, fr, h => match eGd ds fr o.guard with
    | some true => match eOp E o.op fr h with
      | some (v, h') => match ePut fr o.dst v with
        | some fr' => eOps E ds r fr' h'
        | none => none
      | none => none
    | some false => match ePut fr o.dst (.v undef) with
      | some fr' => eOps E ds r fr' h
      | none => none
    | none => none
/-- What follows, of frames. -/
def Kf (σ0 : St) (c : Cx) (h : Sto) (fr' : Tr RS) (h' : Sto) (K : Fr → St → Prop) : Prop :=
  ∀ c' σ', Agree h.n c c' → Mt σ0 c' h' σ' → h.n ≤ h'.n → Keep h h' → wfr h'.n fr' → K (ifr c' fr') σ'
theorem Kf.then {h1 : Sto} {K : Fr → St → Prop} {c1 : Cx} (hk : Kf σ0 c h fr' h' K) (ha : Agree h.n c c1) (hn : h.n ≤ h1.n) (hkp : Keep h h1) : Kf σ0 c1 h1 fr' h' K :=
  fun c' σ' h1' h2 h3 h4 h5 => hk c' σ' (ha.trans h1' hn) h2 (by omega) (hkp.trans h4 hn) h5
theorem undef_iv (c : Cx) : (RS.v undef).iv c = .v undef := by simp only [RS.iv, RS.vv]
theorem eOps_ok {E : En} (hE : EnOk P E) {ds : List (Option Nat)} {K : Fr → St → Prop} : ∀ {l : List Oper} {fr : Tr RS} {h : Sto} {c : Cx} {σ : St}, eOps E ds l fr h = some (fr', h') → Mt σ0 c h σ → wfr h.n fr → Kf σ0 c h fr' h' K → aOps P ds l K (ifr c fr) σ
  | [], fr, h, c, σ, he, hM, hf, hk => by
    simp only [eOps, Option.some.injEq, Prod.mk.injEq] at he
    obtain ⟨rfl, rfl⟩ := he
    exact hk c σ (.refl _ _) hM (Nat.le_refl _) (.refl h) hf
  | o :: r, fr, h, c, σ, he, hM, hf, hk => by
    simp only [eOps] at he
    simp only [aOps]
    split at he
    · rename_i hg
      refine eGd_ok hg (fun _ => ?_) (fun h => by cases h)
      split at he
      · rename_i v h1 ho
        split at he
        · rename_i fr1 hp
          refine eOp_ok hE hM hf ho fun c1 σ1 ha hM1 hn hkp hv => ?_
          have hf1 := ePut_wf (wfr_mono hn hf) hv hp
          rw [← ifr_agree ha hf, ← ePut_ok hp]
          exact eOps_ok hE he hM1 hf1 (hk.then ha hn hkp)
        · cases he
      · cases he
    · rename_i hg
      refine eGd_ok hg (fun h => by cases h) (fun _ => ?_)
      split at he
      · rename_i fr1 hp
        have := ePut_ok (c := c) hp
        rw [undef_iv] at this
        rw [← this]
        exact eOps_ok hE he hM (ePut_wf hf (by simp only [RS.wf]) hp) hk
      · cases he
    · cases he
/-- A read that was noted. -/
structure Nt where
  i : Nat
  o : Op
  f : Tr RS
  v : RS
def Nt.q (P : Program) (c : Cx) (s : Nt) : Nat × (St → Prop) := (s.i, fun σ => Yl P s.o (ifr c s.f) σ (s.v.iv c))
def eChk1 (E : En) (h : Sto) (i : Nat) : List Nt → Bool
  | [] => true
  | s :: S => (match Nat.beq i s.i with
    | true => match eOp E s.o s.f h with
      | some (v, h') => RS.beq v s.v && Nat.beq h'.n h.n
      | none => false
    | false => true) && eChk1 E h i S
def eChk (E : En) (h : Sto) (S : List Nt) : List Nat → Bool
  | [] => true
  | i :: l => eChk1 E h i S && eChk E h S l
theorem eChk1_ok {E : En} (hE : EnOk P E) (hM : Mt σ0 c h σ) {i : Nat} : ∀ {S : List Nt}, (∀ s ∈ S, cls P s.o ≠ 2 ∧ wfr h.n s.f) → eChk1 E h i S = true → aLk i (S.map (Nt.q P c)) σ
  | [], _, _ => trivial
  | s :: S, hS, he => by
    simp only [eChk1, Bool.and_eq_true] at he
    obtain ⟨he, he2⟩ := he
    refine ⟨fun hi => ?_, eChk1_ok hE hM (fun t ht => hS t (by simp [ht])) he2⟩
    have hi : i = s.i := hi
    rw [beq_iff.2 hi] at he
    simp only at he
    split at he
    · rename_i v h1 ho
      rw [Bool.and_eq_true, beq_iff] at he
      have hv := rbeq_ok he.1
      have hn := he.2
      obtain ⟨hc, hf⟩ := hS s (by simp)
      have h0 := eOp_ok hE hM hf ho (k := fun w _ => w = v.iv c) fun c1 σ1 ha _ _ _ hw => iv_agree ha v (by rw [← hn]; exact hw)
      obtain ⟨w, hw, hy⟩ := aOp_read hc h0
      rw [hw, hv] at hy
      exact hy
    · cases he
theorem eChk_ok {E : En} (hE : EnOk P E) (hM : Mt σ0 c h σ) {S : List Nt} (hS : ∀ s ∈ S, cls P s.o ≠ 2 ∧ wfr h.n s.f) : ∀ {l : List Nat}, eChk E h S l = true → aChk l (S.map (Nt.q P c)) σ
  | [], _ => trivial
  | i :: l, he => by
    simp only [eChk, Bool.and_eq_true] at he
    exact ⟨eChk1_ok hE hM hS he.1, eChk_ok hE hM hS he.2⟩
def ePlan (E : En) (ds : List (Option Nat)) (l : List Oper) : List PS → List Nt → Tr RS → Sto → Option (Tr RS × Sto)
  | [], _, fr, h => some (fr, h)
  | .rd i keep :: r, S, fr, h => match l[i]? with
    | none => none
    | some o => match eGd ds fr o.guard with
      | some true => match eOp E o.op fr h with
        | some (v, h') => match ePut fr o.dst v with
          | some fr' => ePlan E ds l r (match keep with | true => ⟨i, o.op, fr, v⟩ :: S | false => S) fr' h'
          | none => none
        | none => none
      | some false => match ePut fr o.dst (.v undef) with
        | some fr' => ePlan E ds l r S fr' h
        | none => none
      | none => none
  | .ef i chk :: r, S, fr, h => match l[i]? with
    | none => none
    | some o => match eGd ds fr o.guard with
      | some true => match eOp E o.op fr h with
        | some (v, h') => match eChk E h' S chk with
          | true => match ePut fr o.dst v with
            | some fr' => ePlan E ds l r S fr' h'
            | none => none
          | false => none
        | none => none
      | some false => match ePut fr o.dst (.v undef) with
        | some fr' => ePlan E ds l r S fr' h
        | none => none
      | none => none
theorem nt_agree (ha : Agree n c c') {S : List Nt} (hS : ∀ s ∈ S, wfr n s.f ∧ s.v.wf n) : S.map (Nt.q P c') = S.map (Nt.q P c) :=
  List.map_congr_left fun s hs => by
    obtain ⟨h1, h2⟩ := hS s hs
    simp only [Nt.q, ifr_agree ha h1, iv_agree ha s.v h2]
theorem ePlan_ok {E : En} (hE : EnOk P E) {ds : List (Option Nat)} {l : List Oper} {K : Fr → St → Prop} : ∀ {pl : List PS} {S : List Nt} {L : Array Bool} {N : List Nat} {fr : Tr RS} {h : Sto} {c : Cx} {σ : St}, planOk P l.toArray pl L N = true → ePlan E ds l pl S fr h = some (fr', h') →
    (∀ s ∈ S, cls P s.o ≠ 2 ∧ wfr h.n s.f ∧ s.v.wf h.n) → Mt σ0 c h σ → wfr h.n fr → Kf σ0 c h fr' h' K → aPlan P ds l K pl (S.map (Nt.q P c)) (ifr c fr) σ
  | [], S, L, N, fr, h, c, σ, _, he, hS, hM, hf, hk => by
    simp only [ePlan, Option.some.injEq, Prod.mk.injEq] at he
    obtain ⟨rfl, rfl⟩ := he
    exact hk c σ (.refl _ _) hM (Nat.le_refl _) (.refl h) hf
  | .rd i keep :: r, S, L, N, fr, h, c, σ, hpl, he, hS, hM, hf, hk => by
    simp only [ePlan] at he
    simp only [aPlan]
    simp only [planOk, Bool.and_eq_true] at hpl
    obtain ⟨⟨⟨_, hcls⟩, _⟩, hpl⟩ := hpl
    split at he
    · cases he
    · rename_i o ho
      simp only [ho]
      split at he
      · rename_i hg
        refine eGd_ok hg (fun _ => ?_) (fun h => by cases h)
        split at he
        · rename_i v h1 hop
          split at he
          · rename_i fr1 hp
            refine eOp_ok hE hM hf hop fun c1 σ1 ha hM1 hn hkp hv => ?_
            have hf1 := ePut_wf (wfr_mono hn hf) hv hp
            have hS1 : ∀ s ∈ S, cls P s.o ≠ 2 ∧ wfr h1.n s.f ∧ s.v.wf h1.n := fun s hs => ⟨(hS s hs).1, wfr_mono hn (hS s hs).2.1, wf_mono hn _ (hS s hs).2.2⟩
            rw [← nt_agree ha fun s hs => (hS s hs).2]
            have hcl : cls P o.op ≠ 2 := by
              simp only [clsAt, List.getElem?_toArray, ho, Bool.or_eq_true, Bool.and_eq_true, beq_iff_eq] at hcls
              rcases hcls with h | h
              · omega
              · omega
            rw [← ifr_agree ha hf, ← ePut_ok hp]
            cases keep with
            | true => exact ePlan_ok hE (S := ⟨i, o.op, fr, v⟩ :: S) hpl he (fun s hs => by
                rcases List.mem_cons.1 hs with rfl | hs
                · exact ⟨hcl, wfr_mono hn hf, hv⟩
                · exact hS1 s hs) hM1 hf1 (hk.then ha hn hkp)
            | false => exact ePlan_ok hE hpl he hS1 hM1 hf1 (hk.then ha hn hkp)
          · cases he
        · cases he
      · rename_i hg
        refine eGd_ok hg (fun h => by cases h) (fun _ => ?_)
        split at he
        · rename_i fr1 hp
          have := ePut_ok (c := c) hp
          rw [undef_iv] at this
          rw [← this]
          exact ePlan_ok hE hpl he hS hM (ePut_wf hf (by simp only [RS.wf]) hp) hk
        · cases he
      · cases he
  | .ef i chk :: r, S, L, N, fr, h, c, σ, hpl, he, hS, hM, hf, hk => by
    simp only [ePlan] at he
    simp only [aPlan]
    simp only [planOk, Bool.and_eq_true] at hpl
    obtain ⟨_, hpl⟩ := hpl
    split at he
    · cases he
    · rename_i o ho
      simp only [ho]
      split at he
      · rename_i hg
        refine eGd_ok hg (fun _ => ?_) (fun h => by cases h)
        split at he
        · rename_i v h1 hop
          split at he
          · rename_i hch
            split at he
            · rename_i fr1 hp
              refine eOp_ok hE hM hf hop fun c1 σ1 ha hM1 hn hkp hv => ?_
              have hf1 := ePut_wf (wfr_mono hn hf) hv hp
              have hS1 : ∀ s ∈ S, cls P s.o ≠ 2 ∧ wfr h1.n s.f ∧ s.v.wf h1.n := fun s hs => ⟨(hS s hs).1, wfr_mono hn (hS s hs).2.1, wf_mono hn _ (hS s hs).2.2⟩
              rw [← nt_agree ha fun s hs => (hS s hs).2]
              refine ⟨eChk_ok hE hM1 (fun s hs => ⟨(hS1 s hs).1, (hS1 s hs).2.1⟩) hch, ?_⟩
              rw [← ifr_agree ha hf, ← ePut_ok hp]
              exact ePlan_ok hE hpl he hS1 hM1 hf1 (hk.then ha hn hkp)
            · cases he
          · cases he
        · cases he
      · rename_i hg
        refine eGd_ok hg (fun h => by cases h) (fun _ => ?_)
        split at he
        · rename_i fr1 hp
          have := ePut_ok (c := c) hp
          rw [undef_iv] at this
          rw [← this]
          exact ePlan_ok hE hpl he hS hM (ePut_wf hf (by simp only [RS.wf]) hp) hk
        · cases he
      · cases he
end
end Go.Av

/-
  The program logic, part 28: runs that are reckoned: code, functions, programs.
  Conditions: none (a library of definitions and lemmas).
-/
namespace Go.Av
open Go Go.RowKit

abbrev ER := Option (AEx × Tr RS × Sto)
def eLoop (b : Tr RS → Sto → ER) : Nat → Tr RS → Sto → ER
  | 0, _, _ => none
  | m + 1, fr, h => match b fr h with
    | some (.normal, fr', h') => eLoop b m fr' h'
    | r => r
def pFind (id : Nat) : Pls → Option (List PS)
  | [] => none
  | (i, p) :: l => match Nat.beq i id with
    | true => some p
    | false => pFind id l
/-- The orders of the drawn regions are good. -/
def plsOk (P : Program) (pls : Pls) : Code → Bool
  | .region id ops true => match pFind id pls with
    | some pl => pl.length == ops.toList.length && planOk P ops.toList.toArray pl (Array.replicate ops.toList.length false) []
    | none => false
  | .seq x y => plsOk P pls x && plsOk P pls y
  | .cond _ x y => plsOk P pls x && plsOk P pls y
  | .block _ x => plsOk P pls x
  | .loop x => plsOk P pls x
  | .scope x => plsOk P pls x
  | .rangeFunc _ _ x y => plsOk P pls x && plsOk P pls y
  | _ => true
def eRange (E : En) (pls : Pls) (g : RS) (ps : List Nat) (assign body : Code) (fr : Tr RS) (h : Sto) : ER := match g with
  | .fn f fi ca => gd (fi.all RS.isV && ca.all RS.isV) (match h.new (.loop fr ps assign body .ready none pls) with
    | some (l, h1) => match E.cl f (fi ++ [.yld l] ++ ca) h1 with
      | some (_, h2) => match h2.get l with
        | .loop _ _ _ _ st pend _ => match st with
          | .busy => none
          | _ => match pend with
            | none => some (.normal, fr, h2.put l .gone)
            | some .ret => some (.ret, fr, h2.put l .gone)
            | some (.exit id) => some (.exit id, fr, h2.put l .gone)
            | _ => none
        | _ => none
      | none => none
    | none => none)
  | _ => none
def eCode (E : En) (lf : Nat) (pls : Pls) : Code → Tr RS → Sto → ER
  | .skip, fr, h => some (.normal, fr, h)
  | .region id ops false, fr, h => match eOps E (dsts ops) ops.toList fr h with
    | some (fr', h') => some (.normal, fr', h')
    | none => none
  | .region id ops true, fr, h => match pFind id pls with
    | some pl => match ePlan E (ops.toList.map (·.dst)) ops.toList pl [] fr h with
      | some (fr', h') => some (.normal, fr', h')
      | none => none
    | none => none
  | .seq x y, fr, h => match eCode E lf pls x fr h with
    | some (.normal, fr', h') => eCode E lf pls y fr' h'
    | r => r
  | .cond q x y, fr, h => match eEv fr q with
    | some (.v (.bool true)) => eCode E lf pls x fr h
    | some (.v (.bool false)) => eCode E lf pls y fr h
    | _ => none
  | .block id x, fr, h => match eCode E lf pls x fr h with
    | some (.exit j, fr', h') => match Nat.beq j id with
      | true => some (.normal, fr', h')
      | false => some (.exit j, fr', h')
    | r => r
  | .loop x, fr, h => eLoop (eCode E lf pls x) lf fr h
  | .exit id, fr, h => some (.exit id, fr, h)
  | .scope x, fr, h => match eCode E lf pls x fr h with
    | some (.goto _, _, _) => none
    | r => r
  | .ret, fr, h => some (.ret, fr, h)
  | .label _, fr, h => some (.normal, fr, h)
  | .rangeFunc g ps assign body, fr, h => match eEv fr g with
    | some g => eRange E pls g ps.toList assign body fr h
    | none => none
  | _, _, _ => none

section
variable {P : Program} {σ0 σ : St} {c c' : Cx} {h h' : Sto} {n : Nat} {fr fr' : Tr RS} {v : RS}
theorem eLoop_ok {x : Code} {b : Tr RS → Sto → ER}
    (hb : ∀ (e : AEx) (fr : Tr RS) (h : Sto) (fr' : Tr RS) (h' : Sto) (c : Cx) (σ : St) (K : AK), b fr h = some (e, fr', h') → Mt σ0 c h σ → wfr h.n fr → Kf σ0 c h fr' h' (K e) → aCode P x K (ifr c fr) σ) {K : AK} {e : AEx} (hn : e ≠ .normal) :
    ∀ {m : Nat} {fr : Tr RS} {h : Sto} {c : Cx} {σ : St}, eLoop b m fr h = some (e, fr', h') → Mt σ0 c h σ → wfr h.n fr → Kf σ0 c h fr' h' (K e) → aLoopN P x K m (ifr c fr) σ
  | 0, fr, h, c, σ, he, _, _, _ => by cases he
  | m + 1, fr, h, c, σ, he, hM, hf, hk => by
    simp only [eLoop] at he
    show aCode P x (AK.then (aLoopN P x K m) K) (ifr c fr) σ
    split at he
    · rename_i fr1 h1 hb1
      refine hb _ _ _ _ _ c σ _ hb1 hM hf fun c1 σ1 ha hM1 hn1 hkp hf1 => ?_
      exact eLoop_ok hb hn he hM1 hf1 (hk.then ha hn1 hkp)
    · rename_i hne
      rw [he] at hne
      refine hb _ _ _ _ _ c σ _ he hM hf fun c1 σ1 ha hM1 hn1 hkp hf1 => ?_
      have := hk c1 σ1 ha hM1 hn1 hkp hf1
      cases e with
      | normal => exact absurd rfl hn
      | _ => exact this
theorem eLoop_end {b : Tr RS → Sto → ER} {e : AEx} : ∀ {m : Nat} {fr : Tr RS} {h : Sto}, eLoop b m fr h = some (e, fr', h') → e ≠ .normal
  | 0, fr, h, he => by cases he
  | m + 1, fr, h, he => by
    simp only [eLoop] at he
    split at he
    · exact eLoop_end he
    · rename_i hne
      intro h2
      subst h2
      exact hne _ _ he
theorem eRange_ok {E : En} (hE : EnOk P E) {pls : Pls} {g : RS} {ps : List Nat} {assign body : Code} {K : AK} {e : AEx} (hM : Mt σ0 c h σ) (hf : wfr h.n fr) (hg : g.wf h.n) (he : eRange E pls g ps assign body fr h = some (e, fr', h')) (hk : Kf σ0 c h fr' h' (K e)) :
    aRange P (g.iv c) ps assign body K (ifr c fr) σ := by
  unfold eRange at he
  split at he
  · rename_i f fi ca
    rw [gd_some, Bool.and_eq_true] at he
    obtain ⟨hv, he⟩ := he
    split at he
    · rename_i l h1 hnew
      split at he
      · rename_i r h2 hcl
        have hl := new_n hnew
        subst hl
        simp only [RS.iv, RS.vv, aRange]
        intro nn b hb hbx
        have hag := more_agree c h.n b nn
        have hfr := ifr_agree hag hf
        obtain ⟨_, hn1, hM1⟩ := hM.new (k := nn) (x := .loop (ifr c fr) nn ps assign body .ready none) hb hnew (by simp only [io]; rw [hfr]; simp only [Cx.more, if_true]) hf (Nat.zero_le _)
        simp only [RS.wf] at hg
        have e1 : ∀ l : List RS, l.all RS.isV = true → RS.wfs h.n l → (RS.vvs c l).map AV.v = RS.ivs (c.more h.n b nn) l := fun l hl hw => by
          rw [ivs_agree hag l hw, vvs_map, ivs_map, List.map_map]
          exact List.map_congr_left fun x hx => (iv_v (List.all_eq_true.1 hl x hx)).symm
        have hargs : (RS.vvs c fi).map AV.v ++ [AV.v (.func (.yield b) #[] #[])] ++ (RS.vvs c ca).map AV.v = RS.ivs (c.more h.n b nn) (fi ++ [.yld h.n] ++ ca) := by
          rw [e1 fi hv.1 hg.1, e1 ca hv.2 hg.2, ivs_app, ivs_app]
          simp only [RS.ivs, RS.iv, RS.vv, Cx.more, if_true]
        have hwa : RS.wfs h1.n (fi ++ [.yld h.n] ++ ca) := by
          rw [hn1]
          refine wfs_app (wfs_app (wfs_mono (by omega) _ hg.1) ?_) (wfs_mono (by omega) _ hg.2)
          simp only [RS.wfs, RS.wf, and_true]; omega
        have hlg : h1.get h.n = .loop fr ps assign body .ready none pls := by
          unfold Sto.new at hnew
          rw [gd_some, blt_iff] at hnew
          obtain ⟨hlt, hnew⟩ := hnew
          injection hnew with hnew
          injection hnew with _ h3
          subst h3
          have := Sto.get_put (h := h) (o := .loop fr ps assign body .ready none pls) hlt hlt
          rw [if_pos rfl] at this
          exact this
        have hkn := Keep.new hnew
        rw [hargs]
        refine hE.cl _ _ _ _ _ hcl σ0 _ _ _ hM1 hwa fun c2 σ2 ha2 hM2 hn2 hkp2 hr => ?_
        have hrb : c2.r h.n = b := by rw [ha2.r h.n (by omega)]; simp [Cx.more]
        have hknn : c2.k h.n = nn := by rw [ha2.k h.n (by omega)]; simp [Cx.more]
        have hag2 : Agree h.n c c2 := hag.trans ha2 (by omega)
        split at he
        · rename_i fr3 ps3 a3 b3 st pend pls3 hget
          rcases hkp2.lp h.n fr ps assign body .ready none pls (by omega) hlg with hgone | ⟨st', pend', hget'⟩
          · rw [hgone] at hget; cases hget
          rw [hget'] at hget
          injection hget with q1 q2 q3 q4 q5 q6 q7
          subst q1; subst q2; subst q3; subst q4; subst q5; subst q6; subst q7
          have hfr2 := ifr_agree hag2 hf
          have hob := hM2.ob h.n (.loop (ifr c fr) nn ps assign body st' pend') (by omega) (by rw [hget']; simp only [io, hfr2, hknn])
          rw [hrb] at hob
          have hne : h2.get h.n ≠ .gone := by rw [hget']; intro e; cases e
          have hM3 := hM2.del (i := h.n) (by omega) hne
          rw [hrb] at hM3
          have hkd : Keep h2 (h2.put h.n .gone) := .put hM2.wf.lt (by omega) (fun _ _ _ _ _ _ _ _ => .inl rfl) (fun _ => rfl)
          have hfin : ∀ e, (h' = h2.put h.n .gone ∧ fr' = fr) → Kf σ0 c h fr' h' (K e) → K e (ifr c fr) (σ2.del b) := fun e ⟨e1, e2⟩ hk => by
            subst e1; subst e2
            have := hk c2 _ hag2 hM3 (by show h.n ≤ h2.n; omega) ((hkn.trans hkp2 (by omega)).trans hkd (by omega)) (wfr_mono (by show h.n ≤ h2.n; omega) hf)
            rw [hfr2] at this
            exact this
          simp only [aAfter, hob]
          split at he
          · cases he
          · rename_i hst
            refine ⟨hst, ?_⟩
            unfold aPend
            split at he
            · injection he with he
              injection he with h3 h4
              injection h4 with h4 h5
              subst h3
              exact hfin _ ⟨h5.symm, h4.symm⟩ hk
            · injection he with he
              injection he with h3 h4
              injection h4 with h4 h5
              subst h3
              exact hfin _ ⟨h5.symm, h4.symm⟩ hk
            · injection he with he
              injection he with h3 h4
              injection h4 with h4 h5
              subst h3
              exact hfin _ ⟨h5.symm, h4.symm⟩ hk
            · cases he
        · cases he
      · cases he
    · cases he
  · cases he
theorem eCode_ok {E : En} (hE : EnOk P E) (hm : P.follows .mixedOrders = true) {lf : Nat} {pls : Pls} : ∀ (x : Code) {K : AK} {e : AEx} {fr fr' : Tr RS} {h h' : Sto} {c : Cx} {σ : St}, plsOk P pls x = true → eCode E lf pls x fr h = some (e, fr', h') → Mt σ0 c h σ → wfr h.n fr → Kf σ0 c h fr' h' (K e) → aCode P x K (ifr c fr) σ
  | .skip, K, e, fr, fr', h, h', c, σ, hp, he, hM, hf, hk => by
    simp only [eCode, Option.some.injEq, Prod.mk.injEq] at he
    obtain ⟨rfl, rfl, rfl⟩ := he
    exact hk c σ (.refl _ _) hM (Nat.le_refl _) (.refl h) hf
  | .region id ops false, K, e, fr, fr', h, h', c, σ, hp, he, hM, hf, hk => by
    simp only [eCode] at he
    split at he
    · rename_i fr1 h1 ho
      injection he with he
      injection he with h3 h4
      injection h4 with h4 h5
      subst h3; subst h4; subst h5
      simp only [aCode]
      exact eOps_ok hE ho hM hf hk
    · cases he
  | .region id ops true, K, e, fr, fr', h, h', c, σ, hp, he, hM, hf, hk => by
    simp only [eCode] at he
    simp only [plsOk] at hp
    split at he
    · rename_i pl hpl
      rw [hpl] at hp
      simp only [Bool.and_eq_true] at hp
      split at he
      · rename_i fr1 h1 ho
        injection he with he
        injection he with h3 h4
        injection h4 with h4 h5
        subst h3; subst h4; subst h5
        simp only [aCode]
        have e1 : ops = ops.toList.toArray := by simp
        rw [e1]
        exact aDraw_plan pl hm hp.1 hp.2 (ePlan_ok hE (S := []) hp.2 ho (fun s hs => by cases hs) hM hf hk)
      · cases he
    · cases he
  | .seq x y, K, e, fr, fr', h, h', c, σ, hp, he, hM, hf, hk => by
    simp only [plsOk, Bool.and_eq_true] at hp
    simp only [eCode] at he
    simp only [aCode]
    split at he
    · rename_i fr1 h1 h2
      refine eCode_ok hE hm x hp.1 h2 hM hf fun c1 σ1 ha hM1 hn1 hkp hf1 => ?_
      exact eCode_ok hE hm y hp.2 he hM1 hf1 (hk.then ha hn1 hkp)
    · rename_i hne
      refine eCode_ok hE hm x hp.1 he hM hf fun c1 σ1 ha hM1 hn1 hkp hf1 => ?_
      have := hk c1 σ1 ha hM1 hn1 hkp hf1
      cases e with
      | normal => exact absurd he (hne _ _)
      | _ => exact this
  | .cond q x y, K, e, fr, fr', h, h', c, σ, hp, he, hM, hf, hk => by
    simp only [plsOk, Bool.and_eq_true] at hp
    simp only [eCode] at he
    simp only [aCode]
    split at he
    · rename_i hq
      have := eEv_ok (c := c) hq
      simp only [RS.iv, RS.vv] at this
      rw [this]
      exact eCode_ok hE hm x hp.1 he hM hf hk
    · rename_i hq
      have := eEv_ok (c := c) hq
      simp only [RS.iv, RS.vv] at this
      rw [this]
      exact eCode_ok hE hm y hp.2 he hM hf hk
    · cases he
  | .block id x, K, e, fr, fr', h, h', c, σ, hp, he, hM, hf, hk => by
    simp only [plsOk] at hp
    simp only [eCode] at he
    simp only [aCode]
    split at he
    · rename_i j fr1 h1 h2
      split at he
      · rename_i hj
        rw [beq_iff] at hj
        injection he with he
        injection he with h3 h4
        injection h4 with h4 h5
        subst h3; subst h4; subst h5
        refine eCode_ok hE hm x hp h2 hM hf fun c1 σ1 ha hM1 hn1 hkp hf1 => ?_
        show (if j = id then _ else _)
        rw [if_pos hj]
        exact hk c1 σ1 ha hM1 hn1 hkp hf1
      · rename_i hj
        injection he with he
        injection he with h3 h4
        injection h4 with h4 h5
        subst h3; subst h4; subst h5
        refine eCode_ok hE hm x hp h2 hM hf fun c1 σ1 ha hM1 hn1 hkp hf1 => ?_
        show (if j = id then _ else _)
        rw [if_neg (fun e => by rw [beq_iff.2 e] at hj; cases hj)]
        exact hk c1 σ1 ha hM1 hn1 hkp hf1
    · rename_i hne
      refine eCode_ok hE hm x hp he hM hf fun c1 σ1 ha hM1 hn1 hkp hf1 => ?_
      have := hk c1 σ1 ha hM1 hn1 hkp hf1
      cases e with
      | exit j => exact absurd he (hne _ _ _)
      | _ => exact this
  | .loop x, K, e, fr, fr', h, h', c, σ, hp, he, hM, hf, hk => by
    simp only [plsOk] at hp
    simp only [eCode] at he
    simp only [aCode]
    refine aLoop_few lf ?_
    exact eLoop_ok (fun e fr h fr' h' c σ K h1 h2 h3 h4 => eCode_ok hE hm x hp h1 h2 h3 h4) (eLoop_end he) he hM hf hk
  | .exit id, K, e, fr, fr', h, h', c, σ, hp, he, hM, hf, hk => by
    simp only [eCode, Option.some.injEq, Prod.mk.injEq] at he
    obtain ⟨rfl, rfl, rfl⟩ := he
    exact hk c σ (.refl _ _) hM (Nat.le_refl _) (.refl h) hf
  | .scope x, K, e, fr, fr', h, h', c, σ, hp, he, hM, hf, hk => by
    simp only [plsOk] at hp
    simp only [eCode] at he
    simp only [aCode]
    split at he
    · cases he
    · rename_i hne
      refine eCode_ok hE hm x hp he hM hf fun c1 σ1 ha hM1 hn1 hkp hf1 => ?_
      have := hk c1 σ1 ha hM1 hn1 hkp hf1
      cases e with
      | goto j => exact absurd he (hne _ _ _)
      | _ => exact this
  | .ret, K, e, fr, fr', h, h', c, σ, hp, he, hM, hf, hk => by
    simp only [eCode, Option.some.injEq, Prod.mk.injEq] at he
    obtain ⟨rfl, rfl, rfl⟩ := he
    exact hk c σ (.refl _ _) hM (Nat.le_refl _) (.refl h) hf
  | .label _, K, e, fr, fr', h, h', c, σ, hp, he, hM, hf, hk => by
    simp only [eCode, Option.some.injEq, Prod.mk.injEq] at he
    obtain ⟨rfl, rfl, rfl⟩ := he
    exact hk c σ (.refl _ _) hM (Nat.le_refl _) (.refl h) hf
  | .rangeFunc g ps assign body, K, e, fr, fr', h, h', c, σ, hp, he, hM, hf, hk => by
    simp only [eCode] at he
    simp only [aCode]
    split at he
    · rename_i g' hg
      rw [eEv_ok hg]
      exact eRange_ok hE hM hf (eEv_wf hf hg) he hk
    · cases he
  | .goto _, K, e, fr, fr', h, h', c, σ, hp, he, hM, hf, hk => by simp only [eCode] at he; cases he
  | .refuse _, K, e, fr, fr', h, h', c, σ, hp, he, hM, hf, hk => by simp only [eCode] at he; cases he

/-! ### Functions -/
structure FE where
  fn : Func
  pls : Pls
def chkFe (P : Program) (fe : FE) : Bool := match fe.fn.body with
  | some c => okCode fe.fn.ntmps c && fe.fn.results.toList.all (fun q => decide (tmpOf q < fe.fn.ntmps)) && plsOk P fe.pls c
  | none => false
structure FeOk (P : Program) (f : FuncId) (fe : FE) : Prop where
  fn : P.funcs[f]? = some fe.fn
  nm : fe.fn.name ≠ "runtime.NumGoroutine"
  ok : chkFe P fe = true
def enterT : List RS → Nat → Tr RS → Tr RS
  | [], _, t => t
  | x :: l, i, t => enterT l (i + 1) (t.set 10 i x)
theorem enterT_get : ∀ {l : List RS} {i : Nat} {t : Tr RS} {j : Nat}, i + l.length ≤ 1024 → j < 1024 → (enterT l i t).get 10 j = if i ≤ j ∧ j < i + l.length then l[j - i]? else t.get 10 j
  | [], i, t, j, hi, hj => by simp only [enterT, List.length_nil, Nat.add_zero]; rw [if_neg (by omega)]
  | x :: l, i, t, j, hi, hj => by
    simp only [List.length_cons] at hi
    simp only [enterT, List.length_cons]
    rw [enterT_get (by omega) hj, Tr.get_set 10 _ _ _ _ (by simp; omega) (by simpa using hj)]
    by_cases h1 : j = i
    · subst h1
      rw [if_neg (by omega), if_pos rfl, if_pos (by omega)]
      simp
    · by_cases h2 : i + 1 ≤ j ∧ j < i + 1 + l.length
      · rw [if_pos h2, if_pos (by omega)]
        obtain ⟨k, hk⟩ : ∃ k, j - i = k + 1 := ⟨j - i - 1, by omega⟩
        rw [hk, show j - (i + 1) = k by omega]
        simp
      · rw [if_neg h2, if_neg h1, if_neg (by omega)]
theorem tre_get (j : Nat) : (Tr.e : Tr RS).get 10 j = none := rfl
theorem enter_iv {as : List RS} (h : as.length ≤ 1024) : ifr c (enterT as 0 .e) = enterFr (RS.ivs c as) := by
  funext j
  simp only [ifr, enterFr]
  by_cases hj : j < 1024
  · rw [if_pos hj, enterT_get (by omega) hj, tre_get]
    by_cases h2 : j < as.length
    · rw [if_pos (by omega), Nat.sub_zero]
      obtain ⟨x, hx⟩ : ∃ x, as[j]? = some x := ⟨as[j], by simp [h2]⟩
      rw [hx, ivs_getD hx]
    · rw [if_neg (by omega), List.getD_eq_getElem?_getD, List.getElem?_eq_none (by rw [ivs_len]; omega)]
      rfl
  · rw [if_neg hj, List.getD_eq_getElem?_getD, List.getElem?_eq_none (by rw [ivs_len]; omega)]
    rfl
theorem enter_wf {as : List RS} (h : as.length ≤ 1024) (hw : RS.wfs n as) : wfr n (enterT as 0 .e) := by
  intro j v hj hv
  rw [enterT_get (by omega) hj, tre_get] at hv
  split at hv
  · exact wfs_get hw hv
  · cases hv
def eRes1 (E : En) (fr : Tr RS) (h : Sto) : ResultVar → Option RS
  | .tmp t => eEv fr (.tmp t)
  | .cell b t => match E.te t, eEv fr (.tmp b) with
    | some te, some (.ptr i 0) => match h.get i with
      | .cells cs => eTake te.k.ag te.k.sz 0 cs
      | _ => none
    | _, _ => none
def eResL (E : En) (fr : Tr RS) (h : Sto) : List ResultVar → Option (List RS)
  | [] => some []
  | q :: l => match eRes1 E fr h q with
    | some x => match eResL E fr h l with
      | some xs => some (x :: xs)
      | none => none
    | none => none
def oneS : List RS → RS
  | [x] => x
  | l => .tup l
theorem oneS_iv (l : List RS) : (oneS l).iv c = oneR (RS.ivs c l) := by
  match l with
  | [] => simp only [oneS, RS.iv, RS.ivs, oneR]
  | [x] => simp only [oneS, RS.ivs, oneR]
  | x :: y :: l => simp only [oneS, RS.iv, RS.ivs, oneR]
theorem oneS_wf {l : List RS} (h : RS.wfs n l) : (oneS l).wf n := by
  match l, h with
  | [], h => simpa only [oneS, RS.wf] using h
  | [x], h => simp only [RS.wfs] at h; exact h.1
  | x :: y :: l, h => simpa only [oneS, RS.wf] using h
theorem eRes1_ok {E : En} (hE : EnOk P E) (hM : Mt σ0 c h σ) (hf : wfr h.n fr) {q : ResultVar} (he : eRes1 E fr h q = some v) : aRes1 P (ifr c fr) σ q = some (v.iv c) ∧ v.wf h.n := by
  cases q with
  | tmp t => simp only [eRes1] at he; exact ⟨congrArg some (eEv_ok he), eEv_wf hf he⟩
  | cell b t =>
    simp only [eRes1] at he
    split at he
    · rename_i te i hte hb
      split at he
      · rename_i cs hg
        have h1 := eEv_ok (c := c) hb
        have h2 := eEv_wf hf hb
        simp only [RS.wf] at h2
        simp only [Fr.ev, RS.iv, RS.vv] at h1
        have h3 := hM.ob i (.cells (RS.ivs c cs)) h2 (by rw [hg]; rfl)
        have hw := hM.wf.ob i h2
        rw [hg] at hw
        refine ⟨?_, eTake_wf hw he⟩
        have := eTake_ok (c := c) (K := fun a => a = v.iv c) he rfl
        unfold aPart at this
        simp only [aRes1, (hE.ty _ _ hte).k, aResC, h1, h3]
        cases hag : te.k.ag with
        | true =>
          rw [hag] at this
          simp only [if_true, Nat.zero_add, List.drop_zero] at this ⊢
          rw [if_pos this.1, this.2]
        | false =>
          rw [hag] at this
          simp only [Bool.false_eq_true, if_false] at this ⊢
          rw [if_pos this.1, this.2]
      · cases he
    · cases he
theorem eResL_ok {E : En} (hE : EnOk P E) (hM : Mt σ0 c h σ) (hf : wfr h.n fr) : ∀ {l : List ResultVar} {vs : List RS}, eResL E fr h l = some vs → aResL P (ifr c fr) σ l = some (RS.ivs c vs) ∧ RS.wfs h.n vs
  | [], vs, he => by simp only [eResL, Option.some.injEq] at he; subst he; exact ⟨rfl, by simp only [RS.wfs]⟩
  | q :: l, vs, he => by
    simp only [eResL] at he
    split at he
    · rename_i x hx
      split at he
      · rename_i xs hxs
        injection he with he
        subst he
        have h1 := eRes1_ok hE hM hf hx
        have h2 := eResL_ok hE hM hf hxs
        simp only [aResL, h1.1, h2.1, RS.ivs, RS.wfs]
        exact ⟨trivial, h1.2, h2.2⟩
      · cases he
    · cases he
def eFun (E : En) (lf : Nat) (fe : FE) (as : List RS) (h : Sto) : Option (RS × Sto) := gd (Nat.ble as.length 1024 && Nat.ble as.length fe.fn.ntmps) (match fe.fn.body with
  | some c => match eCode E lf fe.pls c (enterT as 0 .e) h with
    | some (.normal, fr', h') => match eResL E fr' h' fe.fn.results.toList with
      | some vs => some (oneS vs, h')
      | none => none
    | some (.ret, fr', h') => match eResL E fr' h' fe.fn.results.toList with
      | some vs => some (oneS vs, h')
      | none => none
    | _ => none
  | none => none)
theorem eFun_ok {E : En} (hE : EnOk P E) (hm : P.follows .mixedOrders = true) {lf : Nat} {f : FuncId} {fe : FE} (hfe : FeOk P f fe) {as : List RS} (he : eFun E lf fe as h = some (v, h')) (hM : Mt σ0 c h σ) (hw : RS.wfs h.n as) {k : AV → St → Prop} (hk : Kt σ0 c h v h' k) : AT P f (RS.ivs c as) σ k := by
  unfold eFun at he
  rw [gd_some, Bool.and_eq_true, ble_iff, ble_iff] at he
  obtain ⟨⟨hl1, hl2⟩, he⟩ := he
  have hok := hfe.ok
  unfold chkFe at hok
  split at he
  · rename_i cd hcd
    rw [hcd] at hok
    simp only [Bool.and_eq_true] at hok
    refine AT.of_body hfe.fn hcd hfe.nm hok.1.1 hok.1.2 (by rw [ivs_len]; exact hl2) ?_
    rw [← enter_iv hl1]
    have fin : ∀ fr1 h1 vs, eResL E fr1 h1 fe.fn.results.toList = some vs → v = oneS vs → h' = h1 → Kf σ0 c h fr1 h1 (aRet P k fe.fn.results.toList) := fun fr1 h1 vs hr e1 e2 c1 σ1 ha hM1 hn1 hkp hf1 => by
      subst e1; subst e2
      obtain ⟨g1, g2⟩ := eResL_ok hE hM1 hf1 hr
      refine ⟨_, by unfold aResult; rw [g1], _, σ1, View.refl _ _, ?_⟩
      rw [← oneS_iv]
      exact hk c1 σ1 ha hM1 hn1 hkp (oneS_wf g2)
    split at he
    · rename_i fr1 h1 hc1
      split at he
      · rename_i vs hvs
        injection he with he
        injection he with e1 e2
        exact eCode_ok hE hm cd hok.2 hc1 hM (enter_wf hl1 hw) (fin _ _ _ hvs e1.symm e2.symm)
      · cases he
    · rename_i fr1 h1 hc1
      split at he
      · rename_i vs hvs
        injection he with he
        injection he with e1 e2
        exact eCode_ok hE hm cd hok.2 hc1 hM (enter_wf hl1 hw) (fin _ _ _ hvs e1.symm e2.symm)
      · cases he
    · cases he
  · cases he
end
end Go.Av

/-
  The program logic, part 29: runs that are reckoned: rounds of loops over functions; whole programs.
  Conditions: none (a library of definitions and lemmas).
-/
namespace Go.Av
open Go Go.RowKit

def parT : List Nat → List RS → Tr RS → Option (Tr RS)
  | p :: ps, a :: as, fr => gd (Nat.blt p 1024) (parT ps as (fr.set 10 p a))
  | _, _, fr => some fr
def eYield (P : Program) (E : En) (lf : Nat) (l : Nat) (as : List RS) (h : Sto) : Option (RS × Sto) := match h.get l with
  | .loop fr ps a b st pend pls => match st with
    | .ready => gd (Nat.beq as.length ps.length && flat a && flat b && plsOk P pls a && plsOk P pls b) (match parT ps as fr with
      | some fr0 => match eCode E lf pls a fr0 h with
        | some (.normal, fr1, h1) => match h1.get l with
          | .loop _ _ _ _ .ready none _ => match eCode E lf pls b fr1 (h1.put l (.loop fr ps a b .busy none pls)) with
            | some (e, _, h3) => match h3.get l with
              | .loop _ _ _ _ .busy _ _ => match e with
                | .normal => some (.v (.bool true), h3.put l (.loop fr ps a b .ready none pls))
                | .ret => some (.v (.bool false), h3.put l (.loop fr ps a b .done (some .ret) pls))
                | .exit id => some (.v (.bool false), h3.put l (.loop fr ps a b .done (some (.exit id)) pls))
                | .goto _ => none
              | _ => none
            | none => none
          | _ => none
        | _ => none
      | none => none)
    | _ => none
  | _ => none
section
variable {P : Program} {σ0 σ : St} {c c' : Cx} {h h' : Sto} {n : Nat} {fr fr' : Tr RS} {v : RS}
theorem parT_ok : ∀ {ps : List Nat} {as : List RS} {fr fr' : Tr RS}, parT ps as fr = some fr' → ifr c fr' = parFr (ifr c fr) ps (RS.ivs c as)
  | p :: ps, a :: as, fr, fr', he => by
    simp only [parT, gd_some, blt_iff] at he
    obtain ⟨hp, he⟩ := he
    have := ePut_ok (c := c) (fr := fr) (d := some p) (v := a) (fr' := fr.set 10 p a) (by simp only [ePut]; rw [blt_iff.2 hp]; rfl)
    rw [parT_ok he, this]
    rfl
  | [], as, fr, fr', he => by simp only [parT, Option.some.injEq] at he; subst he; rfl
  | p :: ps, [], fr, fr', he => by simp only [parT, Option.some.injEq] at he; subst he; rfl
theorem parT_wf : ∀ {ps : List Nat} {as : List RS} {fr fr' : Tr RS}, wfr n fr → RS.wfs n as → parT ps as fr = some fr' → wfr n fr'
  | p :: ps, a :: as, fr, fr', hf, hw, he => by
    simp only [parT, gd_some, blt_iff] at he
    obtain ⟨hp, he⟩ := he
    simp only [RS.wfs] at hw
    exact parT_wf (ePut_wf (d := some p) hf hw.1 (by simp only [ePut]; rw [blt_iff.2 hp]; rfl)) hw.2 he
  | [], as, fr, fr', hf, _, he => by simp only [parT, Option.some.injEq] at he; subst he; exact hf
  | p :: ps, [], fr, fr', hf, _, he => by simp only [parT, Option.some.injEq] at he; subst he; exact hf
theorem eYield_ok {E : En} (hE : EnOk P E) (hm : P.follows .mixedOrders = true) {lf l : Nat} {as : List RS} (he : eYield P E lf l as h = some (v, h')) (hM : Mt σ0 c h σ) (hw : RS.wfs h.n as) (hl : l < h.n) {k : AV → St → Prop} (hk : Kt σ0 c h v h' k) :
    YC P (c.r l) (RS.ivs c as) σ k := by
  unfold eYield at he
  split at he
  · rename_i fr ps a b st pend pls hg
    split at he
    · rw [gd_some] at he
      simp only [Bool.and_eq_true, beq_iff] at he
      obtain ⟨⟨⟨⟨⟨hlen, hfa⟩, hfb⟩, hpa⟩, hpb⟩, he⟩ := he
      have hob := hM.ob l (.loop (ifr c fr) (c.k l) ps a b .ready pend) hl (by rw [hg]; rfl)
      have hfw := hM.wf.ob l hl
      rw [hg] at hfw
      refine yield_by hob (by rw [ivs_len]; exact hlen) (by rw [hfa, hfb]; rfl) ?_
      split at he
      · rename_i fr0 hpar
        rw [← parT_ok hpar]
        have hf0 := parT_wf hfw hw hpar
        split at he
        · rename_i fr1 h1 hca
          refine eCode_ok hE hm a hpa hca hM hf0 fun c1 σ1 ha1 hM1 hn1 hkp1 hf1 => ?_
          have hfr1 := ifr_agree ha1 hfw
          split at he
          · rename_i fq pq aq bq pls1 hg1
            have hr1 : h1.get l = .loop fr ps a b .ready none pls := by
              rcases hkp1.lp l fr ps a b .ready pend pls hl hg with h2 | ⟨st', pend', h2⟩
              · rw [h2] at hg1; cases hg1
              · rw [h2] at hg1
                injection hg1 with q1 q2 q3 q4 q5 q6 q7
                subst q5; subst q6
                exact h2
            have hob1 := hM1.ob l (.loop (ifr c fr) (c.k l) ps a b .ready none) (by omega) (by rw [hr1]; simp only [io, hfr1, ha1.k l hl])
            rw [ha1.r l hl] at hob1
            refine ⟨hob1, ?_⟩
            have hne1 : h1.get l ≠ .gone := by rw [hr1]; intro e; cases e
            have hM2 := hM1.put (i := l) (o := .loop fr ps a b .busy none pls) (x := .loop (ifr c fr) (c.k l) ps a b .busy none) (by omega) hne1 (by simp only [io, hfr1, ha1.k l hl]) (wfr_mono hn1 hfw) (Nat.zero_le _)
            rw [ha1.r l hl] at hM2
            have hkp2 : Keep h1 (h1.put l (.loop fr ps a b .busy none pls)) := .put hM1.wf.lt (by omega) (fun fr' ps' a' b' st' pend' pls' e => by
              rw [hr1] at e
              injection e with q1 q2 q3 q4 q5 q6 q7
              subst q1; subst q2; subst q3; subst q4; subst q7
              exact .inr ⟨.busy, none, rfl⟩) (fun e => absurd e hne1)
            split at he
            · rename_i e fr3 h3 hcb
              refine eCode_ok hE hm b hpb hcb hM2 hf1 fun c3 σ3 ha3 hM3 hn3 hkp3 hf3 => ?_
              have hn2 : h.n ≤ h3.n := Nat.le_trans hn1 hn3
              have hl2 : (h1.put l (.loop fr ps a b .busy none pls)).get l = .loop fr ps a b .busy none pls := by
                have := Sto.get_put (h := h1) (o := .loop fr ps a b .busy none pls) (i := l) (j := l) (by have := hM1.wf.lt; omega) (by have := hM1.wf.lt; omega)
                rw [if_pos rfl] at this
                exact this
              have ha13 : Agree h.n c c3 := ha1.trans ha3 hn1
              have hfr3 := ifr_agree ha13 hfw
              split at he
              · rename_i fq pq aq bq pendq plsq hg3
                have hr3 : ∃ p, h3.get l = .loop fr ps a b .busy p pls := by
                  rcases hkp3.lp l fr ps a b .busy none pls (by show l < h1.n; omega) hl2 with h2 | ⟨st', pend', h2⟩
                  · rw [h2] at hg3; cases hg3
                  · rw [h2] at hg3
                    injection hg3 with q1 q2 q3 q4 q5 q6 q7
                    subst q5
                    exact ⟨pend', h2⟩
                obtain ⟨p3, hr3⟩ := hr3
                have hob3 := hM3.ob l (.loop (ifr c fr) (c.k l) ps a b .busy p3) (by omega) (by rw [hr3]; simp only [io, hfr3, ha13.k l hl])
                rw [ha13.r l hl] at hob3
                have hne3 : h3.get l ≠ .gone := by rw [hr3]; intro e; cases e
                have fin : ∀ st' pend' (x : RS), x.wf 0 → v = x → h' = h3.put l (.loop fr ps a b st' pend' pls) → k (x.iv c3) (σ3.set (c.r l) (.loop (ifr c fr) (c.k l) ps a b st' pend')) := fun st' pend' x hx e1 e2 => by
                  subst e1; subst e2
                  have hM4 := hM3.put (i := l) (o := .loop fr ps a b st' pend' pls) (x := .loop (ifr c fr) (c.k l) ps a b st' pend') (by omega) hne3 (by simp only [io, hfr3, ha13.k l hl]) (wfr_mono hn2 hfw) (Nat.zero_le _)
                  rw [ha13.r l hl] at hM4
                  refine hk c3 _ ha13 hM4 hn2 ?_ (wf_mono (Nat.zero_le _) _ hx)
                  refine ((hkp1.trans hkp2 hn1).trans hkp3 (by show h.n ≤ h1.n; omega)).trans (.put hM3.wf.lt (by omega) (fun fr' ps' a' b' st'' pend'' pls' e => by
                    rw [hr3] at e
                    injection e with q1 q2 q3 q4 q5 q6 q7
                    subst q1; subst q2; subst q3; subst q4; subst q7
                    exact .inr ⟨st', pend', rfl⟩) (fun e => absurd e hne3)) hn2
                split at he
                · injection he with he
                  injection he with e1 e2
                  have := fin .ready none (.v (.bool true)) (by simp only [RS.wf]) e1.symm e2.symm
                  simp only [RS.iv, RS.vv] at this
                  exact ⟨⟨p3, hob3⟩, this⟩
                · injection he with he
                  injection he with e1 e2
                  have := fin .done (some .ret) (.v (.bool false)) (by simp only [RS.wf]) e1.symm e2.symm
                  simp only [RS.iv, RS.vv] at this
                  exact ⟨⟨p3, hob3⟩, this⟩
                · injection he with he
                  injection he with e1 e2
                  have := fin .done (some (.exit _)) (.v (.bool false)) (by simp only [RS.wf]) e1.symm e2.symm
                  simp only [RS.iv, RS.vv] at this
                  exact ⟨⟨p3, hob3⟩, this⟩
                · cases he
              · cases he
            · cases he
          · cases he
        · cases he
      · cases he
    · cases he
  · cases he

/-! ### Programs -/
def mkE (P : Program) (ty : Tr TE) (ft : Tr FE) (idle : FuncId → Bool) (lf : Nat) : Nat → En
  | 0 => ⟨ty, fun _ _ _ => none, fun _ _ _ => none, idle⟩
  | d + 1 => ⟨ty, fun f as h => match gd (Nat.blt f 1024) (ft.get 10 f) with
      | some fe => eFun (mkE P ty ft idle lf d) lf fe as h
      | none => none, fun l as h => eYield P (mkE P ty ft idle lf d) lf l as h, idle⟩
structure PrOk (P : Program) (ty : Tr TE) (ft : Tr FE) (idle : FuncId → Bool) : Prop where
  mx : P.follows .mixedOrders = true
  ty : ∀ t e, t < 1024 → ty.get 10 t = some e → TeOk P t e
  ft : ∀ f e, f < 1024 → ft.get 10 f = some e → FeOk P f e
  idle : ∀ f, idle f = true → (∃ fn, P.funcs[f]? = some fn ∧ fn.body.isSome = true ∧ fn.name ≠ "runtime.NumGoroutine") ∧ ∀ vs, IdleF P f vs
theorem mkE_ty {ty : Tr TE} {ft : Tr FE} {idle : FuncId → Bool} (hp : PrOk P ty ft idle) (lf d : Nat) (t : TypeId) (e : TE) (he : (mkE P ty ft idle lf d).te t = some e) : TeOk P t e := by
  have h2 : (mkE P ty ft idle lf d).ty = ty := by cases d <;> rfl
  simp only [En.te, h2, gd_some, blt_iff] at he
  exact hp.ty t e he.1 he.2
theorem mkE_ok {ty : Tr TE} {ft : Tr FE} {idle : FuncId → Bool} (hp : PrOk P ty ft idle) (lf : Nat) : ∀ d, EnOk P (mkE P ty ft idle lf d)
  | 0 => by
    refine ⟨mkE_ty hp lf 0, ?_, ?_, hp.idle⟩
    · intro f as h v h' he; cases he
    · intro l as h v h' he; cases he
  | d + 1 => by
    refine ⟨mkE_ty hp lf (d + 1), ?_, ?_, hp.idle⟩
    · intro f as h v h' he σ0 c σ k hM hw hk
      simp only [mkE] at he
      split at he
      · rename_i fe hfe
        rw [gd_some, blt_iff] at hfe
        exact eFun_ok (mkE_ok hp lf d) hp.mx (hp.ft f fe hfe.1 hfe.2) he hM hw hk
      · cases he
    · intro l as h v h' he σ0 c σ k hM hw hl hk
      exact eYield_ok (mkE_ok hp lf d) hp.mx he hM hw hl hk
/-- The whole run: a call, from where σ is tracked. -/
def run (P : Program) (ty : Tr TE) (ft : Tr FE) (idle : FuncId → Bool) (lf d : Nat) (f : FuncId) (as : List RS) : Option RS := match (mkE P ty ft idle lf d).cl f as ⟨0, .e⟩ with
  | some (v, _) => some v
  | none => none
theorem tre_so (i : Nat) : (Sto.mk 0 .e).get i = .gone := rfl
/-- **A call that was reckoned.** -/
theorem run_ok {ty : Tr TE} {ft : Tr FE} {idle : FuncId → Bool} (hp : PrOk P ty ft idle) {lf d : Nat} {f : FuncId} {as : List RS} {x : Value} (he : run P ty ft idle lf d f as = some (.v x)) (hcl : isClone P f = false) (a : Nat → AV) (ha : ∀ i, (a i).one = true ∧ (a i).cells = [a i]) (has : RS.wfs 0 as) :
    AT P f (RS.ivs ⟨fun i => i, fun i => i, a⟩ as) σ fun r σ' => r = .v x ∧ σ' = σ := by
  unfold run at he
  split at he
  · rename_i v h1 hc
    injection he with he
    subst he
    have hM : Mt σ ⟨fun i => i, fun i => i, a⟩ ⟨0, .e⟩ σ := ⟨ha, ⟨Nat.zero_le _, fun i hi => absurd hi (Nat.not_lt_zero _)⟩, fun y o h => h, fun i o hi => absurd hi (Nat.not_lt_zero _), fun i y o hi => absurd hi (Nat.not_lt_zero _), fun i j hi => absurd hi (Nat.not_lt_zero _), fun i hi => absurd hi (Nat.not_lt_zero _)⟩
    have h := (mkE_ok hp lf d).cl f as _ _ _ hc σ _ σ (fun r σ' => r = .v x ∧ ∀ y o, σ y = some o → σ' y = some o) hM has fun c' σ' _ hM' _ _ _ => ⟨by simp only [RS.iv, RS.vv], hM'.base⟩
    exact h.post hcl fun r σ' ⟨h1, h2⟩ => ⟨r, σ, view_drop h2, h1, rfl⟩
  · cases he
end
end Go.Av
