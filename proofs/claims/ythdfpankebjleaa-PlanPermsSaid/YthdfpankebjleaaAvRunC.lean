/-
  The program logic, part 22: runs that are reckoned: the operations, each with what it comes to.
  Conditions: none (a library of definitions and lemmas).
-/
import Derived.Test.YthdfpankebjleaaAvRunB
set_option linter.unusedVariables false
set_option linter.unusedSimpArgs false
namespace Go.Av
open Go Go.RowKit

/-! ### Operands, cells -/
def rConst : Value → RS
  | .agg cs => .agg (cs.toList.map .v)
  | .tuple cs => .tup (cs.toList.map .v)
  | x => .v x
def eEv (fr : Tr RS) : Operand → Option RS
  | .tmp t => gd (Nat.blt t 1024) (fr.get 10 t)
  | .const v => some (rConst v)
  | .func f => some (.fn f [] [])
  | .global _ => none
def eEvs (fr : Tr RS) : List Operand → Option (List RS)
  | [] => some []
  | x :: l => match eEv fr x with
    | some v => match eEvs fr l with
      | some vs => some (v :: vs)
      | none => none
    | none => none
def RS.cells : RS → List RS
  | .agg cs => cs
  | .v (.agg q) => q.toList.map .v
  | x => [x]
def RS.one : RS → Bool
  | .v x => x.oneCell'
  | .agg _ => false
  | .tup _ => false
  | _ => true

section
variable {P : Program} {σ0 σ : St} {c c' : Cx} {h h' : Sto} {n : Nat} {fr : Tr RS} {v : RS} {K : AV → Prop} {k : AV → St → Prop}
theorem ivs_v (c : Cx) (l : List Value) : RS.ivs c (l.map .v) = l.map AV.v := by
  rw [ivs_map, List.map_map]
  refine List.map_congr_left fun x _ => ?_
  simp only [Function.comp, RS.iv, RS.vv]
theorem wfs_v (n : Nat) (l : List Value) : RS.wfs n (l.map .v) := wfs_iff.2 fun x hx => by
  obtain ⟨y, _, rfl⟩ := List.mem_map.1 hx
  simp only [RS.wf]
theorem rConst_iv (c : Cx) (x : Value) : (rConst x).iv c = ofConst x := by
  cases x <;> simp only [rConst, ofConst, RS.iv, RS.vv, ivs_v]
theorem rConst_wf (n : Nat) (x : Value) : (rConst x).wf n := by
  cases x <;> simp only [rConst, RS.wf, wfs_v]
theorem eEv_ok {x : Operand} (he : eEv fr x = some v) : (ifr c fr).ev x = v.iv c := by
  cases x with
  | tmp t =>
    simp only [eEv, gd_some, blt_iff] at he
    simp only [Fr.ev, ifr, if_pos he.1, he.2]
  | const y => simp only [eEv, Option.some.injEq] at he; subst he; rw [rConst_iv]; rfl
  | global g => cases he
  | func f => simp only [eEv, Option.some.injEq] at he; subst he; simp only [Fr.ev, RS.iv, RS.vv, RS.vvs]
theorem eEv_wf {x : Operand} (hf : wfr n fr) (he : eEv fr x = some v) : v.wf n := by
  cases x with
  | tmp t =>
    simp only [eEv, gd_some, blt_iff] at he
    exact hf t v he.1 he.2
  | const y => simp only [eEv, Option.some.injEq] at he; subst he; exact rConst_wf n y
  | global g => cases he
  | func f => simp only [eEv, Option.some.injEq] at he; subst he; simp only [RS.wf, RS.wfs, and_self]
theorem eEvs_ok : ∀ {l : List Operand} {vs : List RS}, eEvs fr l = some vs → l.map (ifr c fr).ev = vs.map (RS.iv c)
  | [], vs, he => by simp only [eEvs, Option.some.injEq] at he; subst he; rfl
  | x :: l, vs, he => by
    simp only [eEvs] at he
    split at he
    · rename_i v hv
      split at he
      · rename_i vs' hvs
        injection he with he
        subst he
        simp only [List.map_cons, eEv_ok hv, eEvs_ok hvs]
      · cases he
    · cases he
theorem eEvs_wf (hf : wfr n fr) : ∀ {l : List Operand} {vs : List RS}, eEvs fr l = some vs → RS.wfs n vs
  | [], vs, he => by simp only [eEvs, Option.some.injEq] at he; subst he; simp only [RS.wfs]
  | x :: l, vs, he => by
    simp only [eEvs] at he
    split at he
    · rename_i v hv
      split at he
      · rename_i vs' hvs
        injection he with he
        subst he
        simp only [RS.wfs]
        exact ⟨eEv_wf hf hv, eEvs_wf hf hvs⟩
      · cases he
    · cases he
theorem cells_iv (ha : ∀ i, (c.a i).one = true ∧ (c.a i).cells = [c.a i]) (x : RS) : (x.iv c).cells = RS.ivs c x.cells := by
  cases x with
  | v y => cases y <;> simp only [RS.iv, RS.vv, AV.cells, RS.cells, RS.ivs, ivs_v]
  | opq i => simp only [RS.iv, RS.cells, RS.ivs, (ha i).2]
  | _ => simp only [RS.iv, RS.vv, AV.cells, RS.cells, RS.ivs]
theorem cells_wf {x : RS} (h : x.wf n) : RS.wfs n x.cells := by
  cases x with
  | v y => cases y <;> simp only [RS.cells, wfs_v, RS.wfs, RS.wf, and_self]
  | _ => simp only [RS.cells, RS.wfs, and_true]; exact h
theorem one_iv (ha : ∀ i, (c.a i).one = true ∧ (c.a i).cells = [c.a i]) (x : RS) : (x.iv c).one = x.one := by
  cases x with
  | opq i => simp only [RS.iv, RS.one, (ha i).1]
  | _ => simp only [RS.iv, RS.vv, AV.one, RS.one, Value.oneCell']
theorem ones_iv (ha : ∀ i, (c.a i).one = true ∧ (c.a i).cells = [c.a i]) (l : List RS) : (RS.ivs c l).all AV.one = l.all RS.one := by
  rw [ivs_map, List.all_map]
  congr 1
  funext x
  exact one_iv ha x
theorem ivs_len (c : Cx) (l : List RS) : (RS.ivs c l).length = l.length := by rw [ivs_map, List.length_map]
theorem ivss_len (c : Cx) (l : List (List RS)) : (RS.ivss c l).length = l.length := by rw [ivss_map, List.length_map]
theorem ivs_getD {l : List RS} {i : Nat} {x : RS} (h : l[i]? = some x) : (RS.ivs c l).getD i (.v undef) = x.iv c := by
  rw [ivs_map, List.getD_eq_getElem?_getD, List.getElem?_map, h]; rfl
theorem ivss_getD {l : List (List RS)} {i : Nat} {x : List RS} (h : l[i]? = some x) : (RS.ivss c l).getD i [] = RS.ivs c x := by
  rw [ivss_map, List.getD_eq_getElem?_getD, List.getElem?_map, h]; rfl
theorem ivs_take (l : List RS) (i : Nat) : (RS.ivs c l).take i = RS.ivs c (l.take i) := by rw [ivs_map, ivs_map, List.map_take]
theorem ivs_drop (l : List RS) (i : Nat) : (RS.ivs c l).drop i = RS.ivs c (l.drop i) := by rw [ivs_map, ivs_map, List.map_drop]
theorem ivss_take (l : List (List RS)) (i : Nat) : (RS.ivss c l).take i = RS.ivss c (l.take i) := by rw [ivss_map, ivss_map, List.map_take]
theorem ivss_drop (l : List (List RS)) (i : Nat) : (RS.ivss c l).drop i = RS.ivss c (l.drop i) := by rw [ivss_map, ivss_map, List.map_drop]
theorem ivs_app (l l' : List RS) : RS.ivs c (l ++ l') = RS.ivs c l ++ RS.ivs c l' := by rw [ivs_map, ivs_map, ivs_map, List.map_append]
theorem ivss_app (l l' : List (List RS)) : RS.ivss c (l ++ l') = RS.ivss c l ++ RS.ivss c l' := by rw [ivss_map, ivss_map, ivss_map, List.map_append]
theorem ivss_set (l : List (List RS)) (i : Nat) (x : List RS) : RS.ivss c (l.set i x) = (RS.ivss c l).set i (RS.ivs c x) := by rw [ivss_map, ivss_map, List.map_set]
theorem wfs_take {l : List RS} (i : Nat) (h : RS.wfs n l) : RS.wfs n (l.take i) := wfs_iff.2 fun x hx => wfs_iff.1 h x (List.mem_of_mem_take hx)
theorem wfs_drop {l : List RS} (i : Nat) (h : RS.wfs n l) : RS.wfs n (l.drop i) := wfs_iff.2 fun x hx => wfs_iff.1 h x (List.mem_of_mem_drop hx)
theorem wfs_app {l l' : List RS} (h : RS.wfs n l) (h' : RS.wfs n l') : RS.wfs n (l ++ l') := wfs_iff.2 fun x hx => (List.mem_append.1 hx).elim (wfs_iff.1 h x) (wfs_iff.1 h' x)
theorem wfss_take {l : List (List RS)} (i : Nat) (h : RS.wfss n l) : RS.wfss n (l.take i) := wfss_iff.2 fun x hx => wfss_iff.1 h x (List.mem_of_mem_take hx)
theorem wfss_drop {l : List (List RS)} (i : Nat) (h : RS.wfss n l) : RS.wfss n (l.drop i) := wfss_iff.2 fun x hx => wfss_iff.1 h x (List.mem_of_mem_drop hx)
theorem wfss_app {l l' : List (List RS)} (h : RS.wfss n l) (h' : RS.wfss n l') : RS.wfss n (l ++ l') := wfss_iff.2 fun x hx => (List.mem_append.1 hx).elim (wfss_iff.1 h x) (wfss_iff.1 h' x)
theorem wfss_set {l : List (List RS)} {i : Nat} {x : List RS} (h : RS.wfss n l) (hx : RS.wfs n x) : RS.wfss n (l.set i x) := wfss_iff.2 fun y hy => by
  rcases List.mem_or_eq_of_mem_set hy with hy | rfl
  · exact wfss_iff.1 h y hy
  · exact hx
theorem wfs_get {l : List RS} {i : Nat} {x : RS} (h : RS.wfs n l) (hx : l[i]? = some x) : x.wf n := wfs_iff.1 h x (List.mem_of_getElem? hx)
theorem wfss_get {l : List (List RS)} {i : Nat} {x : List RS} (h : RS.wfss n l) (hx : l[i]? = some x) : RS.wfs n x := wfss_iff.1 h x (List.mem_of_getElem? hx)
theorem get_lt {α : Type} {l : List α} {i : Nat} {x : α} (h : l[i]? = some x) : i < l.length := (List.getElem?_eq_some_iff.1 h).1

/-! ### What lies in a block -/
/-- One cell, or several. -/
def eTake (ag : Bool) (sz off : Nat) (cs : List RS) : Option RS := match ag with
  | true => gd (Nat.ble (off + sz) cs.length) (some (.agg ((cs.drop off).take sz)))
  | false => cs[off]?
theorem eTake_ok {ag : Bool} {sz off : Nat} {cs : List RS} (he : eTake ag sz off cs = some v) (hk : K (v.iv c)) : aPart ag off sz (RS.ivs c cs) K := by
  unfold aPart
  cases ag with
  | true =>
    simp only [eTake, gd_some, ble_iff, Option.some.injEq] at he
    obtain ⟨h1, rfl⟩ := he
    rw [if_pos rfl, ivs_len]
    refine ⟨h1, ?_⟩
    simp only [RS.iv, ← ivs_take, ← ivs_drop] at hk
    exact hk
  | false =>
    simp only [eTake] at he
    rw [if_neg (by simp), ivs_len, ivs_getD he]
    exact ⟨get_lt he, hk⟩
theorem eTake_wf {ag : Bool} {sz off : Nat} {cs : List RS} (hw : RS.wfs n cs) (he : eTake ag sz off cs = some v) : v.wf n := by
  cases ag with
  | true =>
    simp only [eTake, gd_some, ble_iff, Option.some.injEq] at he
    obtain ⟨h1, rfl⟩ := he
    simp only [RS.wf]
    exact wfs_take _ (wfs_drop _ hw)
  | false => exact wfs_get hw he
def eLoad (i : TK) (h : Sto) : RS → Option RS
  | .fp cs => eTake i.ag i.sz 0 cs
  | .ptr b o => match h.get b with
    | .cells cs => eTake i.ag i.sz o cs
    | _ => none
  | .rp b q j f => match h.get b with
    | .rows q' es _ => gd (Nat.beq q' q) (match es[j]? with
      | some e => gd (match i.ag with | true => Nat.ble (f + i.sz) q | false => Nat.blt f q) (eTake i.ag i.sz f e)
      | none => none)
    | _ => none
  | _ => none
theorem eLoad_ok (hM : Mt σ0 c h σ) {i : TK} {p : RS} (hp : p.wf h.n) (he : eLoad i h p = some v) (hk : K (v.iv c)) : aLoad (some i) σ (p.iv c) K := by
  cases p with
  | fp cs =>
    simp only [eLoad] at he
    have := eTake_ok he hk
    simp only [RS.iv, aLoad]
    unfold aPart at this
    cases hg : i.ag with
    | true => rw [hg] at this; simpa using this
    | false => rw [hg] at this; simpa using this
  | ptr b o =>
    simp only [eLoad] at he
    split at he
    · rename_i cs hb
      simp only [RS.wf] at hp
      have h1 : io c b (h.get b) = some (.cells (RS.ivs c cs)) := by rw [hb]; rfl
      have h2 := hM.ob b _ hp h1
      have := eTake_ok he hk
      simp only [RS.iv, RS.vv, aLoad, h2]
      unfold aPart at this
      exact this
    · cases he
  | rp b q j f =>
    simp only [eLoad] at he
    split at he
    · rename_i q' es frz hb
      simp only [RS.wf] at hp
      rw [gd_some, beq_iff] at he
      obtain ⟨rfl, he⟩ := he
      have h1 : io c b (h.get b) = some (.rows q' (RS.ivss c es) frz (c.k b)) := by rw [hb]; rfl
      have h2 := hM.ob b _ hp h1
      split at he
      · rename_i e hj
        rw [gd_some] at he
        have := eTake_ok he.2 hk
        simp only [RS.iv, aLoad, h2, ivss_len, ivss_getD hj]
        refine ⟨trivial, get_lt hj, ?_⟩
        unfold aPart at this
        cases hg : i.ag with
        | true =>
          rw [hg] at this he
          simp only [if_true] at this ⊢
          exact ⟨ble_iff.1 he.1, this.2⟩
        | false =>
          rw [hg] at this he
          simp only [Bool.false_eq_true, if_false] at this ⊢
          exact ⟨blt_iff.1 he.1, this.2⟩
      · cases he
    · cases he
  | _ => cases he
theorem eLoad_wf (hS : WfS h) {i : TK} {p : RS} (hp : p.wf h.n) (he : eLoad i h p = some v) : v.wf h.n := by
  cases p with
  | fp cs => simp only [eLoad] at he; simp only [RS.wf] at hp; exact eTake_wf hp he
  | ptr b o =>
    simp only [eLoad] at he
    simp only [RS.wf] at hp
    have := hS.ob b hp
    split at he
    · rename_i cs hb
      rw [hb] at this
      exact eTake_wf this he
    · cases he
  | rp b q j f =>
    simp only [eLoad] at he
    simp only [RS.wf] at hp
    have := hS.ob b hp
    split at he
    · rename_i q' es frz hb
      rw [hb] at this
      rw [gd_some] at he
      have he := he.2
      split at he
      · rename_i e hj
        rw [gd_some] at he
        exact eTake_wf (wfss_get this hj) he.2
      · cases he
    · cases he
  | _ => cases he

def rsplice (cs : List RS) (o : Nat) (xs : List RS) : List RS := cs.take o ++ xs ++ cs.drop (o + xs.length)
theorem ivs_splice (cs : List RS) (o : Nat) (xs : List RS) : RS.ivs c (rsplice cs o xs) = splice (RS.ivs c cs) o (RS.ivs c xs) := by
  unfold rsplice splice
  rw [ivs_app, ivs_app, ivs_take, ivs_drop, ivs_len]
theorem wfs_splice {cs xs : List RS} (o : Nat) (h : RS.wfs n cs) (h' : RS.wfs n xs) : RS.wfs n (rsplice cs o xs) := wfs_app (wfs_app (wfs_take _ h) h') (wfs_drop _ h)
def eStore (i : TK) (h : Sto) (p x : RS) : Option Sto := gd (Nat.beq x.cells.length i.sz && x.cells.all RS.one) (match p with
  | .ptr b o => match h.get b with
    | .cells cs => gd (Nat.ble (o + i.sz) cs.length) (some (h.put b (.cells (rsplice cs o x.cells))))
    | _ => none
  | .rp b q j f => match h.get b with
    | .rows q' es false => gd (Nat.beq q' q && Nat.ble (f + i.sz) q) (match es[j]? with
      | some e => some (h.put b (.rows q (es.set j (rsplice e f x.cells)) false))
      | none => none)
    | _ => none
  | _ => none)
theorem eStore_ok (hM : Mt σ0 c h σ) {i : TK} {p x : RS} (hp : p.wf h.n) (hx : x.wf h.n) (he : eStore i h p x = some h') {k : St → Prop} (hk : ∀ σ', h'.n = h.n → Keep h h' → Mt σ0 c h' σ' → k σ') : aStore (some i) σ (p.iv c) (x.iv c) k := by
  unfold eStore at he
  rw [gd_some, Bool.and_eq_true, beq_iff] at he
  obtain ⟨⟨h1, h2⟩, he⟩ := he
  simp only [aStore, cells_iv hM.a, ivs_len, ones_iv hM.a]
  refine ⟨h1, h2, ?_⟩
  have hxw := cells_wf hx
  cases p with
  | ptr b o =>
    simp only at he
    split at he
    · rename_i cs hb
      simp only [RS.wf] at hp
      rw [gd_some, ble_iff] at he
      obtain ⟨h3, he⟩ := he
      injection he with he
      subst he
      have h4 : io c b (h.get b) = some (.cells (RS.ivs c cs)) := by rw [hb]; rfl
      have h5 := hM.ob b _ hp h4
      have hw := hM.wf.ob b hp
      rw [hb] at hw
      simp only [RS.iv, RS.vv, h5, ivs_len]
      refine ⟨h3, hk _ rfl (.put hM.wf.lt hp (by rw [hb]; intro _ _ _ _ _ _ _ e; cases e) (by rw [hb]; intro e; cases e)) ?_⟩
      refine hM.put hp (by rw [hb]; intro e; cases e) ?_ (wfs_splice o hw hxw) (Nat.zero_le _)
      simp only [io, ivs_splice]
    · cases he
  | rp b q j f =>
    simp only at he
    split at he
    · rename_i q' es hb
      simp only [RS.wf] at hp
      rw [gd_some, Bool.and_eq_true, beq_iff, ble_iff] at he
      obtain ⟨⟨rfl, h3⟩, he⟩ := he
      split at he
      · rename_i e hj
        injection he with he
        subst he
        have h4 : io c b (h.get b) = some (.rows q' (RS.ivss c es) false (c.k b)) := by rw [hb]; rfl
        have h5 := hM.ob b _ hp h4
        have hw := hM.wf.ob b hp
        have hcap := hM.cap b hp
        rw [hb] at hw hcap
        simp only [RS.iv, h5, ivss_len, ivss_getD hj]
        refine ⟨trivial, get_lt hj, h3, hk _ rfl (.put hM.wf.lt hp (by rw [hb]; intro _ _ _ _ _ _ _ e; cases e) (by rw [hb]; intro e; cases e)) ?_⟩
        refine hM.put hp (by rw [hb]; intro e; cases e) ?_ (wfss_set hw (wfs_splice f (wfss_get hw hj) hxw)) (by simpa [SO.len] using hcap)
        simp only [io, ivss_set, ivs_splice]
      · cases he
    · cases he
  | _ => cases he
end
end Go.Av
