/-
  The program logic, part 26: runs that are reckoned: append; whole operations.
  Conditions: none (a library of definitions and lemmas).
-/
import Derived.Test.YthdfpankebjleaaAvRunF
set_option linter.unusedVariables false
set_option linter.unusedSimpArgs false
namespace Go.Av
open Go Go.RowKit

section
variable {P : Program} {σ0 σ : St} {c c' : Cx} {h h' : Sto} {n : Nat} {fr : Tr RS} {v : RS} {K : AV → Prop} {k : AV → St → Prop}
def eNewRow (q : Nat) (es : List (List RS)) (frz : Bool) (h : Sto) : Option (RS × Sto) := match h.new (.rows q es frz) with
  | some (b, h') => some (.row b es.length, h')
  | none => none
theorem eNewRow_ok (hM : Mt σ0 c h σ) {q : Nat} {es : List (List RS)} {frz : Bool} (hw : RS.wfss h.n es) (he : eNewRow q es frz h = some (v, h')) (hk : Kt σ0 c h v h' k) {bb cap : Nat} (hb : σ bb = none) (hc : es.length ≤ cap) :
    k (.v (.slice (some ⟨bb, 0, none⟩) es.length cap)) (σ.set bb (.rows q (RS.ivss c es) frz cap)) := by
  unfold eNewRow at he
  split at he
  · rename_i b h2 hn
    injection he with he
    injection he with h1 h3
    subst h1; subst h3
    have hi := new_n hn
    subst hi
    have := Kt.new (kk := cap) hM hn hw hb (x := .rows q (RS.ivss c es) frz cap) (by simp only [io]; rw [ivss_agree (more_agree c h.n bb cap) _ hw]; simp only [Cx.more, if_true]) (by simp only [SO.len]; exact hc) hk (by simp only [RS.wf]; omega)
    simpa only [RS.iv, RS.vv, Cx.more, if_true] using this
  · cases he
theorem isE {α : Type} (l : List α) : l.isEmpty = true ↔ l = [] := List.isEmpty_iff
def eAppTo (q eby : Nat) (ys : List (List RS)) (h : Sto) (s : RS) : Option (RS × Sto) := match s with
  | .v (.slice none 0 0) => match ys with
    | [] => some (.v (.slice none 0 0), h)
    | y :: l => gd (Nat.ble ((y :: l).length * eby) 140737488355328) (eNewRow q (y :: l) false h)
  | .fsl q' es => gd (Nat.beq q' q) (match ys with
    | [] => some (.fsl q es, h)
    | y :: l => gd (Nat.ble ((es.length + (y :: l).length) * eby) 140737488355328) (eNewRow q (es ++ (y :: l)) false h))
  | .row b n => match h.get b with
    | .rows q' es frz => gd (Nat.beq q' q && Nat.ble ((n + ys.length) * eby) 140737488355328) (match Nat.beq n es.length with
      | true => eNewRow q (es ++ ys) frz (h.put b .gone)
      | false => match frz with
        | true => none
        | false => gd (Nat.ble (n + ys.length) es.length) (some (.row b (n + ys.length), h.put b (.rows q (es.take n ++ ys ++ es.drop (n + ys.length)) false))))
    | _ => none
  | _ => none
theorem Kt.of_put (hM : Mt σ0 c h σ) {b : Nat} {o : SO} {v : RS} {h2 : Sto} (hb : b < h.n) (hl : ∀ fr ps a b' st pend pls, h.get b ≠ .loop fr ps a b' st pend pls) (hg : h.get b ≠ .gone) (hk : Kt σ0 c h v h2 k) : Kt σ0 c (h.put b o) v h2 k :=
  fun c' σ' h1 h2' h3 h4 h5 => hk c' σ' h1 h2' h3 ((Keep.put hM.wf.lt hb (fun _ _ _ _ _ _ _ e => absurd e (hl _ _ _ _ _ _ _)) (fun e => absurd e hg)).trans h4 (Nat.le_refl _)) h5
theorem eAppTo_ok (hM : Mt σ0 c h σ) {q eby : Nat} {ys : List (List RS)} {s : RS} (hs : s.wf h.n) (hy : RS.wfss h.n ys) (he : eAppTo q eby ys h s = some (v, h')) (hk : Kt σ0 c h v h' k) : aAppTo q eby (RS.ivss c ys) σ (s.iv c) k := by
  unfold eAppTo at he
  split at he
  · simp only [RS.iv, RS.vv, aAppTo]
    split at he
    · injection he with he
      injection he with h1 h2
      subst h1; subst h2
      have := hk.same hM (by simp only [RS.wf])
      exact ⟨fun _ => by simpa only [RS.iv, RS.vv] using this, fun h => absurd rfl h⟩
    · rename_i y l
      rw [gd_some, ble_iff] at he
      refine ⟨(fun h => by simp only [RS.ivss] at h; cases h), fun _ => ⟨by rw [ivss_len]; exact he.1, fun b cap hb hc => ?_⟩⟩
      rw [ivss_len] at hc ⊢
      exact eNewRow_ok hM hy he.2 hk hb hc
  · rename_i q' es
    rw [gd_some, beq_iff] at he
    obtain ⟨rfl, he⟩ := he
    simp only [RS.iv, aAppTo]
    have hes : RS.wfss h.n es := by simpa only [RS.wf] using hs
    split at he
    · injection he with he
      injection he with h1 h2
      subst h1; subst h2
      have := hk.same hM (by simpa only [RS.wf] using hes)
      exact ⟨trivial, fun _ => by simpa only [RS.iv] using this, fun h => absurd rfl h⟩
    · rename_i y l
      rw [gd_some, ble_iff] at he
      refine ⟨trivial, (fun h => by simp only [RS.ivss] at h; cases h), fun _ => ⟨by rw [ivss_len, ivss_len]; exact he.1, fun b cap hb hc => ?_⟩⟩
      have := eNewRow_ok (bb := b) (cap := cap) hM (wfss_app hes hy) he.2 hk hb (by rw [List.length_append]; rwa [ivss_len, ivss_len] at hc)
      rw [ivss_app, List.length_append] at this
      rw [ivss_len, ivss_len]
      exact this
  · rename_i b n
    have hb : b < h.n := by simpa only [RS.wf] using hs
    split at he
    · rename_i q' es frz hg
      rw [gd_some, Bool.and_eq_true, beq_iff, ble_iff] at he
      obtain ⟨⟨rfl, hbd⟩, he⟩ := he
      have hw := hM.wf.ob b hb
      have hcap := hM.cap b hb
      have hne : h.get b ≠ .gone := by rw [hg]; intro e; cases e
      have hob := hM.ob b (.rows q' (RS.ivss c es) frz (c.k b)) hb (by rw [hg]; rfl)
      rw [hg] at hw hcap
      simp only [SO.len] at hcap
      simp only [RS.iv, RS.vv, aAppTo]
      split at he
      · rename_i hn
        rw [beq_iff] at hn
        subst hn
        refine .inr (.inl ⟨trivial, ?_⟩)
        simp only [hob, ivss_len]
        refine ⟨trivial, trivial, trivial, hbd, fun b' cap' hb' hc' => ?_⟩
        have := eNewRow_ok (bb := b') (cap := cap') (hM.del hb hne) (wfss_app hw hy) he (Kt.of_put hM hb (by rw [hg]; intro _ _ _ _ _ _ _ e; cases e) hne hk) hb' (by rw [List.length_append]; exact hc')
        rw [ivss_app, List.length_append] at this
        exact this
      · split at he
        · cases he
        · rw [gd_some, ble_iff] at he
          obtain ⟨hle, he⟩ := he
          injection he with he
          injection he with h1 h2
          subst h1; subst h2
          refine .inr (.inr ⟨trivial, ?_⟩)
          simp only [hob, ivss_len]
          refine ⟨trivial, by omega, trivial, by omega, hbd, ?_⟩
          have hl2 : (es.take n ++ ys ++ es.drop (n + ys.length)).length = es.length := by simp; omega
          have hM2 := hM.put (o := .rows q' (es.take n ++ ys ++ es.drop (n + ys.length)) false) (x := .rows q' ((RS.ivss c es).take n ++ RS.ivss c ys ++ (RS.ivss c es).drop (n + ys.length)) false (c.k b)) hb hne
            (by simp only [io, ivss_app, ivss_take, ivss_drop]) (wfss_app (wfss_app (wfss_take _ hw) hy) (wfss_drop _ hw)) (by simp only [SO.len, hl2]; exact hcap)
          have := hk c _ (.refl _ _) hM2 (Nat.le_refl _) (.put hM.wf.lt hb (by rw [hg]; intro _ _ _ _ _ _ _ e; cases e) (by rw [hg]; intro e; cases e)) (by simp only [RS.wf]; exact hb)
          simpa only [RS.iv, RS.vv] using this
    · cases he
  · cases he
def eApp (i : TK) (h : Sto) (s x : RS) : Option (RS × Sto) := match i.td with
  | .sl q eby ez byt => gd (Nat.blt 0 q && Nat.blt 0 eby && ez.all Value.oneCell') (match eSrc q byt h x with
    | some ys => eAppTo q eby ys h s
    | none => none)
  | _ => none
theorem eApp_ok (hM : Mt σ0 c h σ) {i : TK} {s x : RS} (hs : s.wf h.n) (hx : x.wf h.n) (he : eApp i h s x = some (v, h')) (hk : Kt σ0 c h v h' k) : aApp (some i) σ (s.iv c) (x.iv c) k := by
  unfold eApp at he
  simp only [aApp]
  split at he
  · rename_i q eby ez byt htd
    simp only [htd]
    rw [gd_some, Bool.and_eq_true, Bool.and_eq_true, blt_iff, blt_iff] at he
    obtain ⟨⟨⟨h1, h2⟩, h3⟩, he⟩ := he
    split at he
    · rename_i ys hys
      exact ⟨h1, h2, h3, _, eSrc_ok hM hx hys, eAppTo_ok hM hs (eSrc_wf hM.wf hx hys) he hk⟩
    · cases he
  · cases he

/-! ### Whole operations -/
/-- What is known of a program: its types; what its functions come to; which deferred calls do nothing. -/
structure En where
  ty : Tr TE
  cl : FuncId → List RS → Sto → Option (RS × Sto)
  yl : Nat → List RS → Sto → Option (RS × Sto)
  idle : FuncId → Bool
def En.te (E : En) (t : TypeId) : Option TE := gd (Nat.blt t 1024) (E.ty.get 10 t)
structure EnOk (P : Program) (E : En) : Prop where
  ty : ∀ t e, E.te t = some e → TeOk P t e
  cl : ∀ (f : FuncId) (as : List RS) (h : Sto) (v : RS) (h' : Sto), E.cl f as h = some (v, h') → ∀ σ0 c σ k, Mt σ0 c h σ → RS.wfs h.n as → Kt σ0 c h v h' k → AT P f (RS.ivs c as) σ k
  yl : ∀ (l : Nat) (as : List RS) (h : Sto) (v : RS) (h' : Sto), E.yl l as h = some (v, h') → ∀ σ0 c σ k, Mt σ0 c h σ → RS.wfs h.n as → l < h.n → Kt σ0 c h v h' k → YC P (c.r l) (RS.ivs c as) σ k
  idle : ∀ f, E.idle f = true → (∃ fn, P.funcs[f]? = some fn ∧ fn.body.isSome = true ∧ fn.name ≠ "runtime.NumGoroutine") ∧ ∀ vs, IdleF P f vs
def oOpd (fr : Tr RS) : Option Operand → Option (Option RS)
  | none => some none
  | some x => match eEv fr x with
    | some v => some (some v)
    | none => none
def pureR (h : Sto) : Option RS → Option (RS × Sto)
  | some v => some (v, h)
  | none => none
def eCall (E : En) (c : Call) (fr : Tr RS) (h : Sto) : Option (RS × Sto) := match eEvs fr c.args.toList with
  | none => none
  | some as => match c.callee with
    | .value (.func f) => E.cl f as h
    | .value (.tmp t) => match eEv fr (.tmp t) with
      | some (.fn f fi ca) => gd (fi.all RS.isV && ca.all RS.isV) (E.cl f (fi ++ as ++ ca) h)
      | some (.yld l) => E.yl l as h
      | _ => none
    | .builtin .len => match as, c.argTypes.toList with
      | [x], [t] => match E.te t with
        | some te => pureR h (eLen te.k x)
        | none => none
      | _, _ => none
    | .builtin .append => match as, c.argTypes.toList with
      | [s, x], [t1, t2] => match E.te t1, E.te t2 with
        | some e1, some e2 => match notInt (some e2.k) with
          | true => eApp e1.k h s x
          | false => none
        | _, _ => none
      | _, _ => none
    | _ => none
def eOp (E : En) (o : Op) (fr : Tr RS) (h : Sto) : Option (RS × Sto) := match o with
  | .move x => pureR h (eEv fr x)
  | .assign x => pureR h (eEv fr x)
  | .pick c x y => match eEv fr c, eEv fr x, eEv fr y with
    | some c, some x, some y => pureR h (ePick c x y)
    | _, _, _ => none
  | .alloc t => match E.te t with
    | some te => eAlloc te.k h
    | none => none
  | .box _ x => match eEv fr x with
    | some x => eBox x h
    | none => none
  | .build t ps => match E.te t, eEvp fr ps.toList with
    | some te, some vs => pureR h (eBuild te.k vs)
    | _, _ => none
  | .buildSlice t n ps => match E.te t, eEvp fr ps.toList with
    | some te, some vs => pureR h (eBuildS te.k n vs)
    | _, _ => none
  | .load t x => match E.te t, eEv fr x with
    | some te, some x => pureR h (eLoad te.k h x)
    | _, _ => none
  | .store t x y => match E.te t, eEv fr x, eEv fr y with
    | some te, some x, some y => match eStore te.k h x y with
      | some h' => some (.v undef, h')
      | none => none
    | _, _, _ => none
  | .nilCheck x => match eEv fr x with
    | some x => pureR h (eNil x)
    | none => none
  | .binOp op t x y _ => match E.te t, eEv fr x, eEv fr y with
    | some te, some x, some y => pureR h (eBin op te x y)
    | _, _, _ => none
  | .unOp op _ x => match eEv fr x with
    | some x => pureR h (eUn op x)
    | none => none
  | .convert s d x => match E.te s, E.te d, eEv fr x with
    | some i, some j, some x => eConv i.k j.k h x
    | _, _, _ => none
  | .makeFunc fn fi ca => match eEvs fr fi.toList, eEvs fr ca.toList with
    | some fi, some ca => pureR h (eFunc fn fi ca)
    | _, _ => none
  | .slice t x lo hi mx => match E.te t, eEv fr x, oOpd fr lo, oOpd fr hi, oOpd fr mx with
    | some te, some x, some lo, some hi, some mx => pureR h (eSli te.k h x lo hi mx)
    | _, _, _, _, _ => none
  | .fieldAddr s x f => match E.te s, eEv fr x with
    | some te, some x => pureR h (eFadr te.k f x)
    | _, _ => none
  | .field s x f => match E.te s, eEv fr x with
    | some te, some x => pureR h (eFld te.k f x)
    | _, _ => none
  | .indexAddr t x ix => match E.te t, eEv fr x, eEv fr ix with
    | some te, some x, some ix => pureR h (eIadr te.k x ix)
    | _, _, _ => none
  | .index t x ix => match E.te t, eEv fr x, eEv fr ix with
    | some te, some x, some ix => pureR h (eIdx te.k x ix)
    | _, _, _ => none
  | .extract x j => match eEv fr x with
    | some x => pureR h (eExt x j)
    | none => none
  | .call c => eCall E c fr h
  | .makeSlice t l m => match E.te t, eEv fr l, eEv fr m with
    | some te, some l, some m => eMkSl te.k h l m
    | _, _, _ => none
  | .makeInterface t x => match E.te t, eEv fr x with
    | some te, some x => pureR h (eMkI te t x)
    | _, _ => none
  | .typeAssert x _ u false => match E.te u, eEv fr x with
    | some te, some x => pureR h (eTyA te u x)
    | _, _ => none
  | .defer c => match c.callee, c.args.toList with
    | .value (.tmp t), [] => match eEv fr (.tmp t) with
      | some (.fn f _ _) => gd (E.idle f) (some (.v undef, h))
      | _ => none
    | _, _ => none
  | _ => none
theorem pureR_some {x : Option RS} (he : pureR h x = some (v, h')) : x = some v ∧ h' = h := by
  cases x with
  | none => cases he
  | some y => simp only [pureR, Option.some.injEq, Prod.mk.injEq] at he; exact ⟨by rw [he.1], he.2.symm⟩
theorem oOpd_ok {x : Option Operand} {y : Option RS} (he : oOpd fr x = some y) : x.map (ifr c fr).ev = y.map (RS.iv c) := by
  cases x with
  | none => simp only [oOpd, Option.some.injEq] at he; subst he; rfl
  | some x =>
    simp only [oOpd] at he
    split at he
    · rename_i v hv
      injection he with he; subst he
      simp only [Option.map_some, eEv_ok hv]
    · cases he
theorem eCall_ok {E : En} (hE : EnOk P E) (hM : Mt σ0 c h σ) (hf : wfr h.n fr) {cc : Call} (he : eCall E cc fr h = some (v, h')) (hk : Kt σ0 c h v h' k) : aCallOp P cc (ifr c fr) σ k := by
  obtain ⟨callee, args, ts⟩ := cc
  unfold eCall at he
  simp only at he
  split at he
  · cases he
  · rename_i as has
    have hav : args.toList.map (ifr c fr).ev = RS.ivs c as := by rw [eEvs_ok has, ivs_map]
    have haw := eEvs_wf hf has
    split at he
    · simp only [aCallOp]
      rw [hav]
      exact hE.cl _ _ _ _ _ he σ0 c σ k hM haw hk
    · rename_i t
      simp only [aCallOp]
      rw [hav]
      split at he
      · rename_i f fi ca hx
        have h1 := eEv_ok (c := c) hx
        have h2 := eEv_wf hf hx
        simp only [RS.wf] at h2
        rw [gd_some, Bool.and_eq_true] at he
        have := hE.cl _ _ _ _ _ he.2 σ0 c σ k hM (wfs_app (wfs_app h2.1 haw) h2.2) hk
        simp only [Fr.ev, RS.iv, RS.vv] at h1
        rw [h1]
        have e : ∀ l : List RS, l.all RS.isV = true → (RS.vvs c l).map AV.v = RS.ivs c l := fun l hl => by
          rw [vvs_map, ivs_map, List.map_map]
          exact List.map_congr_left fun x hx => (iv_v (List.all_eq_true.1 hl x hx)).symm
        simp only [aCallV, e fi he.1.1, e ca he.1.2, ← ivs_app]
        exact this
      · rename_i l hx
        have h1 := eEv_ok (c := c) hx
        have h2 := eEv_wf hf hx
        simp only [RS.wf] at h2
        simp only [Fr.ev, RS.iv, RS.vv] at h1
        rw [h1]
        exact ⟨rfl, rfl, hE.yl _ _ _ _ _ he σ0 c σ k hM haw h2 hk⟩
      · cases he
    · split at he
      · rename_i x t hts
        split at he
        · rename_i te hte
          obtain ⟨hq, rfl⟩ := pureR_some he
          replace he := hq
          obtain ⟨x1, hx1⟩ : ∃ x1, args.toList = [x1] := by
            match hl : args.toList, has with
            | [x1], _ => exact ⟨x1, rfl⟩
            | [], has => simp [eEvs] at has
            | a :: b :: l, has =>
              have := congrArg List.length hav
              rw [hl, List.length_map, ivs_len] at this
              simp at this
          rw [hx1] at hav
          simp only [List.map_cons, List.map_nil, RS.ivs, List.cons.injEq, and_true] at hav
          simp only [aCallOp, hx1, hts, (hE.ty _ _ hte).k, hav]
          exact eLen_ok he (hk.same hM (eLen_wf he))
        · cases he
      · cases he
    · split at he
      · rename_i s x t1 t2 hts
        split at he
        · rename_i e1 e2 ht1 ht2
          split at he
          · rename_i hni
            obtain ⟨x1, x2, hx1⟩ : ∃ x1 x2, args.toList = [x1, x2] := by
              have := congrArg List.length hav
              rw [List.length_map, ivs_len] at this
              match hl : args.toList with
              | [x1, x2] => exact ⟨x1, x2, rfl⟩
              | [] => rw [hl] at this; simp at this
              | [_] => rw [hl] at this; simp at this
              | _ :: _ :: _ :: _ => rw [hl] at this; simp at this
            rw [hx1] at hav
            simp only [List.map_cons, List.map_nil, RS.ivs, List.cons.injEq, and_true] at hav
            simp only [RS.wfs, and_true] at haw
            simp only [aCallOp, hx1, hts, (hE.ty _ _ ht1).k, (hE.ty _ _ ht2).k, hav.1, hav.2]
            exact ⟨hni, eApp_ok hM haw.1 haw.2 he hk⟩
          · cases he
        · cases he
      · cases he
    · cases he
theorem eOp_ok {E : En} (hE : EnOk P E) (hM : Mt σ0 c h σ) (hf : wfr h.n fr) {o : Op} (he : eOp E o fr h = some (v, h')) (hk : Kt σ0 c h v h' k) : aOp P o (ifr c fr) σ k := by
  cases o with
  | move x =>
    obtain ⟨hq, rfl⟩ := pureR_some he
    replace he := hq
    simp only [aOp, eEv_ok he]
    exact hk.same hM (eEv_wf hf he)
  | assign x =>
    obtain ⟨hq, rfl⟩ := pureR_some he
    replace he := hq
    simp only [aOp, eEv_ok he]
    exact hk.same hM (eEv_wf hf he)
  | pick p x y =>
    simp only [eOp] at he
    split at he
    · rename_i p' x' y' h1 h2 h3
      obtain ⟨hq, rfl⟩ := pureR_some he
      replace he := hq
      simp only [aOp, eEv_ok h1, eEv_ok h2, eEv_ok h3]
      exact ePick_ok he (hk.same hM (ePick_wf (eEv_wf hf h2) (eEv_wf hf h3) he))
    · cases he
  | alloc t =>
    simp only [eOp] at he
    split at he
    · rename_i te hte
      simp only [aOp, (hE.ty _ _ hte).k]
      exact eAlloc_ok hM he hk
    · cases he
  | box t x =>
    simp only [eOp] at he
    split at he
    · rename_i x' h1
      simp only [aOp, eEv_ok h1]
      exact eBox_ok hM (eEv_wf hf h1) he hk
    · cases he
  | build t ps =>
    simp only [eOp] at he
    split at he
    · rename_i te vs hte h1
      obtain ⟨hq, rfl⟩ := pureR_some he
      replace he := hq
      simp only [aOp, (hE.ty _ _ hte).k, eEvp_ok h1]
      exact eBuild_ok hM.a he (hk.same hM (eBuild_wf (eEvp_wf hf h1) he))
    · cases he
  | buildSlice t m ps =>
    simp only [eOp] at he
    split at he
    · rename_i te vs hte h1
      obtain ⟨hq, rfl⟩ := pureR_some he
      replace he := hq
      simp only [aOp, (hE.ty _ _ hte).k, eEvp_ok h1]
      exact eBuildS_ok hM.a he (hk.same hM (eBuildS_wf (eEvp_wf hf h1) he))
    · cases he
  | load t x =>
    simp only [eOp] at he
    split at he
    · rename_i te x' hte h1
      obtain ⟨hq, rfl⟩ := pureR_some he
      replace he := hq
      simp only [aOp, (hE.ty _ _ hte).k, eEv_ok h1]
      exact eLoad_ok hM (eEv_wf hf h1) he (hk.same hM (eLoad_wf hM.wf (eEv_wf hf h1) he))
    · cases he
  | store t x y =>
    simp only [eOp] at he
    split at he
    · rename_i te x' y' hte h1 h2
      split at he
      · rename_i h2' hst
        injection he with he
        injection he with h3 h4
        subst h3; subst h4
        simp only [aOp, (hE.ty _ _ hte).k, eEv_ok h1, eEv_ok h2]
        refine eStore_ok hM (eEv_wf hf h1) (eEv_wf hf h2) hst fun σ' hn hkp hM' => ?_
        have := hk c σ' (.refl _ _) hM' (by omega) hkp (by simp only [RS.wf])
        simpa only [RS.iv, RS.vv] using this
      · cases he
    · cases he
  | nilCheck x =>
    simp only [eOp] at he
    split at he
    · rename_i x' h1
      obtain ⟨hq, rfl⟩ := pureR_some he
      replace he := hq
      simp only [aOp, eEv_ok h1]
      exact eNil_ok he (hk.same hM (eNil_wf (eEv_wf hf h1) he))
    · cases he
  | binOp op t x y ty =>
    simp only [eOp] at he
    split at he
    · rename_i te x' y' hte h1 h2
      obtain ⟨hq, rfl⟩ := pureR_some he
      replace he := hq
      simp only [aOp, eEv_ok h1, eEv_ok h2]
      exact eBin_ok (hE.ty _ _ hte) he (hk.same hM (eBin_wf he))
    · cases he
  | unOp op t x =>
    simp only [eOp] at he
    split at he
    · rename_i x' h1
      obtain ⟨hq, rfl⟩ := pureR_some he
      replace he := hq
      simp only [aOp, eEv_ok h1]
      exact eUn_ok he (hk.same hM (eUn_wf he))
    · cases he
  | convert s d x =>
    simp only [eOp] at he
    split at he
    · rename_i i j x' hi hj h1
      simp only [aOp, (hE.ty _ _ hi).k, (hE.ty _ _ hj).k, eEv_ok h1]
      exact eConv_ok hM (eEv_wf hf h1) he hk
    · cases he
  | makeFunc fn fi ca =>
    simp only [eOp] at he
    split at he
    · rename_i fi' ca' h1 h2
      obtain ⟨hq, rfl⟩ := pureR_some he
      replace he := hq
      simp only [aOp]
      exact eFunc_ok (eEvs_ok h1) (eEvs_ok h2) he (hk.same hM (eFunc_wf (eEvs_wf hf h1) (eEvs_wf hf h2) he))
    · cases he
  | slice t x lo hi mx =>
    simp only [eOp] at he
    split at he
    · rename_i te x' lo' hi' mx' hte h1 h2 h3 h4
      obtain ⟨hq, rfl⟩ := pureR_some he
      replace he := hq
      simp only [aOp, (hE.ty _ _ hte).k, eEv_ok h1, oOpd_ok h2, oOpd_ok h3, oOpd_ok h4]
      exact eSli_ok hM (eEv_wf hf h1) he (hk.same hM (eSli_wf (eEv_wf hf h1) he))
    · cases he
  | fieldAddr s x f =>
    simp only [eOp] at he
    split at he
    · rename_i te x' hte h1
      obtain ⟨hq, rfl⟩ := pureR_some he
      replace he := hq
      simp only [aOp, (hE.ty _ _ hte).k, eEv_ok h1]
      exact eFadr_ok he (hk.same hM (eFadr_wf (eEv_wf hf h1) he))
    · cases he
  | field s x f =>
    simp only [eOp] at he
    split at he
    · rename_i te x' hte h1
      obtain ⟨hq, rfl⟩ := pureR_some he
      replace he := hq
      simp only [aOp, (hE.ty _ _ hte).k, eEv_ok h1]
      exact eFld_ok he (hk.same hM (eFld_wf (eEv_wf hf h1) he))
    · cases he
  | indexAddr t x ix =>
    simp only [eOp] at he
    split at he
    · rename_i te x' y' hte h1 h2
      obtain ⟨hq, rfl⟩ := pureR_some he
      replace he := hq
      simp only [aOp, (hE.ty _ _ hte).k, eEv_ok h1, eEv_ok h2]
      exact eIadr_ok he (hk.same hM (eIadr_wf (eEv_wf hf h1) he))
    · cases he
  | index t x ix =>
    simp only [eOp] at he
    split at he
    · rename_i te x' y' hte h1 h2
      obtain ⟨hq, rfl⟩ := pureR_some he
      replace he := hq
      simp only [aOp, (hE.ty _ _ hte).k, eEv_ok h1, eEv_ok h2]
      exact eIdx_ok he (hk.same hM (eIdx_wf (eEv_wf hf h1) he))
    · cases he
  | extract x j =>
    simp only [eOp] at he
    split at he
    · rename_i x' h1
      obtain ⟨hq, rfl⟩ := pureR_some he
      replace he := hq
      simp only [aOp, eEv_ok h1]
      exact eExt_ok he (hk.same hM (eExt_wf (eEv_wf hf h1) he))
    · cases he
  | call cc => exact eCall_ok hE hM hf he hk
  | makeSlice t l m =>
    simp only [eOp] at he
    split at he
    · rename_i te x' y' hte h1 h2
      simp only [aOp, aMore, (hE.ty _ _ hte).k, eEv_ok h1, eEv_ok h2]
      exact eMkSl_ok hM he hk
    · cases he
  | makeInterface t x =>
    simp only [eOp] at he
    split at he
    · rename_i te x' hte h1
      obtain ⟨hq, rfl⟩ := pureR_some he
      replace he := hq
      simp only [aOp, aMore, eEv_ok h1]
      refine eMkI_ok (hE.ty _ _ hte) he (hk.same hM ?_)
      unfold eMkI at he
      rw [gd_some] at he
      have h2 := he.2
      injection h2 with h2
      subst h2
      simpa only [RS.wf] using eEv_wf hf h1
    · cases he
  | typeAssert x t u ok =>
    cases ok with
    | true => cases he
    | false =>
      simp only [eOp] at he
      split at he
      · rename_i te x' hte h1
        obtain ⟨hq, rfl⟩ := pureR_some he
        replace he := hq
        simp only [aOp, aMore, eEv_ok h1]
        refine eTyA_ok (hE.ty _ _ hte) he (hk.same hM ?_)
        have hw := eEv_wf hf h1
        unfold eTyA at he
        split at he
        · rw [gd_some] at he
          have h2 := he.2
          injection h2 with h2
          subst h2
          simpa only [RS.wf] using hw
        · cases he
      · cases he
  | defer cc =>
    obtain ⟨callee, args, ts⟩ := cc
    simp only [eOp] at he
    split at he
    · rename_i t ha
      split at he
      · rename_i f fi ca h1
        rw [gd_some] at he
        obtain ⟨hi, he⟩ := he
        injection he with he
        injection he with h3 h4
        subst h3; subst h4
        have h5 := eEv_ok (c := c) h1
        simp only [Fr.ev, RS.iv, RS.vv] at h5
        simp only [aOp, aMore, aDefer, ha, h5]
        have h6 := hE.idle f hi
        have := hk.same hM (by simp only [RS.wf])
        exact ⟨h6.1, h6.2 _, by simpa only [RS.iv, RS.vv] using this⟩
      · cases he
    · cases he
  | _ => cases he
end
end Go.Av
