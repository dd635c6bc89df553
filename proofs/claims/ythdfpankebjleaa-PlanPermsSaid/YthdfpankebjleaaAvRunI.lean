/-
  The program logic, part 28: runs that are reckoned: code, functions, programs.
  Conditions: none (a library of definitions and lemmas).
-/
import Derived.Test.YthdfpankebjleaaAvRunH
set_option linter.unusedVariables false
set_option linter.unusedSimpArgs false
namespace Go.Av
open Go Go.RowKit

abbrev ER := Option (AEx × Tr RS × Sto)
def eLoop (b : Tr RS → Sto → ER) : Nat → Tr RS → Sto → ER
  | 0, _, _ => none
  | m + 1, fr, h => match b fr h with
    | some (.normal, fr', h') => eLoop b m fr' h'
    | r => r
def pFind (id : Nat) : Pls → Option (List PS)
  | [] => none
  | (i, p) :: l => match Nat.beq i id with
    | true => some p
    | false => pFind id l
/-- The orders of the drawn regions are good. -/
def plsOk (P : Program) (pls : Pls) : Code → Bool
  | .region id ops true => match pFind id pls with
    | some pl => pl.length == ops.toList.length && planOk P ops.toList.toArray pl (Array.replicate ops.toList.length false) []
    | none => false
  | .seq x y => plsOk P pls x && plsOk P pls y
  | .cond _ x y => plsOk P pls x && plsOk P pls y
  | .block _ x => plsOk P pls x
  | .loop x => plsOk P pls x
  | .scope x => plsOk P pls x
  | .rangeFunc _ _ x y => plsOk P pls x && plsOk P pls y
  | _ => true
def eRange (E : En) (pls : Pls) (g : RS) (ps : List Nat) (assign body : Code) (fr : Tr RS) (h : Sto) : ER := match g with
  | .fn f fi ca => gd (fi.all RS.isV && ca.all RS.isV) (match h.new (.loop fr ps assign body .ready none pls) with
    | some (l, h1) => match E.cl f (fi ++ [.yld l] ++ ca) h1 with
      | some (_, h2) => match h2.get l with
        | .loop _ _ _ _ st pend _ => match st with
          | .busy => none
          | _ => match pend with
            | none => some (.normal, fr, h2.put l .gone)
            | some .ret => some (.ret, fr, h2.put l .gone)
            | some (.exit id) => some (.exit id, fr, h2.put l .gone)
            | _ => none
        | _ => none
      | none => none
    | none => none)
  | _ => none
def eCode (E : En) (lf : Nat) (pls : Pls) : Code → Tr RS → Sto → ER
  | .skip, fr, h => some (.normal, fr, h)
  | .region id ops false, fr, h => match eOps E (dsts ops) ops.toList fr h with
    | some (fr', h') => some (.normal, fr', h')
    | none => none
  | .region id ops true, fr, h => match pFind id pls with
    | some pl => match ePlan E (ops.toList.map (·.dst)) ops.toList pl [] fr h with
      | some (fr', h') => some (.normal, fr', h')
      | none => none
    | none => none
  | .seq x y, fr, h => match eCode E lf pls x fr h with
    | some (.normal, fr', h') => eCode E lf pls y fr' h'
    | r => r
  | .cond q x y, fr, h => match eEv fr q with
    | some (.v (.bool true)) => eCode E lf pls x fr h
    | some (.v (.bool false)) => eCode E lf pls y fr h
    | _ => none
  | .block id x, fr, h => match eCode E lf pls x fr h with
    | some (.exit j, fr', h') => match Nat.beq j id with
      | true => some (.normal, fr', h')
      | false => some (.exit j, fr', h')
    | r => r
  | .loop x, fr, h => eLoop (eCode E lf pls x) lf fr h
  | .exit id, fr, h => some (.exit id, fr, h)
  | .scope x, fr, h => match eCode E lf pls x fr h with
    | some (.goto _, _, _) => none
    | r => r
  | .ret, fr, h => some (.ret, fr, h)
  | .label _, fr, h => some (.normal, fr, h)
  | .rangeFunc g ps assign body, fr, h => match eEv fr g with
    | some g => eRange E pls g ps.toList assign body fr h
    | none => none
  | _, _, _ => none

section
variable {P : Program} {σ0 σ : St} {c c' : Cx} {h h' : Sto} {n : Nat} {fr fr' : Tr RS} {v : RS}
theorem eLoop_ok {x : Code} {b : Tr RS → Sto → ER}
    (hb : ∀ (e : AEx) (fr : Tr RS) (h : Sto) (fr' : Tr RS) (h' : Sto) (c : Cx) (σ : St) (K : AK), b fr h = some (e, fr', h') → Mt σ0 c h σ → wfr h.n fr → Kf σ0 c h fr' h' (K e) → aCode P x K (ifr c fr) σ) {K : AK} {e : AEx} (hn : e ≠ .normal) :
    ∀ {m : Nat} {fr : Tr RS} {h : Sto} {c : Cx} {σ : St}, eLoop b m fr h = some (e, fr', h') → Mt σ0 c h σ → wfr h.n fr → Kf σ0 c h fr' h' (K e) → aLoopN P x K m (ifr c fr) σ
  | 0, fr, h, c, σ, he, _, _, _ => by cases he
  | m + 1, fr, h, c, σ, he, hM, hf, hk => by
    simp only [eLoop] at he
    show aCode P x (AK.then (aLoopN P x K m) K) (ifr c fr) σ
    split at he
    · rename_i fr1 h1 hb1
      refine hb _ _ _ _ _ c σ _ hb1 hM hf fun c1 σ1 ha hM1 hn1 hkp hf1 => ?_
      exact eLoop_ok hb hn he hM1 hf1 (hk.then ha hn1 hkp)
    · rename_i hne
      rw [he] at hne
      refine hb _ _ _ _ _ c σ _ he hM hf fun c1 σ1 ha hM1 hn1 hkp hf1 => ?_
      have := hk c1 σ1 ha hM1 hn1 hkp hf1
      cases e with
      | normal => exact absurd rfl hn
      | _ => exact this
theorem eLoop_end {b : Tr RS → Sto → ER} {e : AEx} : ∀ {m : Nat} {fr : Tr RS} {h : Sto}, eLoop b m fr h = some (e, fr', h') → e ≠ .normal
  | 0, fr, h, he => by cases he
  | m + 1, fr, h, he => by
    simp only [eLoop] at he
    split at he
    · exact eLoop_end he
    · rename_i hne
      intro h2
      subst h2
      exact hne _ _ he
theorem eRange_ok {E : En} (hE : EnOk P E) {pls : Pls} {g : RS} {ps : List Nat} {assign body : Code} {K : AK} {e : AEx} (hM : Mt σ0 c h σ) (hf : wfr h.n fr) (hg : g.wf h.n) (he : eRange E pls g ps assign body fr h = some (e, fr', h')) (hk : Kf σ0 c h fr' h' (K e)) :
    aRange P (g.iv c) ps assign body K (ifr c fr) σ := by
  unfold eRange at he
  split at he
  · rename_i f fi ca
    rw [gd_some, Bool.and_eq_true] at he
    obtain ⟨hv, he⟩ := he
    split at he
    · rename_i l h1 hnew
      split at he
      · rename_i r h2 hcl
        have hl := new_n hnew
        subst hl
        simp only [RS.iv, RS.vv, aRange]
        intro nn b hb hbx
        have hag := more_agree c h.n b nn
        have hfr := ifr_agree hag hf
        obtain ⟨_, hn1, hM1⟩ := hM.new (k := nn) (x := .loop (ifr c fr) nn ps assign body .ready none) hb hnew (by simp only [io]; rw [hfr]; simp only [Cx.more, if_true]) hf (Nat.zero_le _)
        simp only [RS.wf] at hg
        have e1 : ∀ l : List RS, l.all RS.isV = true → RS.wfs h.n l → (RS.vvs c l).map AV.v = RS.ivs (c.more h.n b nn) l := fun l hl hw => by
          rw [ivs_agree hag l hw, vvs_map, ivs_map, List.map_map]
          exact List.map_congr_left fun x hx => (iv_v (List.all_eq_true.1 hl x hx)).symm
        have hargs : (RS.vvs c fi).map AV.v ++ [AV.v (.func (.yield b) #[] #[])] ++ (RS.vvs c ca).map AV.v = RS.ivs (c.more h.n b nn) (fi ++ [.yld h.n] ++ ca) := by
          rw [e1 fi hv.1 hg.1, e1 ca hv.2 hg.2, ivs_app, ivs_app]
          simp only [RS.ivs, RS.iv, RS.vv, Cx.more, if_true]
        have hwa : RS.wfs h1.n (fi ++ [.yld h.n] ++ ca) := by
          rw [hn1]
          refine wfs_app (wfs_app (wfs_mono (by omega) _ hg.1) ?_) (wfs_mono (by omega) _ hg.2)
          simp only [RS.wfs, RS.wf, and_true]; omega
        have hlg : h1.get h.n = .loop fr ps assign body .ready none pls := by
          unfold Sto.new at hnew
          rw [gd_some, blt_iff] at hnew
          obtain ⟨hlt, hnew⟩ := hnew
          injection hnew with hnew
          injection hnew with _ h3
          subst h3
          have := Sto.get_put (h := h) (o := .loop fr ps assign body .ready none pls) hlt hlt
          rw [if_pos rfl] at this
          exact this
        have hkn := Keep.new hnew
        rw [hargs]
        refine hE.cl _ _ _ _ _ hcl σ0 _ _ _ hM1 hwa fun c2 σ2 ha2 hM2 hn2 hkp2 hr => ?_
        have hrb : c2.r h.n = b := by rw [ha2.r h.n (by omega)]; simp [Cx.more]
        have hknn : c2.k h.n = nn := by rw [ha2.k h.n (by omega)]; simp [Cx.more]
        have hag2 : Agree h.n c c2 := hag.trans ha2 (by omega)
        split at he
        · rename_i fr3 ps3 a3 b3 st pend pls3 hget
          rcases hkp2.lp h.n fr ps assign body .ready none pls (by omega) hlg with hgone | ⟨st', pend', hget'⟩
          · rw [hgone] at hget; cases hget
          rw [hget'] at hget
          injection hget with q1 q2 q3 q4 q5 q6 q7
          subst q1; subst q2; subst q3; subst q4; subst q5; subst q6; subst q7
          have hfr2 := ifr_agree hag2 hf
          have hob := hM2.ob h.n (.loop (ifr c fr) nn ps assign body st' pend') (by omega) (by rw [hget']; simp only [io, hfr2, hknn])
          rw [hrb] at hob
          have hne : h2.get h.n ≠ .gone := by rw [hget']; intro e; cases e
          have hM3 := hM2.del (i := h.n) (by omega) hne
          rw [hrb] at hM3
          have hkd : Keep h2 (h2.put h.n .gone) := .put hM2.wf.lt (by omega) (fun _ _ _ _ _ _ _ _ => .inl rfl) (fun _ => rfl)
          have hfin : ∀ e, (h' = h2.put h.n .gone ∧ fr' = fr) → Kf σ0 c h fr' h' (K e) → K e (ifr c fr) (σ2.del b) := fun e ⟨e1, e2⟩ hk => by
            subst e1; subst e2
            have := hk c2 _ hag2 hM3 (by show h.n ≤ h2.n; omega) ((hkn.trans hkp2 (by omega)).trans hkd (by omega)) (wfr_mono (by show h.n ≤ h2.n; omega) hf)
            rw [hfr2] at this
            exact this
          simp only [aAfter, hob]
          split at he
          · cases he
          · rename_i hst
            refine ⟨hst, ?_⟩
            unfold aPend
            split at he
            · injection he with he
              injection he with h3 h4
              injection h4 with h4 h5
              subst h3
              exact hfin _ ⟨h5.symm, h4.symm⟩ hk
            · injection he with he
              injection he with h3 h4
              injection h4 with h4 h5
              subst h3
              exact hfin _ ⟨h5.symm, h4.symm⟩ hk
            · injection he with he
              injection he with h3 h4
              injection h4 with h4 h5
              subst h3
              exact hfin _ ⟨h5.symm, h4.symm⟩ hk
            · cases he
        · cases he
      · cases he
    · cases he
  · cases he
theorem eCode_ok {E : En} (hE : EnOk P E) (hm : P.follows .mixedOrders = true) {lf : Nat} {pls : Pls} : ∀ (x : Code) {K : AK} {e : AEx} {fr fr' : Tr RS} {h h' : Sto} {c : Cx} {σ : St}, plsOk P pls x = true → eCode E lf pls x fr h = some (e, fr', h') → Mt σ0 c h σ → wfr h.n fr → Kf σ0 c h fr' h' (K e) → aCode P x K (ifr c fr) σ
  | .skip, K, e, fr, fr', h, h', c, σ, hp, he, hM, hf, hk => by
    simp only [eCode, Option.some.injEq, Prod.mk.injEq] at he
    obtain ⟨rfl, rfl, rfl⟩ := he
    exact hk c σ (.refl _ _) hM (Nat.le_refl _) (.refl h) hf
  | .region id ops false, K, e, fr, fr', h, h', c, σ, hp, he, hM, hf, hk => by
    simp only [eCode] at he
    split at he
    · rename_i fr1 h1 ho
      injection he with he
      injection he with h3 h4
      injection h4 with h4 h5
      subst h3; subst h4; subst h5
      simp only [aCode]
      exact eOps_ok hE ho hM hf hk
    · cases he
  | .region id ops true, K, e, fr, fr', h, h', c, σ, hp, he, hM, hf, hk => by
    simp only [eCode] at he
    simp only [plsOk] at hp
    split at he
    · rename_i pl hpl
      rw [hpl] at hp
      simp only [Bool.and_eq_true] at hp
      split at he
      · rename_i fr1 h1 ho
        injection he with he
        injection he with h3 h4
        injection h4 with h4 h5
        subst h3; subst h4; subst h5
        simp only [aCode]
        have e1 : ops = ops.toList.toArray := by simp
        rw [e1]
        exact aDraw_plan pl hm hp.1 hp.2 (ePlan_ok hE (S := []) hp.2 ho (fun s hs => by cases hs) hM hf hk)
      · cases he
    · cases he
  | .seq x y, K, e, fr, fr', h, h', c, σ, hp, he, hM, hf, hk => by
    simp only [plsOk, Bool.and_eq_true] at hp
    simp only [eCode] at he
    simp only [aCode]
    split at he
    · rename_i fr1 h1 h2
      refine eCode_ok hE hm x hp.1 h2 hM hf fun c1 σ1 ha hM1 hn1 hkp hf1 => ?_
      exact eCode_ok hE hm y hp.2 he hM1 hf1 (hk.then ha hn1 hkp)
    · rename_i hne
      refine eCode_ok hE hm x hp.1 he hM hf fun c1 σ1 ha hM1 hn1 hkp hf1 => ?_
      have := hk c1 σ1 ha hM1 hn1 hkp hf1
      cases e with
      | normal => exact absurd he (hne _ _)
      | _ => exact this
  | .cond q x y, K, e, fr, fr', h, h', c, σ, hp, he, hM, hf, hk => by
    simp only [plsOk, Bool.and_eq_true] at hp
    simp only [eCode] at he
    simp only [aCode]
    split at he
    · rename_i hq
      have := eEv_ok (c := c) hq
      simp only [RS.iv, RS.vv] at this
      rw [this]
      exact eCode_ok hE hm x hp.1 he hM hf hk
    · rename_i hq
      have := eEv_ok (c := c) hq
      simp only [RS.iv, RS.vv] at this
      rw [this]
      exact eCode_ok hE hm y hp.2 he hM hf hk
    · cases he
  | .block id x, K, e, fr, fr', h, h', c, σ, hp, he, hM, hf, hk => by
    simp only [plsOk] at hp
    simp only [eCode] at he
    simp only [aCode]
    split at he
    · rename_i j fr1 h1 h2
      split at he
      · rename_i hj
        rw [beq_iff] at hj
        injection he with he
        injection he with h3 h4
        injection h4 with h4 h5
        subst h3; subst h4; subst h5
        refine eCode_ok hE hm x hp h2 hM hf fun c1 σ1 ha hM1 hn1 hkp hf1 => ?_
        show (if j = id then _ else _)
        rw [if_pos hj]
        exact hk c1 σ1 ha hM1 hn1 hkp hf1
      · rename_i hj
        injection he with he
        injection he with h3 h4
        injection h4 with h4 h5
        subst h3; subst h4; subst h5
        refine eCode_ok hE hm x hp h2 hM hf fun c1 σ1 ha hM1 hn1 hkp hf1 => ?_
        show (if j = id then _ else _)
        rw [if_neg (fun e => by rw [beq_iff.2 e] at hj; cases hj)]
        exact hk c1 σ1 ha hM1 hn1 hkp hf1
    · rename_i hne
      refine eCode_ok hE hm x hp he hM hf fun c1 σ1 ha hM1 hn1 hkp hf1 => ?_
      have := hk c1 σ1 ha hM1 hn1 hkp hf1
      cases e with
      | exit j => exact absurd he (hne _ _ _)
      | _ => exact this
  | .loop x, K, e, fr, fr', h, h', c, σ, hp, he, hM, hf, hk => by
    simp only [plsOk] at hp
    simp only [eCode] at he
    simp only [aCode]
    refine aLoop_few lf ?_
    exact eLoop_ok (fun e fr h fr' h' c σ K h1 h2 h3 h4 => eCode_ok hE hm x hp h1 h2 h3 h4) (eLoop_end he) he hM hf hk
  | .exit id, K, e, fr, fr', h, h', c, σ, hp, he, hM, hf, hk => by
    simp only [eCode, Option.some.injEq, Prod.mk.injEq] at he
    obtain ⟨rfl, rfl, rfl⟩ := he
    exact hk c σ (.refl _ _) hM (Nat.le_refl _) (.refl h) hf
  | .scope x, K, e, fr, fr', h, h', c, σ, hp, he, hM, hf, hk => by
    simp only [plsOk] at hp
    simp only [eCode] at he
    simp only [aCode]
    split at he
    · cases he
    · rename_i hne
      refine eCode_ok hE hm x hp he hM hf fun c1 σ1 ha hM1 hn1 hkp hf1 => ?_
      have := hk c1 σ1 ha hM1 hn1 hkp hf1
      cases e with
      | goto j => exact absurd he (hne _ _ _)
      | _ => exact this
  | .ret, K, e, fr, fr', h, h', c, σ, hp, he, hM, hf, hk => by
    simp only [eCode, Option.some.injEq, Prod.mk.injEq] at he
    obtain ⟨rfl, rfl, rfl⟩ := he
    exact hk c σ (.refl _ _) hM (Nat.le_refl _) (.refl h) hf
  | .label _, K, e, fr, fr', h, h', c, σ, hp, he, hM, hf, hk => by
    simp only [eCode, Option.some.injEq, Prod.mk.injEq] at he
    obtain ⟨rfl, rfl, rfl⟩ := he
    exact hk c σ (.refl _ _) hM (Nat.le_refl _) (.refl h) hf
  | .rangeFunc g ps assign body, K, e, fr, fr', h, h', c, σ, hp, he, hM, hf, hk => by
    simp only [eCode] at he
    simp only [aCode]
    split at he
    · rename_i g' hg
      rw [eEv_ok hg]
      exact eRange_ok hE hM hf (eEv_wf hf hg) he hk
    · cases he
  | .goto _, K, e, fr, fr', h, h', c, σ, hp, he, hM, hf, hk => by simp only [eCode] at he; cases he
  | .refuse _, K, e, fr, fr', h, h', c, σ, hp, he, hM, hf, hk => by simp only [eCode] at he; cases he

/-! ### Functions -/
structure FE where
  fn : Func
  pls : Pls
def chkFe (P : Program) (fe : FE) : Bool := match fe.fn.body with
  | some c => okCode fe.fn.ntmps c && fe.fn.results.toList.all (fun q => decide (tmpOf q < fe.fn.ntmps)) && plsOk P fe.pls c
  | none => false
structure FeOk (P : Program) (f : FuncId) (fe : FE) : Prop where
  fn : P.funcs[f]? = some fe.fn
  nm : fe.fn.name ≠ "runtime.NumGoroutine"
  ok : chkFe P fe = true
def enterT : List RS → Nat → Tr RS → Tr RS
  | [], _, t => t
  | x :: l, i, t => enterT l (i + 1) (t.set 10 i x)
theorem enterT_get : ∀ {l : List RS} {i : Nat} {t : Tr RS} {j : Nat}, i + l.length ≤ 1024 → j < 1024 → (enterT l i t).get 10 j = if i ≤ j ∧ j < i + l.length then l[j - i]? else t.get 10 j
  | [], i, t, j, hi, hj => by simp only [enterT, List.length_nil, Nat.add_zero]; rw [if_neg (by omega)]
  | x :: l, i, t, j, hi, hj => by
    simp only [List.length_cons] at hi
    simp only [enterT, List.length_cons]
    rw [enterT_get (by omega) hj, Tr.get_set 10 _ _ _ _ (by simp; omega) (by simpa using hj)]
    by_cases h1 : j = i
    · subst h1
      rw [if_neg (by omega), if_pos rfl, if_pos (by omega)]
      simp
    · by_cases h2 : i + 1 ≤ j ∧ j < i + 1 + l.length
      · rw [if_pos h2, if_pos (by omega)]
        obtain ⟨k, hk⟩ : ∃ k, j - i = k + 1 := ⟨j - i - 1, by omega⟩
        rw [hk, show j - (i + 1) = k by omega]
        simp
      · rw [if_neg h2, if_neg h1, if_neg (by omega)]
theorem tre_get (j : Nat) : (Tr.e : Tr RS).get 10 j = none := rfl
theorem enter_iv {as : List RS} (h : as.length ≤ 1024) : ifr c (enterT as 0 .e) = enterFr (RS.ivs c as) := by
  funext j
  simp only [ifr, enterFr]
  by_cases hj : j < 1024
  · rw [if_pos hj, enterT_get (by omega) hj, tre_get]
    by_cases h2 : j < as.length
    · rw [if_pos (by omega), Nat.sub_zero]
      obtain ⟨x, hx⟩ : ∃ x, as[j]? = some x := ⟨as[j], by simp [h2]⟩
      rw [hx, ivs_getD hx]
    · rw [if_neg (by omega), List.getD_eq_getElem?_getD, List.getElem?_eq_none (by rw [ivs_len]; omega)]
      rfl
  · rw [if_neg hj, List.getD_eq_getElem?_getD, List.getElem?_eq_none (by rw [ivs_len]; omega)]
    rfl
theorem enter_wf {as : List RS} (h : as.length ≤ 1024) (hw : RS.wfs n as) : wfr n (enterT as 0 .e) := by
  intro j v hj hv
  rw [enterT_get (by omega) hj, tre_get] at hv
  split at hv
  · exact wfs_get hw hv
  · cases hv
def eRes1 (E : En) (fr : Tr RS) (h : Sto) : ResultVar → Option RS
  | .tmp t => eEv fr (.tmp t)
  | .cell b t => match E.te t, eEv fr (.tmp b) with
    | some te, some (.ptr i 0) => match h.get i with
      | .cells cs => eTake te.k.ag te.k.sz 0 cs
      | _ => none
    | _, _ => none
def eResL (E : En) (fr : Tr RS) (h : Sto) : List ResultVar → Option (List RS)
  | [] => some []
  | q :: l => match eRes1 E fr h q with
    | some x => match eResL E fr h l with
      | some xs => some (x :: xs)
      | none => none
    | none => none
def oneS : List RS → RS
  | [x] => x
  | l => .tup l
theorem oneS_iv (l : List RS) : (oneS l).iv c = oneR (RS.ivs c l) := by
  match l with
  | [] => simp only [oneS, RS.iv, RS.ivs, oneR]
  | [x] => simp only [oneS, RS.ivs, oneR]
  | x :: y :: l => simp only [oneS, RS.iv, RS.ivs, oneR]
theorem oneS_wf {l : List RS} (h : RS.wfs n l) : (oneS l).wf n := by
  match l, h with
  | [], h => simpa only [oneS, RS.wf] using h
  | [x], h => simp only [RS.wfs] at h; exact h.1
  | x :: y :: l, h => simpa only [oneS, RS.wf] using h
theorem eRes1_ok {E : En} (hE : EnOk P E) (hM : Mt σ0 c h σ) (hf : wfr h.n fr) {q : ResultVar} (he : eRes1 E fr h q = some v) : aRes1 P (ifr c fr) σ q = some (v.iv c) ∧ v.wf h.n := by
  cases q with
  | tmp t => simp only [eRes1] at he; exact ⟨congrArg some (eEv_ok he), eEv_wf hf he⟩
  | cell b t =>
    simp only [eRes1] at he
    split at he
    · rename_i te i hte hb
      split at he
      · rename_i cs hg
        have h1 := eEv_ok (c := c) hb
        have h2 := eEv_wf hf hb
        simp only [RS.wf] at h2
        simp only [Fr.ev, RS.iv, RS.vv] at h1
        have h3 := hM.ob i (.cells (RS.ivs c cs)) h2 (by rw [hg]; rfl)
        have hw := hM.wf.ob i h2
        rw [hg] at hw
        refine ⟨?_, eTake_wf hw he⟩
        have := eTake_ok (c := c) (K := fun a => a = v.iv c) he rfl
        unfold aPart at this
        simp only [aRes1, (hE.ty _ _ hte).k, aResC, h1, h3]
        cases hag : te.k.ag with
        | true =>
          rw [hag] at this
          simp only [if_true, Nat.zero_add, List.drop_zero] at this ⊢
          rw [if_pos this.1, this.2]
        | false =>
          rw [hag] at this
          simp only [Bool.false_eq_true, if_false] at this ⊢
          rw [if_pos this.1, this.2]
      · cases he
    · cases he
theorem eResL_ok {E : En} (hE : EnOk P E) (hM : Mt σ0 c h σ) (hf : wfr h.n fr) : ∀ {l : List ResultVar} {vs : List RS}, eResL E fr h l = some vs → aResL P (ifr c fr) σ l = some (RS.ivs c vs) ∧ RS.wfs h.n vs
  | [], vs, he => by simp only [eResL, Option.some.injEq] at he; subst he; exact ⟨rfl, by simp only [RS.wfs]⟩
  | q :: l, vs, he => by
    simp only [eResL] at he
    split at he
    · rename_i x hx
      split at he
      · rename_i xs hxs
        injection he with he
        subst he
        have h1 := eRes1_ok hE hM hf hx
        have h2 := eResL_ok hE hM hf hxs
        simp only [aResL, h1.1, h2.1, RS.ivs, RS.wfs]
        exact ⟨trivial, h1.2, h2.2⟩
      · cases he
    · cases he
def eFun (E : En) (lf : Nat) (fe : FE) (as : List RS) (h : Sto) : Option (RS × Sto) := gd (Nat.ble as.length 1024 && Nat.ble as.length fe.fn.ntmps) (match fe.fn.body with
  | some c => match eCode E lf fe.pls c (enterT as 0 .e) h with
    | some (.normal, fr', h') => match eResL E fr' h' fe.fn.results.toList with
      | some vs => some (oneS vs, h')
      | none => none
    | some (.ret, fr', h') => match eResL E fr' h' fe.fn.results.toList with
      | some vs => some (oneS vs, h')
      | none => none
    | _ => none
  | none => none)
theorem eFun_ok {E : En} (hE : EnOk P E) (hm : P.follows .mixedOrders = true) {lf : Nat} {f : FuncId} {fe : FE} (hfe : FeOk P f fe) {as : List RS} (he : eFun E lf fe as h = some (v, h')) (hM : Mt σ0 c h σ) (hw : RS.wfs h.n as) {k : AV → St → Prop} (hk : Kt σ0 c h v h' k) : AT P f (RS.ivs c as) σ k := by
  unfold eFun at he
  rw [gd_some, Bool.and_eq_true, ble_iff, ble_iff] at he
  obtain ⟨⟨hl1, hl2⟩, he⟩ := he
  have hok := hfe.ok
  unfold chkFe at hok
  split at he
  · rename_i cd hcd
    rw [hcd] at hok
    simp only [Bool.and_eq_true] at hok
    refine AT.of_body hfe.fn hcd hfe.nm hok.1.1 hok.1.2 (by rw [ivs_len]; exact hl2) ?_
    rw [← enter_iv hl1]
    have fin : ∀ fr1 h1 vs, eResL E fr1 h1 fe.fn.results.toList = some vs → v = oneS vs → h' = h1 → Kf σ0 c h fr1 h1 (aRet P k fe.fn.results.toList) := fun fr1 h1 vs hr e1 e2 c1 σ1 ha hM1 hn1 hkp hf1 => by
      subst e1; subst e2
      obtain ⟨g1, g2⟩ := eResL_ok hE hM1 hf1 hr
      refine ⟨_, by unfold aResult; rw [g1], _, σ1, View.refl _ _, ?_⟩
      rw [← oneS_iv]
      exact hk c1 σ1 ha hM1 hn1 hkp (oneS_wf g2)
    split at he
    · rename_i fr1 h1 hc1
      split at he
      · rename_i vs hvs
        injection he with he
        injection he with e1 e2
        exact eCode_ok hE hm cd hok.2 hc1 hM (enter_wf hl1 hw) (fin _ _ _ hvs e1.symm e2.symm)
      · cases he
    · rename_i fr1 h1 hc1
      split at he
      · rename_i vs hvs
        injection he with he
        injection he with e1 e2
        exact eCode_ok hE hm cd hok.2 hc1 hM (enter_wf hl1 hw) (fin _ _ _ hvs e1.symm e2.symm)
      · cases he
    · cases he
  · cases he
end
end Go.Av
