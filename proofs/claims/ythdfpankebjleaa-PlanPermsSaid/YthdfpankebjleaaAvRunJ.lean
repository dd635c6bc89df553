/-
  The program logic, part 29: runs that are reckoned: rounds of loops over functions; whole programs.
  Conditions: none (a library of definitions and lemmas).
-/
import Derived.Test.YthdfpankebjleaaAvRunI
set_option linter.unusedVariables false
set_option linter.unusedSimpArgs false
namespace Go.Av
open Go Go.RowKit

def parT : List Nat → List RS → Tr RS → Option (Tr RS)
  | p :: ps, a :: as, fr => gd (Nat.blt p 1024) (parT ps as (fr.set 10 p a))
  | _, _, fr => some fr
def eYield (P : Program) (E : En) (lf : Nat) (l : Nat) (as : List RS) (h : Sto) : Option (RS × Sto) := match h.get l with
  | .loop fr ps a b st pend pls => match st with
    | .ready => gd (Nat.beq as.length ps.length && flat a && flat b && plsOk P pls a && plsOk P pls b) (match parT ps as fr with
      | some fr0 => match eCode E lf pls a fr0 h with
        | some (.normal, fr1, h1) => match h1.get l with
          | .loop _ _ _ _ .ready none _ => match eCode E lf pls b fr1 (h1.put l (.loop fr ps a b .busy none pls)) with
            | some (e, _, h3) => match h3.get l with
              | .loop _ _ _ _ .busy _ _ => match e with
                | .normal => some (.v (.bool true), h3.put l (.loop fr ps a b .ready none pls))
                | .ret => some (.v (.bool false), h3.put l (.loop fr ps a b .done (some .ret) pls))
                | .exit id => some (.v (.bool false), h3.put l (.loop fr ps a b .done (some (.exit id)) pls))
                | .goto _ => none
              | _ => none
            | none => none
          | _ => none
        | _ => none
      | none => none)
    | _ => none
  | _ => none
section
variable {P : Program} {σ0 σ : St} {c c' : Cx} {h h' : Sto} {n : Nat} {fr fr' : Tr RS} {v : RS}
theorem parT_ok : ∀ {ps : List Nat} {as : List RS} {fr fr' : Tr RS}, parT ps as fr = some fr' → ifr c fr' = parFr (ifr c fr) ps (RS.ivs c as)
  | p :: ps, a :: as, fr, fr', he => by
    simp only [parT, gd_some, blt_iff] at he
    obtain ⟨hp, he⟩ := he
    have := ePut_ok (c := c) (fr := fr) (d := some p) (v := a) (fr' := fr.set 10 p a) (by simp only [ePut]; rw [blt_iff.2 hp]; rfl)
    rw [parT_ok he, this]
    rfl
  | [], as, fr, fr', he => by simp only [parT, Option.some.injEq] at he; subst he; rfl
  | p :: ps, [], fr, fr', he => by simp only [parT, Option.some.injEq] at he; subst he; rfl
theorem parT_wf : ∀ {ps : List Nat} {as : List RS} {fr fr' : Tr RS}, wfr n fr → RS.wfs n as → parT ps as fr = some fr' → wfr n fr'
  | p :: ps, a :: as, fr, fr', hf, hw, he => by
    simp only [parT, gd_some, blt_iff] at he
    obtain ⟨hp, he⟩ := he
    simp only [RS.wfs] at hw
    exact parT_wf (ePut_wf (d := some p) hf hw.1 (by simp only [ePut]; rw [blt_iff.2 hp]; rfl)) hw.2 he
  | [], as, fr, fr', hf, _, he => by simp only [parT, Option.some.injEq] at he; subst he; exact hf
  | p :: ps, [], fr, fr', hf, _, he => by simp only [parT, Option.some.injEq] at he; subst he; exact hf
theorem eYield_ok {E : En} (hE : EnOk P E) (hm : P.follows .mixedOrders = true) {lf l : Nat} {as : List RS} (he : eYield P E lf l as h = some (v, h')) (hM : Mt σ0 c h σ) (hw : RS.wfs h.n as) (hl : l < h.n) {k : AV → St → Prop} (hk : Kt σ0 c h v h' k) :
    YC P (c.r l) (RS.ivs c as) σ k := by
  unfold eYield at he
  split at he
  · rename_i fr ps a b st pend pls hg
    split at he
    · rw [gd_some] at he
      simp only [Bool.and_eq_true, beq_iff] at he
      obtain ⟨⟨⟨⟨⟨hlen, hfa⟩, hfb⟩, hpa⟩, hpb⟩, he⟩ := he
      have hob := hM.ob l (.loop (ifr c fr) (c.k l) ps a b .ready pend) hl (by rw [hg]; rfl)
      have hfw := hM.wf.ob l hl
      rw [hg] at hfw
      refine yield_by hob (by rw [ivs_len]; exact hlen) (by rw [hfa, hfb]; rfl) ?_
      split at he
      · rename_i fr0 hpar
        rw [← parT_ok hpar]
        have hf0 := parT_wf hfw hw hpar
        split at he
        · rename_i fr1 h1 hca
          refine eCode_ok hE hm a hpa hca hM hf0 fun c1 σ1 ha1 hM1 hn1 hkp1 hf1 => ?_
          have hfr1 := ifr_agree ha1 hfw
          split at he
          · rename_i fq pq aq bq pls1 hg1
            have hr1 : h1.get l = .loop fr ps a b .ready none pls := by
              rcases hkp1.lp l fr ps a b .ready pend pls hl hg with h2 | ⟨st', pend', h2⟩
              · rw [h2] at hg1; cases hg1
              · rw [h2] at hg1
                injection hg1 with q1 q2 q3 q4 q5 q6 q7
                subst q5; subst q6
                exact h2
            have hob1 := hM1.ob l (.loop (ifr c fr) (c.k l) ps a b .ready none) (by omega) (by rw [hr1]; simp only [io, hfr1, ha1.k l hl])
            rw [ha1.r l hl] at hob1
            refine ⟨hob1, ?_⟩
            have hne1 : h1.get l ≠ .gone := by rw [hr1]; intro e; cases e
            have hM2 := hM1.put (i := l) (o := .loop fr ps a b .busy none pls) (x := .loop (ifr c fr) (c.k l) ps a b .busy none) (by omega) hne1 (by simp only [io, hfr1, ha1.k l hl]) (wfr_mono hn1 hfw) (Nat.zero_le _)
            rw [ha1.r l hl] at hM2
            have hkp2 : Keep h1 (h1.put l (.loop fr ps a b .busy none pls)) := .put hM1.wf.lt (by omega) (fun fr' ps' a' b' st' pend' pls' e => by
              rw [hr1] at e
              injection e with q1 q2 q3 q4 q5 q6 q7
              subst q1; subst q2; subst q3; subst q4; subst q7
              exact .inr ⟨.busy, none, rfl⟩) (fun e => absurd e hne1)
            split at he
            · rename_i e fr3 h3 hcb
              refine eCode_ok hE hm b hpb hcb hM2 hf1 fun c3 σ3 ha3 hM3 hn3 hkp3 hf3 => ?_
              have hn2 : h.n ≤ h3.n := Nat.le_trans hn1 hn3
              have hl2 : (h1.put l (.loop fr ps a b .busy none pls)).get l = .loop fr ps a b .busy none pls := by
                have := Sto.get_put (h := h1) (o := .loop fr ps a b .busy none pls) (i := l) (j := l) (by have := hM1.wf.lt; omega) (by have := hM1.wf.lt; omega)
                rw [if_pos rfl] at this
                exact this
              have ha13 : Agree h.n c c3 := ha1.trans ha3 hn1
              have hfr3 := ifr_agree ha13 hfw
              split at he
              · rename_i fq pq aq bq pendq plsq hg3
                have hr3 : ∃ p, h3.get l = .loop fr ps a b .busy p pls := by
                  rcases hkp3.lp l fr ps a b .busy none pls (by show l < h1.n; omega) hl2 with h2 | ⟨st', pend', h2⟩
                  · rw [h2] at hg3; cases hg3
                  · rw [h2] at hg3
                    injection hg3 with q1 q2 q3 q4 q5 q6 q7
                    subst q5
                    exact ⟨pend', h2⟩
                obtain ⟨p3, hr3⟩ := hr3
                have hob3 := hM3.ob l (.loop (ifr c fr) (c.k l) ps a b .busy p3) (by omega) (by rw [hr3]; simp only [io, hfr3, ha13.k l hl])
                rw [ha13.r l hl] at hob3
                have hne3 : h3.get l ≠ .gone := by rw [hr3]; intro e; cases e
                have fin : ∀ st' pend' (x : RS), x.wf 0 → v = x → h' = h3.put l (.loop fr ps a b st' pend' pls) → k (x.iv c3) (σ3.set (c.r l) (.loop (ifr c fr) (c.k l) ps a b st' pend')) := fun st' pend' x hx e1 e2 => by
                  subst e1; subst e2
                  have hM4 := hM3.put (i := l) (o := .loop fr ps a b st' pend' pls) (x := .loop (ifr c fr) (c.k l) ps a b st' pend') (by omega) hne3 (by simp only [io, hfr3, ha13.k l hl]) (wfr_mono hn2 hfw) (Nat.zero_le _)
                  rw [ha13.r l hl] at hM4
                  refine hk c3 _ ha13 hM4 hn2 ?_ (wf_mono (Nat.zero_le _) _ hx)
                  refine ((hkp1.trans hkp2 hn1).trans hkp3 (by show h.n ≤ h1.n; omega)).trans (.put hM3.wf.lt (by omega) (fun fr' ps' a' b' st'' pend'' pls' e => by
                    rw [hr3] at e
                    injection e with q1 q2 q3 q4 q5 q6 q7
                    subst q1; subst q2; subst q3; subst q4; subst q7
                    exact .inr ⟨st', pend', rfl⟩) (fun e => absurd e hne3)) hn2
                split at he
                · injection he with he
                  injection he with e1 e2
                  have := fin .ready none (.v (.bool true)) (by simp only [RS.wf]) e1.symm e2.symm
                  simp only [RS.iv, RS.vv] at this
                  exact ⟨⟨p3, hob3⟩, this⟩
                · injection he with he
                  injection he with e1 e2
                  have := fin .done (some .ret) (.v (.bool false)) (by simp only [RS.wf]) e1.symm e2.symm
                  simp only [RS.iv, RS.vv] at this
                  exact ⟨⟨p3, hob3⟩, this⟩
                · injection he with he
                  injection he with e1 e2
                  have := fin .done (some (.exit _)) (.v (.bool false)) (by simp only [RS.wf]) e1.symm e2.symm
                  simp only [RS.iv, RS.vv] at this
                  exact ⟨⟨p3, hob3⟩, this⟩
                · cases he
              · cases he
            · cases he
          · cases he
        · cases he
      · cases he
    · cases he
  · cases he

/-! ### Programs -/
def mkE (P : Program) (ty : Tr TE) (ft : Tr FE) (idle : FuncId → Bool) (lf : Nat) : Nat → En
  | 0 => ⟨ty, fun _ _ _ => none, fun _ _ _ => none, idle⟩
  | d + 1 => ⟨ty, fun f as h => match gd (Nat.blt f 1024) (ft.get 10 f) with
      | some fe => eFun (mkE P ty ft idle lf d) lf fe as h
      | none => none, fun l as h => eYield P (mkE P ty ft idle lf d) lf l as h, idle⟩
structure PrOk (P : Program) (ty : Tr TE) (ft : Tr FE) (idle : FuncId → Bool) : Prop where
  mx : P.follows .mixedOrders = true
  ty : ∀ t e, t < 1024 → ty.get 10 t = some e → TeOk P t e
  ft : ∀ f e, f < 1024 → ft.get 10 f = some e → FeOk P f e
  idle : ∀ f, idle f = true → (∃ fn, P.funcs[f]? = some fn ∧ fn.body.isSome = true ∧ fn.name ≠ "runtime.NumGoroutine") ∧ ∀ vs, IdleF P f vs
theorem mkE_ty {ty : Tr TE} {ft : Tr FE} {idle : FuncId → Bool} (hp : PrOk P ty ft idle) (lf d : Nat) (t : TypeId) (e : TE) (he : (mkE P ty ft idle lf d).te t = some e) : TeOk P t e := by
  have h2 : (mkE P ty ft idle lf d).ty = ty := by cases d <;> rfl
  simp only [En.te, h2, gd_some, blt_iff] at he
  exact hp.ty t e he.1 he.2
theorem mkE_ok {ty : Tr TE} {ft : Tr FE} {idle : FuncId → Bool} (hp : PrOk P ty ft idle) (lf : Nat) : ∀ d, EnOk P (mkE P ty ft idle lf d)
  | 0 => by
    refine ⟨mkE_ty hp lf 0, ?_, ?_, hp.idle⟩
    · intro f as h v h' he; cases he
    · intro l as h v h' he; cases he
  | d + 1 => by
    refine ⟨mkE_ty hp lf (d + 1), ?_, ?_, hp.idle⟩
    · intro f as h v h' he σ0 c σ k hM hw hk
      simp only [mkE] at he
      split at he
      · rename_i fe hfe
        rw [gd_some, blt_iff] at hfe
        exact eFun_ok (mkE_ok hp lf d) hp.mx (hp.ft f fe hfe.1 hfe.2) he hM hw hk
      · cases he
    · intro l as h v h' he σ0 c σ k hM hw hl hk
      exact eYield_ok (mkE_ok hp lf d) hp.mx he hM hw hl hk
/-- The whole run: a call, from where σ is tracked. -/
def run (P : Program) (ty : Tr TE) (ft : Tr FE) (idle : FuncId → Bool) (lf d : Nat) (f : FuncId) (as : List RS) : Option RS := match (mkE P ty ft idle lf d).cl f as ⟨0, .e⟩ with
  | some (v, _) => some v
  | none => none
theorem tre_so (i : Nat) : (Sto.mk 0 .e).get i = .gone := rfl
/-- **A call that was reckoned.** -/
theorem run_ok {ty : Tr TE} {ft : Tr FE} {idle : FuncId → Bool} (hp : PrOk P ty ft idle) {lf d : Nat} {f : FuncId} {as : List RS} {x : Value} (he : run P ty ft idle lf d f as = some (.v x)) (hcl : isClone P f = false) (a : Nat → AV) (ha : ∀ i, (a i).one = true ∧ (a i).cells = [a i]) (has : RS.wfs 0 as) :
    AT P f (RS.ivs ⟨fun i => i, fun i => i, a⟩ as) σ fun r σ' => r = .v x ∧ σ' = σ := by
  unfold run at he
  split at he
  · rename_i v h1 hc
    injection he with he
    subst he
    have hM : Mt σ ⟨fun i => i, fun i => i, a⟩ ⟨0, .e⟩ σ := ⟨ha, ⟨Nat.zero_le _, fun i hi => absurd hi (Nat.not_lt_zero _)⟩, fun y o h => h, fun i o hi => absurd hi (Nat.not_lt_zero _), fun i y o hi => absurd hi (Nat.not_lt_zero _), fun i j hi => absurd hi (Nat.not_lt_zero _), fun i hi => absurd hi (Nat.not_lt_zero _)⟩
    have h := (mkE_ok hp lf d).cl f as _ _ _ hc σ _ σ (fun r σ' => r = .v x ∧ ∀ y o, σ y = some o → σ' y = some o) hM has fun c' σ' _ hM' _ _ _ => ⟨by simp only [RS.iv, RS.vv], hM'.base⟩
    exact h.post hcl fun r σ' ⟨h1, h2⟩ => ⟨r, σ, view_drop h2, h1, rfl⟩
  · cases he
end
end Go.Av
