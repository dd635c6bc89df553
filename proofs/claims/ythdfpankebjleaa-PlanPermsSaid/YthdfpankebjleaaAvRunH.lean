/-
  The program logic, part 27: runs that are reckoned: regions, code.
  Conditions: none (a library of definitions and lemmas).
-/
import Derived.Test.YthdfpankebjleaaAvRunG
set_option linter.unusedVariables false
set_option linter.unusedSimpArgs false
namespace Go.Av
open Go Go.RowKit

/-! ### Are two values the same? -/
def valEq : Value → Value → Bool
  | .int k x, .int k' y => decide (k = k') && ieq x y
  | .bool a, .bool b => match a with
    | true => b
    | false => !b
  | .string x, .string y => beqB x.data.toList y.data.toList
  | .pointer none, .pointer none => true
  | .slice none 0 0, .slice none 0 0 => true
  | .nilFunc, .nilFunc => true
  | .nilIface, .nilIface => true
  | .map none, .map none => true
  | _, _ => false
theorem valEq_ok {x y : Value} (h : valEq x y = true) : x = y := by
  unfold valEq at h
  split at h
  · rw [Bool.and_eq_true, ieq_eq] at h
    rw [of_decide_eq_true h.1, of_decide_eq_true h.2]
  · rename_i a b; cases a <;> cases b <;> first | rfl | cases h
  · rw [beqB_iff, ← ba_eq] at h; rw [h]
  · rfl
  · rfl
  · rfl
  · rfl
  · rfl
  · cases h
mutual
def RS.beq : RS → RS → Bool
  | .v x, .v y => valEq x y
  | .opq i, .opq j => Nat.beq i j
  | .ptr i o, .ptr j p => Nat.beq i j && Nat.beq o p
  | .rp i k j f, .rp i' k' j' f' => Nat.beq i i' && Nat.beq k k' && Nat.beq j j' && Nat.beq f f'
  | .row i n, .row j m => Nat.beq i j && Nat.beq n m
  | .part i q l n, .part i' q' l' n' => Nat.beq i i' && Nat.beq q q' && Nat.beq l l' && Nat.beq n n'
  | .sl k es, .sl k' es' => Nat.beq k k' && RS.beqss es es'
  | .fsl k es, .fsl k' es' => Nat.beq k k' && RS.beqss es es'
  | .fp cs, .fp cs' => RS.beqs cs cs'
  | .agg cs, .agg cs' => RS.beqs cs cs'
  | .tup cs, .tup cs' => RS.beqs cs cs'
  | .fn f a b, .fn f' a' b' => Nat.beq f f' && RS.beqs a a' && RS.beqs b b'
  | .yld l, .yld l' => Nat.beq l l'
  | .ifc t x, .ifc t' x' => Nat.beq t t' && RS.beq x x'
  | .mp i, .mp j => Nat.beq i j
  | _, _ => false
def RS.beqs : List RS → List RS → Bool
  | [], [] => true
  | x :: l, y :: m => RS.beq x y && RS.beqs l m
  | _, _ => false
def RS.beqss : List (List RS) → List (List RS) → Bool
  | [], [] => true
  | x :: l, y :: m => RS.beqs x y && RS.beqss l m
  | _, _ => false
end
mutual
theorem rbeq_ok : ∀ {x y : RS}, RS.beq x y = true → x = y
  | .v x, y, h => by cases y <;> simp only [RS.beq, Bool.false_eq_true] at h; rw [valEq_ok h]
  | .opq i, y, h => by cases y <;> simp only [RS.beq, Bool.false_eq_true, beq_iff] at h; rw [h]
  | .ptr i o, y, h => by cases y <;> simp only [RS.beq, Bool.false_eq_true, Bool.and_eq_true, beq_iff] at h; rw [h.1, h.2]
  | .rp i k j f, y, h => by cases y <;> simp only [RS.beq, Bool.false_eq_true, Bool.and_eq_true, beq_iff] at h; rw [h.1.1.1, h.1.1.2, h.1.2, h.2]
  | .row i n, y, h => by cases y <;> simp only [RS.beq, Bool.false_eq_true, Bool.and_eq_true, beq_iff] at h; rw [h.1, h.2]
  | .part i q l n, y, h => by cases y <;> simp only [RS.beq, Bool.false_eq_true, Bool.and_eq_true, beq_iff] at h; rw [h.1.1.1, h.1.1.2, h.1.2, h.2]
  | .mt i p q, y, h => by cases y <;> simp only [RS.beq, Bool.false_eq_true] at h
  | .sl k es, y, h => by cases y <;> simp only [RS.beq, Bool.false_eq_true, Bool.and_eq_true, beq_iff] at h; rw [h.1, rbeqss_ok h.2]
  | .fsl k es, y, h => by cases y <;> simp only [RS.beq, Bool.false_eq_true, Bool.and_eq_true, beq_iff] at h; rw [h.1, rbeqss_ok h.2]
  | .fp cs, y, h => by cases y <;> simp only [RS.beq, Bool.false_eq_true] at h; rw [rbeqs_ok h]
  | .agg cs, y, h => by cases y <;> simp only [RS.beq, Bool.false_eq_true] at h; rw [rbeqs_ok h]
  | .tup cs, y, h => by cases y <;> simp only [RS.beq, Bool.false_eq_true] at h; rw [rbeqs_ok h]
  | .fn f a b, y, h => by cases y <;> simp only [RS.beq, Bool.false_eq_true, Bool.and_eq_true, beq_iff] at h; rw [h.1.1, rbeqs_ok h.1.2, rbeqs_ok h.2]
  | .yld l, y, h => by cases y <;> simp only [RS.beq, Bool.false_eq_true, beq_iff] at h; rw [h]
  | .ifc t x, y, h => by cases y <;> simp only [RS.beq, Bool.false_eq_true, Bool.and_eq_true, beq_iff] at h; rw [h.1, rbeq_ok h.2]
  | .mp i, y, h => by cases y <;> simp only [RS.beq, Bool.false_eq_true, beq_iff] at h; rw [h]
theorem rbeqs_ok : ∀ {x y : List RS}, RS.beqs x y = true → x = y
  | [], y, h => by cases y <;> simp only [RS.beqs, Bool.false_eq_true] at h; rfl
  | x :: l, y, h => by cases y <;> simp only [RS.beqs, Bool.false_eq_true, Bool.and_eq_true] at h; rw [rbeq_ok h.1, rbeqs_ok h.2]
theorem rbeqss_ok : ∀ {x y : List (List RS)}, RS.beqss x y = true → x = y
  | [], y, h => by cases y <;> simp only [RS.beqss, Bool.false_eq_true] at h; rfl
  | x :: l, y, h => by cases y <;> simp only [RS.beqss, Bool.false_eq_true, Bool.and_eq_true] at h; rw [rbeqs_ok h.1, rbeqss_ok h.2]
end

section
variable {P : Program} {σ0 σ : St} {c c' : Cx} {h h' : Sto} {n : Nat} {fr fr' : Tr RS} {v : RS}
/-! ### Regions -/
def ePut (fr : Tr RS) (d : Option Nat) (v : RS) : Option (Tr RS) := match d with
  | some t => gd (Nat.blt t 1024) (some (fr.set 10 t v))
  | none => some fr
theorem ePut_ok {d : Option Nat} (he : ePut fr d v = some fr') : ifr c fr' = (ifr c fr).put d (v.iv c) := by
  cases d with
  | none => simp only [ePut, Option.some.injEq] at he; subst he; rfl
  | some t =>
    simp only [ePut, gd_some, blt_iff, Option.some.injEq] at he
    obtain ⟨ht, rfl⟩ := he
    funext x
    simp only [Fr.put, Fr.up, ifr]
    by_cases hx : x < 1024
    · rw [if_pos hx, if_pos hx, Tr.get_set 10 _ _ _ _ (by simpa using ht) (by simpa using hx)]
      by_cases e : x = t
      · rw [if_pos e, if_pos e]
      · rw [if_neg e, if_neg e]
    · rw [if_neg hx, if_neg hx, if_neg (by omega)]
theorem ePut_wf {d : Option Nat} (hf : wfr n fr) (hv : v.wf n) (he : ePut fr d v = some fr') : wfr n fr' := by
  cases d with
  | none => simp only [ePut, Option.some.injEq] at he; subst he; exact hf
  | some t =>
    simp only [ePut, gd_some, blt_iff, Option.some.injEq] at he
    obtain ⟨ht, rfl⟩ := he
    intro x w hx hw
    rw [Tr.get_set 10 _ _ _ _ (by simpa using ht) (by simpa using hx)] at hw
    split at hw
    · injection hw with hw; subst hw; exact hv
    · exact hf x w hx hw
def eGd (ds : List (Option Nat)) (fr : Tr RS) : Option (Nat × Bool) → Option Bool
  | none => some true
  | some (j, want) => match ds.getD j none with
    | some d => match eEv fr (.tmp d) with
      | some (.v (.bool true)) => some want
      | some (.v (.bool false)) => some (!want)
      | some (.v (.tuple _)) => some false
      | _ => none
    | none => none
theorem eGd_ok {ds : List (Option Nat)} {g : Option (Nat × Bool)} {A B : Prop} {b : Bool} (he : eGd ds fr g = some b) (hA : b = true → A) (hB : b = false → B) : aGd ds (ifr c fr) g A B := by
  cases g with
  | none => simp only [eGd, Option.some.injEq] at he; subst he; exact hA rfl
  | some g =>
    obtain ⟨j, want⟩ := g
    simp only [eGd] at he
    simp only [aGd]
    split at he
    · rename_i d hd
      simp only [hd]
      split at he
      · rename_i hx
        have := eEv_ok (c := c) hx
        simp only [Fr.ev, RS.iv, RS.vv] at this
        injection he with he
        subst he
        rw [this]
        cases want with
        | true => exact hA rfl
        | false => exact hB rfl
      · rename_i hx
        have := eEv_ok (c := c) hx
        simp only [Fr.ev, RS.iv, RS.vv] at this
        injection he with he
        subst he
        rw [this]
        cases want with
        | true => exact hB rfl
        | false => exact hA rfl
      · rename_i hx
        have := eEv_ok (c := c) hx
        simp only [Fr.ev, RS.iv, RS.vv] at this
        injection he with he
        subst he
        rw [this]
        exact hB rfl
      · cases he
    · cases he
def eOps (E : En) (ds : List (Option Nat)) : List Oper → Tr RS → Sto → Option (Tr RS × Sto)
  | [], fr, h => some (fr, h)
  | o :: r, fr, h => match eGd ds fr o.guard with
    | some true => match eOp E o.op fr h with
      | some (v, h') => match ePut fr o.dst v with
        | some fr' => eOps E ds r fr' h'
        | none => none
      | none => none
    | some false => match ePut fr o.dst (.v undef) with
      | some fr' => eOps E ds r fr' h
      | none => none
    | none => none
/-- What follows, of frames. -/
def Kf (σ0 : St) (c : Cx) (h : Sto) (fr' : Tr RS) (h' : Sto) (K : Fr → St → Prop) : Prop :=
  ∀ c' σ', Agree h.n c c' → Mt σ0 c' h' σ' → h.n ≤ h'.n → Keep h h' → wfr h'.n fr' → K (ifr c' fr') σ'
theorem Kf.then {h1 : Sto} {K : Fr → St → Prop} {c1 : Cx} (hk : Kf σ0 c h fr' h' K) (ha : Agree h.n c c1) (hn : h.n ≤ h1.n) (hkp : Keep h h1) : Kf σ0 c1 h1 fr' h' K :=
  fun c' σ' h1' h2 h3 h4 h5 => hk c' σ' (ha.trans h1' hn) h2 (by omega) (hkp.trans h4 hn) h5
theorem undef_iv (c : Cx) : (RS.v undef).iv c = .v undef := by simp only [RS.iv, RS.vv]
theorem eOps_ok {E : En} (hE : EnOk P E) {ds : List (Option Nat)} {K : Fr → St → Prop} : ∀ {l : List Oper} {fr : Tr RS} {h : Sto} {c : Cx} {σ : St}, eOps E ds l fr h = some (fr', h') → Mt σ0 c h σ → wfr h.n fr → Kf σ0 c h fr' h' K → aOps P ds l K (ifr c fr) σ
  | [], fr, h, c, σ, he, hM, hf, hk => by
    simp only [eOps, Option.some.injEq, Prod.mk.injEq] at he
    obtain ⟨rfl, rfl⟩ := he
    exact hk c σ (.refl _ _) hM (Nat.le_refl _) (.refl h) hf
  | o :: r, fr, h, c, σ, he, hM, hf, hk => by
    simp only [eOps] at he
    simp only [aOps]
    split at he
    · rename_i hg
      refine eGd_ok hg (fun _ => ?_) (fun h => by cases h)
      split at he
      · rename_i v h1 ho
        split at he
        · rename_i fr1 hp
          refine eOp_ok hE hM hf ho fun c1 σ1 ha hM1 hn hkp hv => ?_
          have hf1 := ePut_wf (wfr_mono hn hf) hv hp
          rw [← ifr_agree ha hf, ← ePut_ok hp]
          exact eOps_ok hE he hM1 hf1 (hk.then ha hn hkp)
        · cases he
      · cases he
    · rename_i hg
      refine eGd_ok hg (fun h => by cases h) (fun _ => ?_)
      split at he
      · rename_i fr1 hp
        have := ePut_ok (c := c) hp
        rw [undef_iv] at this
        rw [← this]
        exact eOps_ok hE he hM (ePut_wf hf (by simp only [RS.wf]) hp) hk
      · cases he
    · cases he
/-- A read that was noted. -/
structure Nt where
  i : Nat
  o : Op
  f : Tr RS
  v : RS
def Nt.q (P : Program) (c : Cx) (s : Nt) : Nat × (St → Prop) := (s.i, fun σ => Yl P s.o (ifr c s.f) σ (s.v.iv c))
def eChk1 (E : En) (h : Sto) (i : Nat) : List Nt → Bool
  | [] => true
  | s :: S => (match Nat.beq i s.i with
    | true => match eOp E s.o s.f h with
      | some (v, h') => RS.beq v s.v && Nat.beq h'.n h.n
      | none => false
    | false => true) && eChk1 E h i S
def eChk (E : En) (h : Sto) (S : List Nt) : List Nat → Bool
  | [] => true
  | i :: l => eChk1 E h i S && eChk E h S l
theorem eChk1_ok {E : En} (hE : EnOk P E) (hM : Mt σ0 c h σ) {i : Nat} : ∀ {S : List Nt}, (∀ s ∈ S, cls P s.o ≠ 2 ∧ wfr h.n s.f) → eChk1 E h i S = true → aLk i (S.map (Nt.q P c)) σ
  | [], _, _ => trivial
  | s :: S, hS, he => by
    simp only [eChk1, Bool.and_eq_true] at he
    obtain ⟨he, he2⟩ := he
    refine ⟨fun hi => ?_, eChk1_ok hE hM (fun t ht => hS t (by simp [ht])) he2⟩
    have hi : i = s.i := hi
    rw [beq_iff.2 hi] at he
    simp only at he
    split at he
    · rename_i v h1 ho
      rw [Bool.and_eq_true, beq_iff] at he
      have hv := rbeq_ok he.1
      have hn := he.2
      obtain ⟨hc, hf⟩ := hS s (by simp)
      have h0 := eOp_ok hE hM hf ho (k := fun w _ => w = v.iv c) fun c1 σ1 ha _ _ _ hw => iv_agree ha v (by rw [← hn]; exact hw)
      obtain ⟨w, hw, hy⟩ := aOp_read hc h0
      rw [hw, hv] at hy
      exact hy
    · cases he
theorem eChk_ok {E : En} (hE : EnOk P E) (hM : Mt σ0 c h σ) {S : List Nt} (hS : ∀ s ∈ S, cls P s.o ≠ 2 ∧ wfr h.n s.f) : ∀ {l : List Nat}, eChk E h S l = true → aChk l (S.map (Nt.q P c)) σ
  | [], _ => trivial
  | i :: l, he => by
    simp only [eChk, Bool.and_eq_true] at he
    exact ⟨eChk1_ok hE hM hS he.1, eChk_ok hE hM hS he.2⟩
def ePlan (E : En) (ds : List (Option Nat)) (l : List Oper) : List PS → List Nt → Tr RS → Sto → Option (Tr RS × Sto)
  | [], _, fr, h => some (fr, h)
  | .rd i keep :: r, S, fr, h => match l[i]? with
    | none => none
    | some o => match eGd ds fr o.guard with
      | some true => match eOp E o.op fr h with
        | some (v, h') => match ePut fr o.dst v with
          | some fr' => ePlan E ds l r (match keep with | true => ⟨i, o.op, fr, v⟩ :: S | false => S) fr' h'
          | none => none
        | none => none
      | some false => match ePut fr o.dst (.v undef) with
        | some fr' => ePlan E ds l r S fr' h
        | none => none
      | none => none
  | .ef i chk :: r, S, fr, h => match l[i]? with
    | none => none
    | some o => match eGd ds fr o.guard with
      | some true => match eOp E o.op fr h with
        | some (v, h') => match eChk E h' S chk with
          | true => match ePut fr o.dst v with
            | some fr' => ePlan E ds l r S fr' h'
            | none => none
          | false => none
        | none => none
      | some false => match ePut fr o.dst (.v undef) with
        | some fr' => ePlan E ds l r S fr' h
        | none => none
      | none => none
theorem nt_agree (ha : Agree n c c') {S : List Nt} (hS : ∀ s ∈ S, wfr n s.f ∧ s.v.wf n) : S.map (Nt.q P c') = S.map (Nt.q P c) :=
  List.map_congr_left fun s hs => by
    obtain ⟨h1, h2⟩ := hS s hs
    simp only [Nt.q, ifr_agree ha h1, iv_agree ha s.v h2]
theorem ePlan_ok {E : En} (hE : EnOk P E) {ds : List (Option Nat)} {l : List Oper} {K : Fr → St → Prop} : ∀ {pl : List PS} {S : List Nt} {L : Array Bool} {N : List Nat} {fr : Tr RS} {h : Sto} {c : Cx} {σ : St}, planOk P l.toArray pl L N = true → ePlan E ds l pl S fr h = some (fr', h') →
    (∀ s ∈ S, cls P s.o ≠ 2 ∧ wfr h.n s.f ∧ s.v.wf h.n) → Mt σ0 c h σ → wfr h.n fr → Kf σ0 c h fr' h' K → aPlan P ds l K pl (S.map (Nt.q P c)) (ifr c fr) σ
  | [], S, L, N, fr, h, c, σ, _, he, hS, hM, hf, hk => by
    simp only [ePlan, Option.some.injEq, Prod.mk.injEq] at he
    obtain ⟨rfl, rfl⟩ := he
    exact hk c σ (.refl _ _) hM (Nat.le_refl _) (.refl h) hf
  | .rd i keep :: r, S, L, N, fr, h, c, σ, hpl, he, hS, hM, hf, hk => by
    simp only [ePlan] at he
    simp only [aPlan]
    simp only [planOk, Bool.and_eq_true] at hpl
    obtain ⟨⟨⟨_, hcls⟩, _⟩, hpl⟩ := hpl
    split at he
    · cases he
    · rename_i o ho
      simp only [ho]
      split at he
      · rename_i hg
        refine eGd_ok hg (fun _ => ?_) (fun h => by cases h)
        split at he
        · rename_i v h1 hop
          split at he
          · rename_i fr1 hp
            refine eOp_ok hE hM hf hop fun c1 σ1 ha hM1 hn hkp hv => ?_
            have hf1 := ePut_wf (wfr_mono hn hf) hv hp
            have hS1 : ∀ s ∈ S, cls P s.o ≠ 2 ∧ wfr h1.n s.f ∧ s.v.wf h1.n := fun s hs => ⟨(hS s hs).1, wfr_mono hn (hS s hs).2.1, wf_mono hn _ (hS s hs).2.2⟩
            rw [← nt_agree ha fun s hs => (hS s hs).2]
            have hcl : cls P o.op ≠ 2 := by
              simp only [clsAt, List.getElem?_toArray, ho, Bool.or_eq_true, Bool.and_eq_true, beq_iff_eq] at hcls
              rcases hcls with h | h
              · omega
              · omega
            rw [← ifr_agree ha hf, ← ePut_ok hp]
            cases keep with
            | true => exact ePlan_ok hE (S := ⟨i, o.op, fr, v⟩ :: S) hpl he (fun s hs => by
                rcases List.mem_cons.1 hs with rfl | hs
                · exact ⟨hcl, wfr_mono hn hf, hv⟩
                · exact hS1 s hs) hM1 hf1 (hk.then ha hn hkp)
            | false => exact ePlan_ok hE hpl he hS1 hM1 hf1 (hk.then ha hn hkp)
          · cases he
        · cases he
      · rename_i hg
        refine eGd_ok hg (fun h => by cases h) (fun _ => ?_)
        split at he
        · rename_i fr1 hp
          have := ePut_ok (c := c) hp
          rw [undef_iv] at this
          rw [← this]
          exact ePlan_ok hE hpl he hS hM (ePut_wf hf (by simp only [RS.wf]) hp) hk
        · cases he
      · cases he
  | .ef i chk :: r, S, L, N, fr, h, c, σ, hpl, he, hS, hM, hf, hk => by
    simp only [ePlan] at he
    simp only [aPlan]
    simp only [planOk, Bool.and_eq_true] at hpl
    obtain ⟨_, hpl⟩ := hpl
    split at he
    · cases he
    · rename_i o ho
      simp only [ho]
      split at he
      · rename_i hg
        refine eGd_ok hg (fun _ => ?_) (fun h => by cases h)
        split at he
        · rename_i v h1 hop
          split at he
          · rename_i hch
            split at he
            · rename_i fr1 hp
              refine eOp_ok hE hM hf hop fun c1 σ1 ha hM1 hn hkp hv => ?_
              have hf1 := ePut_wf (wfr_mono hn hf) hv hp
              have hS1 : ∀ s ∈ S, cls P s.o ≠ 2 ∧ wfr h1.n s.f ∧ s.v.wf h1.n := fun s hs => ⟨(hS s hs).1, wfr_mono hn (hS s hs).2.1, wf_mono hn _ (hS s hs).2.2⟩
              rw [← nt_agree ha fun s hs => (hS s hs).2]
              refine ⟨eChk_ok hE hM1 (fun s hs => ⟨(hS1 s hs).1, (hS1 s hs).2.1⟩) hch, ?_⟩
              rw [← ifr_agree ha hf, ← ePut_ok hp]
              exact ePlan_ok hE hpl he hS1 hM1 hf1 (hk.then ha hn hkp)
            · cases he
          · cases he
        · cases he
      · rename_i hg
        refine eGd_ok hg (fun h => by cases h) (fun _ => ?_)
        split at he
        · rename_i fr1 hp
          have := ePut_ok (c := c) hp
          rw [undef_iv] at this
          rw [← this]
          exact ePlan_ok hE hpl he hS hM (ePut_wf hf (by simp only [RS.wf]) hp) hk
        · cases he
      · cases he
end
end Go.Av
