/-
  Contracts of the functions that the statement reaches, and the plain laws of what they reckon.
  Conditions: none.
-/
import Derived.Test.YthdfpankebjleaaRows
import Derived.RecoverIn
import Derived.BigFrame
import Derived.Test.YthdfpankebjleaaV1
import Derived.Test.YthdfpankebjleaaV2
import Derived.Test.YthdfpankebjleaaV3
import Derived.Test.YthdfpankebjleaaX1p
import Derived.Test.YthdfpankebjleaaX2p
set_option linter.unusedVariables false
set_option linter.unusedSimpArgs false
set_option linter.unusedSectionVars false
set_option maxRecDepth 100000
/-
  What a rule's bodies are, found, sorted, each once; lists of lists that a walk owns.
  Conditions: none.
-/
namespace Go.Proofs.Ythdfpankebjleaa
open Go Go.Av

theorem pick_list {α γ : Type} {en : α → List AV} {f : α → γ} : ∀ (es : List (List AV)) (out : List γ), es.length = out.length → (∀ i (h : i < out.length), ∃ x, es.getD i [] = en x ∧ f x = out[i]) → ∃ L : List α, L.map en = es ∧ L.map f = out
  | [], [], _, _ => ⟨[], rfl, rfl⟩
  | e :: es, o :: out, hl, h => by
    obtain ⟨L, h1, h2⟩ := pick_list (en := en) (f := f) es out (by simpa using hl) fun i hi => by
      have := h (i + 1) (by simpa using hi)
      simpa using this
    obtain ⟨x, x1, x2⟩ := h 0 (by simp)
    simp only [List.getD_cons_zero, List.getElem_cons_zero] at x1 x2
    exact ⟨x :: L, by rw [List.map_cons, h1, x1], by rw [List.map_cons, h2, x2]⟩
  | [], _ :: _, hl, _ => by simp at hl
  | _ :: _, [], hl, _ => by simp at hl
theorem cptB_map {α γ : Type} {e : α → α → Bool} {f : α → γ} {e' : γ → γ → Bool} (he : ∀ x y, e x y = true ↔ f x = f y) (he' : ∀ x y, e' x y = true ↔ x = y) (l : List α) : (cptB e l).map f = cptF e' (l.map f) := by
  have key : ∀ (l : List α) (p : α), cptF e' (f p :: l.map f) = f p :: (cptA e p l).map f := by
    intro l
    induction l with
    | nil => intro p; simp [cptF, cptA]
    | cons y l ih =>
      intro p
      rw [List.map_cons, cptF, cptA_cons]
      by_cases h : f y = f p
      · rw [if_pos ((he' _ _).2 h), if_pos ((he _ _).2 h), ← h, ih y]
      · rw [if_neg fun h' => h ((he' _ _).1 h'), if_neg fun h' => h ((he _ _).1 h'), ih y]
        rfl
  cases l with
  | nil => simp [cptB, cptF]
  | cons x l => rw [List.map_cons, key]; rfl
theorem cnC_inj {l k : List Cn} (h : cnC l = cnC k) : l = k := by
  have := congrArg (List.map fun (e : List AV) => match e with
    | [.v (.bool b), .v (.int _ n), .v (.string s)] => (⟨b, n, s⟩ : Cn)
    | _ => ⟨false, 0, emp⟩) h
  have e : ∀ l : List Cn, (cnC l).map (fun (e : List AV) => match e with
    | [.v (.bool b), .v (.int _ n), .v (.string s)] => (⟨b, n, s⟩ : Cn)
    | _ => ⟨false, 0, emp⟩) = l := fun l => by
    unfold cnC
    rw [List.map_map]
    conv => rhs; rw [← List.map_id l]
    rfl
  rwa [e, e] at this
theorem fa_inj {f g : Fa} (h : f.cs = g.cs) : f = g := by
  unfold Fa.cs at h
  simp only [List.cons.injEq, AV.v.injEq, Value.string.injEq, AV.sl.injEq, true_and, and_true] at h
  obtain ⟨h1, h2, h3, h4⟩ := h
  cases f; cases g
  simp only at h1 h2 h3 h4
  rw [h1, h2, h3, cnC_inj h4]
theorem faC_inj {l k : List Fa} (h : faC l = faC k) : l = k := by
  unfold faC at h
  induction l generalizing k with
  | nil => cases k <;> simp at h ⊢
  | cons x l ih =>
    cases k with
    | nil => simp at h
    | cons y k =>
      rw [List.map_cons, List.map_cons] at h
      injection h with h1 h2
      rw [fa_inj h1, ih h2]
@[go_sem] theorem faX_s3 (f : Fa) (v w : AV) : splice (faX f v) 3 [w] = faX f w := rfl
/-- A row of facts, whose arguments are those or, as far as D, slices of the row's own. -/
def GR (σ0 σ : St) (c : Nat) (b : List Fa) (cap : Nat) (D : Nat → Prop) : Prop :=
  ∃ es, σ c = some (.rows 4 es false cap) ∧ es.length = b.length ∧ ∀ j (h : j < b.length), ∃ a, es.getD j [] = faX b[j] a ∧ ((a = .sl 3 (cnC b[j].ar) ∧ ¬ D j) ∨ (Ow 3 σ a (cnC b[j].ar) ∧ ∀ x, Own a x → σ0 x = none))
/-- A body that nobody else has. -/
def BR (σ0 σ : St) (v : AV) (b : List Fa) : Prop := (b = [] ∧ (v = nilS ∨ v = .fsl 4 [])) ∨ ∃ c cap, v = slv c b.length cap ∧ b.length ≤ cap ∧ σ0 c = none ∧ GR σ0 σ c b cap fun _ => True
/-- Bodies that nobody else has. -/
def PB (σ0 σ : St) (v : AV) (bods : List (List Fa)) : Prop :=
  (∀ x o, σ0 x = some o → σ x = some o) ∧ (∀ x, Own v x → σ0 x = none) ∧ ∃ es, Ow 1 σ v es ∧ es.length = bods.length ∧ ∀ i (h : i < bods.length), ∃ w, es.getD i [] = [w] ∧ BR σ0 σ w bods[i]
/-- While the bodies' arguments are copied: v's row is as it was; each new row of facts of σ7 is copied as far as D. -/
def JB (σ0 σ7 σ : St) (v : AV) (es : List (List AV)) (D : Nat → Nat → Prop) : Prop :=
  (∀ x o, σ0 x = some o → σ x = some o) ∧ Ow 1 σ v es ∧ ∀ c b cap, σ7 c = some (.rows 4 (faC b) false cap) → σ0 c = none → GR σ0 σ c b cap (D c)
section
variable {σ0 σ7 σ1 σ2 : St} {v : AV} {es7 : List (List AV)} {D D' : Nat → Nat → Prop}
theorem JB.weak (h : JB σ0 σ7 σ1 v es7 D) (hD : ∀ c (b : List Fa) cap j, σ7 c = some (.rows 4 (faC b) false cap) → j < b.length → D' c j → D c j) : JB σ0 σ7 σ1 v es7 D' := by
  refine ⟨h.1, h.2.1, fun c b cap h7 h0 => ?_⟩
  obtain ⟨es, g1, g2, g3⟩ := h.2.2 c b cap h7 h0
  refine ⟨es, g1, g2, fun j hj => ?_⟩
  obtain ⟨a, k1, k2 | k2⟩ := g3 j hj
  · exact ⟨a, k1, .inl ⟨k2.1, fun hd => k2.2 (hD c b cap j h7 hj hd)⟩⟩
  · exact ⟨a, k1, .inr k2⟩
theorem ow3_set {σ : St} {c0 : Nat} {es es' : List (List AV)} {cap cap' : Nat} {a : AV} {l : List (List AV)} (hc : σ c0 = some (.rows 4 es false cap)) (h : Ow 3 σ a l) : Ow 3 (σ.set c0 (.rows 4 es' false cap')) a l := h.keep fun x o hx ho => by
  have : x ≠ c0 := fun e => by
    subst e
    obtain ⟨k, hk⟩ := h.lat.own_rows ho
    rw [hc] at hk; cases hk
  rw [set_ne this]; exact hx
theorem JB.put (h : JB σ0 σ7 σ1 v es7 D) (hs : ∀ x o, σ1 x = some o → σ2 x = some o) {c0 cap0 j0 : Nat} {b0 : List Fa} {es : List (List AV)} {a : AV} (h7 : σ7 c0 = some (.rows 4 (faC b0) false cap0)) (h0 : σ0 c0 = none) (h1 : σ1 c0 = some (.rows 4 es false cap0)) (hj : j0 < b0.length)
    (ha : Ow 3 σ2 a (cnC b0[j0].ar)) (hf : ∀ x, Own a x → σ0 x = none) (hD : ∀ c j, D' c j → D c j ∨ (c = c0 ∧ j = j0)) : JB σ0 σ7 (σ2.set c0 (.rows 4 (es.set j0 (faX b0[j0] a)) false cap0)) v es7 D' := by
  have h2 := hs _ _ h1
  refine ⟨fun x o hx => ?_, (h.2.1.sub hs).keep fun x o hx ho => ?_, fun c b cap hc7 hc0 => ?_⟩
  · rw [set_ne (fun e => by rw [e, h0] at hx; cases hx)]
    exact hs _ _ (h.1 x o hx)
  · rw [set_ne (fun e => ?_)]
    · exact hx
    · subst e
      obtain ⟨k, hk⟩ := h.2.1.lat.own_rows ho
      rw [h1] at hk; cases hk
  · obtain ⟨es', g1, g2, g3⟩ := h.2.2 c b cap hc7 hc0
    by_cases e : c = c0
    · subst e
      rw [h7] at hc7
      injection hc7 with hc7
      injection hc7 with e1 e2 e3 e4
      have := faC_inj e2
      subst this
      subst e4
      rw [h1] at g1
      injection g1 with g1
      injection g1 with _ g1 _ _
      subst g1
      refine ⟨_, set_same, by simp [g2], fun j hj' => ?_⟩
      by_cases ej : j = j0
      · subst ej
        refine ⟨a, ?_, .inr ⟨ow3_set h2 ha, hf⟩⟩
        simp [List.getD_eq_getElem?_getD, List.getElem?_set, g2, hj]
      · obtain ⟨a', k1, k2⟩ := g3 j hj'
        refine ⟨a', ?_, ?_⟩
        · rw [List.getD_eq_getElem?_getD, List.getElem?_set_ne (Ne.symm ej), ← List.getD_eq_getElem?_getD]; exact k1
        · rcases k2 with k2 | k2
          · exact .inl ⟨k2.1, fun hd => (hD _ _ hd).elim k2.2 fun h => ej h.2⟩
          · exact .inr ⟨ow3_set h2 (k2.1.sub hs), k2.2⟩
    · refine ⟨es', by rw [set_ne e]; exact hs _ _ g1, g2, fun j hj' => ?_⟩
      obtain ⟨a', k1, k2 | k2⟩ := g3 j hj'
      · exact ⟨a', k1, .inl ⟨k2.1, fun hd => (hD _ _ hd).elim k2.2 fun h => e h.1⟩⟩
      · exact ⟨a', k1, .inr ⟨ow3_set h2 (k2.1.sub hs), k2.2⟩⟩
end
/-- A body's row, seen at a time, and what is in it. -/
structure BV (β σ0 : St) where
  bd : List Fa
  v : AV
  ow : Ow 4 β v (faC bd)
  sm : SmB bd
  fr : ∀ x, Own v x → σ0 x = none
instance (β σ0 : St) : Inhabited (BV β σ0) := ⟨⟨[], nilS, .inl ⟨rfl, .inl rfl⟩, ⟨by simp, fun x hx => by cases hx⟩, fun x hx => absurd hx own_no_nil⟩⟩
def BV.en {β σ0 : St} (x : BV β σ0) : List AV := [x.v]
theorem BV.one {β σ0 : St} (x : BV β σ0) : x.en.all AV.one = true := by simp [BV.en, x.ow.lat.one]
theorem BV.cells {β σ0 : St} (x : BV β σ0) : (x.en.getD 0 (.v undef)).cells = x.en := by simp [BV.en, x.ow.lat.cells]
def BV.cf {β σ0 : St} (x y : BV β σ0) : Int := cmpB x.bd y.bd
def BV.eq {β σ0 : St} (x y : BV β σ0) : Bool := decide (x.bd = y.bd)
theorem BV.swo {β σ0 : St} : Go.Sort.SWO (ltc (BV.cf (β := β) (σ0 := σ0))) where
  irrefl x := cmpB_ord.swo.irrefl x.bd
  trans x y z := cmpB_ord.swo.trans x.bd y.bd z.bd
  ntrans x y z := cmpB_ord.swo.ntrans x.bd y.bd z.bd
theorem BV.ord_at {β σ0 : St} (σ' : St) (hs : ∀ x o, β x = some o → σ' x = some o) (x y : BV β σ0) : AT Try.prog 57 [x.en.getD 0 (.v undef), y.en.getD 0 (.v undef)] σ' fun r σ'' => r = int (BV.cf x y) ∧ σ'' = σ' :=
  orderB_at (.of (x.ow.sub hs).lat) (.of (y.ow.sub hs).lat) x.sm y.sm
theorem BV.eq_at {β σ0 : St} (σ' : St) (hs : ∀ x o, β x = some o → σ' x = some o) (x y : BV β σ0) : AT Try.prog 59 [x.en.getD 0 (.v undef), y.en.getD 0 (.v undef)] σ' fun r σ'' => r = boo (BV.eq x y) ∧ σ'' = σ' :=
  eqB_at (.of (x.ow.sub hs).lat) (.of (y.ow.sub hs).lat) x.sm y.sm
theorem BV.done {β σ0 : St} {d : Array (BV β σ0)} {out : List (List Fa)} (hp : (d.toList.map BV.bd).Perm out) (hs : Go.Sort.SortedIn (ltc BV.cf) 0 d.size d) : (cptB BV.eq d.toList).map BV.bd = insS cmpB [] out := by
  rw [cptB_map (e := BV.eq) (f := BV.bd) (e' := fun a b => decide (a = b)) (fun x y => by unfold BV.eq; simp) (fun x y => by simp)]
  refine cpt_sorted cmpB_ord (fun x y => by simp) hp ?_ (.refl _)
  rw [List.pairwise_map]
  exact sorted_pw (c := BV.cf) (fun x y => cmpB_ord.anti x.bd y.bd) hs
section
variable {σ : St}
theorem compnilL_at (g : Nat) : AT Try.prog 58 [nilS, fnv g] σ fun r σ' => r = nilS ∧ σ' = σ := by
  refine AT.of_body Try.func58 rfl (by decide) (by kernel_rfl) (by kernel_rfl) (Nat.le_of_ble_eq_true rfl) ?_
  have d : decide ((0 : Int) < 2) = true := rfl
  simp only [go_sem, d, reduceIte, Nat.reduceEqDiff, Nat.reduceAdd, Nat.reduceMul, Nat.reduceSub, Nat.reduceLT, Nat.reduceLeDiff, Int.reduceLE, Int.reduceLT, Int.reduceToNat, Int.reduceEq]
  exact aRet_as (r := nilS) rfl ⟨rfl, rfl⟩
end
end Go.Proofs.Ythdfpankebjleaa

/-
  The plan's order: its walk.
  Conditions: none.
-/
namespace Go.Proofs.Ythdfpankebjleaa
open Go Go.Av

section
variable {σ : St}
theorem order_at (r : Rl) (first : Int) (hr : r.Ok) : AT Try.prog 11 [.agg r.cs, int first] σ fun v σ' => v = .sl 1 (inC (nats (ordR r first))) ∧ σ' = σ := by
  refine AT.of_body Try.func11 rfl (by decide) (by kernel_rfl) (by kernel_rfl) (Nat.le_of_ble_eq_true rfl) ?_
  simp only [go_sem, reduceIte, Nat.reduceEqDiff, Nat.reduceAdd, Nat.reduceMul, Nat.reduceSub, Nat.reduceLT, Nat.reduceLeDiff, Int.reduceLE, Int.reduceLT, Int.reduceToNat, Int.reduceEq]
  refine aNew_intro fun b hb hbn => ?_
  obtain ⟨β, hβ⟩ : ∃ β, β = σ.set b (.cells r.cs) := ⟨_, rfl⟩
  have kb : β b = some (.cells r.cs) := by rw [hβ]; exact set_same
  have ks : ∀ x o, σ x = some o → β x = some o := by rw [hβ]; exact set_sub hb (fun _ _ h => h)
  have hbl := hr.1
  rw [← hβ]
  clear hβ
  simp only [go_sem, reduceIte, Nat.reduceEqDiff, Nat.reduceAdd, Nat.reduceMul, Nat.reduceSub, Nat.reduceLT, Nat.reduceLeDiff, Int.reduceLE, Int.reduceLT, Int.reduceToNat, Int.reduceEq]
  refine aNew_intro fun o ho hon => ?_
  have kb1 : (β.set o (.cells [nilS])) b = some (.cells r.cs) := set_sub ho (fun _ _ h => h) _ _ kb
  simp only [go_sem, kb1, reduceIte, Nat.reduceEqDiff, Nat.reduceAdd, Nat.reduceMul, Nat.reduceSub, Nat.reduceLT, Nat.reduceLeDiff, Int.reduceLE, Int.reduceLT, Int.reduceToNat, Int.reduceEq]
  refine aNew_intro fun v hv hvn => ?_
  have hvo : o ≠ v := hvn o _ set_same
  have kb2 : ∀ ob, ((β.set o (.cells [nilS])).set v ob) b = some (.cells r.cs) := fun ob => set_sub hv (fun _ _ h => h) _ _ kb1
  simp only [go_sem, kb2, set_same, reduceIte, Nat.reduceEqDiff, Nat.reduceAdd, Nat.reduceMul, Nat.reduceSub, Nat.reduceLT, Nat.reduceLeDiff, Int.reduceLE, Int.reduceLT, Int.reduceToNat, Int.reduceEq]
  simp only [aFunc, exacts]
  simp only [go_sem, kb2, set_same, reduceIte, Nat.reduceEqDiff, Nat.reduceAdd, Nat.reduceMul, Nat.reduceSub, Nat.reduceLT, Nat.reduceLeDiff, Int.reduceLE, Int.reduceLT, Int.reduceToNat, Int.reduceEq]
  apply meet_by (fun fr σ' => ∃ ou vs, PO β σ' o v (nats ou) vs ∧ LO r first ou vs ∧ fr 2 = ptr b ∧ fr 5 = ptr o ∧ fr 6 = ptr v ∧ fr 7 = .v (.func (.func 28) #[] #[.pointer (some ⟨o, 0, none⟩), .pointer (some ⟨b, 0, none⟩), .pointer (some ⟨v, 0, none⟩)]))
  case h1 =>
    intro key
    have no1 : ∀ x, ¬ Own (.fsl 1 [[str r.ho.v]]) x := fun x ⟨n, c, e⟩ => by cases e
    have no2 : ∀ x, ¬ Own (.v (.slice none 0 0)) x := fun x ⟨n, c, e⟩ => by cases e
    have r0 : PO β ((β.set o (.cells [nilS])).set v (.cells [.fsl 1 [[str r.ho.v]]])) o v (nats []) [r.ho.v] := by
      refine ⟨nilS, .fsl 1 [[str r.ho.v]], ⟨by rw [set_ne hvo]; exact set_same, .none⟩, ⟨set_same, .full⟩, fun x => ?_, fun x p hx => ?_⟩
      · by_cases e : x = o
        · subst e; exact .inr ⟨hvo, no1 x⟩
        · exact .inl ⟨e, no2 x⟩
      · have h1 : x ≠ o := hon x p hx
        have h2 : x ≠ v := hvn x p (by rw [set_ne h1]; exact hx)
        exact ⟨by rw [set_ne h2, set_ne h1]; exact hx, ⟨h1, no2 x⟩, h2, no1 x⟩
    by_cases h0 : 0 ≤ first
    · by_cases h1 : first < r.bo.length
      · have hk : first.toNat < r.bo.length := by omega
        simp only [go_sem, kb2, decide_eq_true h0, decide_eq_true h1, reduceIte, Nat.reduceEqDiff, Nat.reduceAdd, Nat.reduceMul, Nat.reduceSub, Nat.reduceLT, Nat.reduceLeDiff, Int.reduceLE, Int.reduceLT, Int.reduceToNat, Int.reduceEq]
        have e0 : int first = int (first.toNat : Nat) := by rw [Int.toNat_of_nonneg h0]
        rw [e0]
        refine (take_at r hk kb r0 (by simp) (by simp) (by have := hr.2 _ (List.getElem_mem hk); omega)).mono ?_
        rintro _ σ1 h2
        simp only [go_sem, reduceIte, Nat.reduceEqDiff, Nat.reduceAdd, Nat.reduceMul, Nat.reduceSub, Nat.reduceLT, Nat.reduceLeDiff, Int.reduceLE, Int.reduceLT, Int.reduceToNat, Int.reduceEq]
        refine key _ _ ?_
        exact ⟨_, _, h2, .first hr h0 hk, rfl, rfl, rfl, rfl⟩
      · simp only [go_sem, kb2, decide_eq_true h0, decide_eq_false h1, reduceIte, Nat.reduceEqDiff, Nat.reduceAdd, Nat.reduceMul, Nat.reduceSub, Nat.reduceLT, Nat.reduceLeDiff, Int.reduceLE, Int.reduceLT, Int.reduceToNat, Int.reduceEq]
        refine key _ _ ?_
        exact ⟨_, _, r0, .start fun h => h1 h.2, rfl, rfl, rfl, rfl⟩
    · simp only [go_sem, kb2, decide_eq_false h0, reduceIte, Nat.reduceEqDiff, Nat.reduceAdd, Nat.reduceMul, Nat.reduceSub, Nat.reduceLT, Nat.reduceLeDiff, Int.reduceLE, Int.reduceLT, Int.reduceToNat, Int.reduceEq]
      refine key _ _ ?_
      exact ⟨_, _, r0, .start fun h => h0 h.1, rfl, rfl, rfl, rfl⟩
  case h2 =>
    rintro fr σ1 ⟨ou, vs, h, hL, f2, f5, f6, f7⟩
    simp only [go_sem, r_block, reduceIte, Nat.reduceEqDiff, Nat.reduceAdd, Nat.reduceMul, Nat.reduceSub, Nat.reduceLT, Nat.reduceLeDiff, Int.reduceLE, Int.reduceLT, Int.reduceToNat, Int.reduceEq]
    refine ⟨fun m fr σ1 => ∃ ou vs, m = r.bo.length - ou.length ∧ PO β σ1 o v (nats ou) vs ∧ LO r first ou vs ∧ fr 2 = ptr b ∧ fr 5 = ptr o ∧ fr 6 = ptr v ∧ fr 7 = .v (.func (.func 28) #[] #[.pointer (some ⟨o, 0, none⟩), .pointer (some ⟨b, 0, none⟩), .pointer (some ⟨v, 0, none⟩)]), ⟨_, ou, vs, rfl, h, hL, f2, f5, f6, f7⟩, ?_⟩
    clear h hL f2 f5 f6 f7 ou vs fr σ1
    rintro m fr σ1 ⟨ou, vs, rfl, h, hL, f2, f5, f6, f7⟩
    have kb1 := h.sub _ _ kb
    have hlen := hL.len hr
    obtain ⟨lo, c1, c2, c3⟩ := h.num
    simp only [go_sem, f2, f5, f6, f7, c1, c2.len, kb1, reduceIte, Nat.reduceEqDiff, Nat.reduceAdd, Nat.reduceMul, Nat.reduceSub, Nat.reduceLT, Nat.reduceLeDiff, Int.reduceLE, Int.reduceLT, Int.reduceToNat, Int.reduceEq]
    refine aIf_by (fun hlt => ?_) (fun hlt => ?_)
    · simp only [go_sem, r_block, f2, f5, f6, f7, kb1, reduceIte, Nat.reduceEqDiff, Nat.reduceAdd, Nat.reduceMul, Nat.reduceSub, Nat.reduceLT, Nat.reduceLeDiff, Int.reduceLE, Int.reduceLT, Int.reduceToNat, Int.reduceEq]
      refine ⟨fun m fr σ' => ∃ k : Nat, m = r.bo.length - k ∧ k ≤ r.bo.length ∧ PO β σ' o v (nats ou) vs ∧ fr 2 = ptr b ∧ fr 5 = ptr o ∧ fr 6 = ptr v ∧ fr 7 = .v (.func (.func 28) #[] #[.pointer (some ⟨o, 0, none⟩), .pointer (some ⟨b, 0, none⟩), .pointer (some ⟨v, 0, none⟩)]) ∧ fr 8 = int (bst r.bo ou vs k).1 ∧ fr 9 = int (bst r.bo ou vs k).2 ∧ fr 39 = .sl 10 (liC r.bo) ∧ fr 40 = int r.bo.length ∧ fr 41 = int k, ⟨_, 0, rfl, by omega, h, f2, f5, f6, f7, rfl, rfl, rfl, rfl, rfl⟩, ?_⟩
      clear f2 f5 f6 f7 fr h kb1 c1 c2 c3 lo σ1
      rintro m fr σ1 ⟨k, rfl, hk, h, f2, f5, f6, f7, f8, f9, f39, f40, f41⟩
      simp only [go_sem, f40, f41, reduceIte, Nat.reduceEqDiff, Nat.reduceAdd, Nat.reduceMul, Nat.reduceSub, Nat.reduceLT, Nat.reduceLeDiff, Int.reduceLE, Int.reduceLT, Int.reduceToNat, Int.reduceEq]
      refine aIf_by (fun hlt2 => ?_) (fun hlt2 => ?_)
      · have hkl : k < r.bo.length := by omega
        have hal := hr.2 _ (List.getElem_mem hkl)
        simp only [go_sem, r_block, f39, f41, liC_get hkl, reduceIte, Nat.reduceEqDiff, Nat.reduceAdd, Nat.reduceMul, Nat.reduceSub, Nat.reduceLT, Nat.reduceLeDiff, Int.reduceLE, Int.reduceLT, Int.reduceToNat, Int.reduceEq]
        refine ⟨by omega, aNew_intro fun c hc hcn => ?_⟩
        have h' := h.new (ob := .cells r.bo[k].cs) hc
        obtain ⟨lo, c1, c2, c3⟩ := h'.num
        obtain ⟨γ, g1, g2, g3⟩ := h'.base
        have hcc : γ c = some (.cells r.bo[k].cs) := g3 c _ set_same (fun a e => by injection e with e; exact absurd (congrArg List.length e) (by rw [Li.len]; simp)) (fun _ _ _ e => by cases e)
        simp only [go_sem, r_block, f39, f41, liC_get hkl, set_same, f5, c1, c2.len, reduceIte, Nat.reduceEqDiff, Nat.reduceAdd, Nat.reduceMul, Nat.reduceSub, Nat.reduceLT, Nat.reduceLeDiff, Int.reduceLE, Int.reduceLT, Int.reduceToNat, Int.reduceEq]
        revert h' c1 c2 c3 g1 g2 g3 hcc
        generalize σ1.set c (.cells r.bo[k].cs) = σ2
        intro h' c1 c2 c3 g1 g2 g3 hcc
        obtain ⟨l, hl⟩ : ∃ l, l = r.bo[k] := ⟨_, rfl⟩
        have hg : r.bo.getD k .zero = l := by rw [hl, li_getD hkl]
        rw [← hl] at hal hcc
        have hst : bst r.bo ou vs (k + 1) = if k ∉ ou ∧ (bst r.bo ou vs k).2 < (knL l vs : Int) then ((k : Int), (knL l vs : Int)) else bst r.bo ou vs k := by
          rw [← hg]; rfl
        refine ⟨fun m fr σ' => ∃ j : Nat, m = ou.length - j ∧ j ≤ ou.length ∧ σ' = σ2 ∧ k ∉ ou.take j ∧ fr 2 = ptr b ∧ fr 5 = ptr o ∧ fr 6 = ptr v ∧ fr 7 = .v (.func (.func 28) #[] #[.pointer (some ⟨o, 0, none⟩), .pointer (some ⟨b, 0, none⟩), .pointer (some ⟨v, 0, none⟩)]) ∧ fr 8 = int (bst r.bo ou vs k).1 ∧ fr 9 = int (bst r.bo ou vs k).2 ∧ fr 39 = .sl 10 (liC r.bo) ∧ fr 40 = int r.bo.length ∧ fr 41 = int k ∧ fr 10 = int k ∧ fr 11 = ptr c ∧ fr 46 = lo ∧ fr 47 = int ou.length ∧ fr 48 = int j, ⟨_, 0, rfl, by omega, rfl, by simp, f2, f5, f6, f7, f8, f9, f39, f40, f41, rfl, rfl, rfl, by rw [← nats_len ou, ← inC_len]; rfl, rfl⟩, ?_⟩
        clear f2 f5 f6 f7 f8 f9 f39 f40 f41 fr
        rintro m fr σ' ⟨j, rfl, hj, rfl, hn, f2, f5, f6, f7, f8, f9, f39, f40, f41, f10, f11, f46, f47, f48⟩
        simp only [go_sem, f47, f48, reduceIte, Nat.reduceEqDiff, Nat.reduceAdd, Nat.reduceMul, Nat.reduceSub, Nat.reduceLT, Nat.reduceLeDiff, Int.reduceLE, Int.reduceLT, Int.reduceToNat, Int.reduceEq]
        refine aIf_by (fun hlt3 => ?_) (fun hlt3 => ?_)
        · have hjl : j < ou.length := by omega
          have ej : (inC (nats ou)).getD j [] = [int (ou[j] : Nat)] := by
            rw [inC_get (by rw [nats_len]; exact hjl)]
            simp [nats]
          simp only [go_sem, r_block, f46, f48, reduceIte, Nat.reduceEqDiff, Nat.reduceAdd, Nat.reduceMul, Nat.reduceSub, Nat.reduceLT, Nat.reduceLeDiff, Int.reduceLE, Int.reduceLT, Int.reduceToNat, Int.reduceEq]
          refine c2.elem (by omega) (by rw [inC_len, nats_len]; omega) fun p hp => ?_
          simp only [go_sem, r_block, reduceIte, Nat.reduceEqDiff, Nat.reduceAdd, Nat.reduceMul, Nat.reduceSub, Nat.reduceLT, Nat.reduceLeDiff, Int.reduceLE, Int.reduceLT, Int.reduceToNat, Int.reduceEq]
          refine hp.load1 (by omega) (by rw [Int.toNat_natCast, ej]; simp) ?_
          simp only [go_sem, r_block, ej, f10, reduceIte, Nat.reduceEqDiff, Nat.reduceAdd, Nat.reduceMul, Nat.reduceSub, Nat.reduceLT, Nat.reduceLeDiff, Int.reduceLE, Int.reduceLT, Int.reduceToNat, Int.reduceEq]
          refine aIf_by (fun he => ?_) (fun he => ?_)
          · have hm : k ∈ ou := by
              have : ou[j] = k := by omega
              exact this ▸ List.getElem_mem hjl
            have e : bst r.bo ou vs (k + 1) = bst r.bo ou vs k := by rw [hst, if_neg fun h => h.1 hm]
            simp only [go_sem, r_block, f2, f5, f6, f7, f8, f9, f39, f40, f41, next64 (show k < 9223372036854775807 by omega), reduceIte, Nat.reduceEqDiff, Nat.reduceAdd, Nat.reduceMul, Nat.reduceSub, Nat.reduceLT, Nat.reduceLeDiff, Int.reduceLE, Int.reduceLT, Int.reduceToNat, Int.reduceEq]
            exact ⟨r.bo.length - (k + 1), by omega, k + 1, rfl, by omega, h', by rw [e], by rw [e], rfl⟩
          · simp only [go_sem, r_block, f2, f5, f6, f7, f8, f9, f39, f40, f41, f10, f11, f46, f47, f48, next64 (show j < 9223372036854775807 by omega), reduceIte, Nat.reduceEqDiff, Nat.reduceAdd, Nat.reduceMul, Nat.reduceSub, Nat.reduceLT, Nat.reduceLeDiff, Int.reduceLE, Int.reduceLT, Int.reduceToNat, Int.reduceEq]
            refine ⟨ou.length - (j + 1), by omega, j + 1, rfl, by omega, ?_, rfl⟩
            rw [List.take_add_one, List.getElem?_eq_getElem hjl]
            simp only [Option.toList, List.mem_append, List.mem_singleton, not_or]
            exact ⟨hn, fun e => he (by rw [← e])⟩
        · have hn : k ∉ ou := by
            rw [List.take_of_length_le (by omega)] at hn; exact hn
          obtain ⟨lw, d1, d2, d3⟩ := h'.var
          simp only [go_sem, r_block, f2, f5, f6, f10, f11, g1.sub _ _ hcc, Li.len, d1, reduceIte, Nat.reduceEqDiff, Nat.reduceAdd, Nat.reduceMul, Nat.reduceSub, Nat.reduceLT, Nat.reduceLeDiff, Int.reduceLE, Int.reduceLT, Int.reduceToNat, Int.reduceEq]
          refine (knows_at l (by omega) (by omega) (.of d2)).mono ?_
          rintro _ σ1 ⟨rfl, rfl⟩
          simp only [go_sem, r_block, f9, reduceIte, Nat.reduceEqDiff, Nat.reduceAdd, Nat.reduceMul, Nat.reduceSub, Nat.reduceLT, Nat.reduceLeDiff, Int.reduceLE, Int.reduceLT, Int.reduceToNat, Int.reduceEq]
          refine aIf_by (fun g2 => ?_) (fun g2 => ?_)
          · have e : bst r.bo ou vs (k + 1) = ((k : Int), (knL l vs : Int)) := by rw [hst, if_pos ⟨hn, g2⟩]
            simp only [go_sem, r_block, f2, f5, f6, f7, f8, f9, f39, f40, f41, f10, next64 (show k < 9223372036854775807 by omega), reduceIte, Nat.reduceEqDiff, Nat.reduceAdd, Nat.reduceMul, Nat.reduceSub, Nat.reduceLT, Nat.reduceLeDiff, Int.reduceLE, Int.reduceLT, Int.reduceToNat, Int.reduceEq]
            exact ⟨r.bo.length - (k + 1), by omega, k + 1, rfl, by omega, h', by rw [e], by rw [e], rfl⟩
          · have e : bst r.bo ou vs (k + 1) = bst r.bo ou vs k := by rw [hst, if_neg fun h => g2 h.2]
            simp only [go_sem, r_block, f2, f5, f6, f7, f8, f9, f39, f40, f41, f10, next64 (show k < 9223372036854775807 by omega), reduceIte, Nat.reduceEqDiff, Nat.reduceAdd, Nat.reduceMul, Nat.reduceSub, Nat.reduceLT, Nat.reduceLeDiff, Int.reduceLE, Int.reduceLT, Int.reduceToNat, Int.reduceEq]
            exact ⟨r.bo.length - (k + 1), by omega, k + 1, rfl, by omega, h', by rw [e], by rw [e], rfl⟩
      · obtain rfl : k = r.bo.length := by omega
        obtain ⟨c, hc, e, hN⟩ := hL.next hr (by omega)
        rw [e] at f8
        simp only [go_sem, r_block, f7, f8, reduceIte, Nat.reduceEqDiff, Nat.reduceAdd, Nat.reduceMul, Nat.reduceSub, Nat.reduceLT, Nat.reduceLeDiff, Int.reduceLE, Int.reduceLT, Int.reduceToNat, Int.reduceEq]
        refine (take_at r hc kb h (by omega) (by omega) (by have := hr.2 _ (List.getElem_mem hc); omega)).mono ?_
        rintro _ σ2 h2
        simp only [go_sem, r_block, f2, f5, f6, f7, reduceIte, Nat.reduceEqDiff, Nat.reduceAdd, Nat.reduceMul, Nat.reduceSub, Nat.reduceLT, Nat.reduceLeDiff, Int.reduceLE, Int.reduceLT, Int.reduceToNat, Int.reduceEq]
        have := perm_len _ _ hN.1
        simp only [List.length_append, List.length_cons, List.length_nil] at this
        exact ⟨_, by simp only [List.length_append, List.length_cons, List.length_nil]; omega, _, _, rfl, h2, hN, f2, f5, f6, f7⟩
    · simp only [go_sem, r_block, f5, c1, reduceIte, Nat.reduceEqDiff, Nat.reduceAdd, Nat.reduceMul, Nat.reduceSub, Nat.reduceLT, Nat.reduceLeDiff, Int.reduceLE, Int.reduceLT, Int.reduceToNat, Int.reduceEq]
      obtain rfl := hL.done (by omega)
      obtain ⟨lo', lw, q1, q2, q3, q4⟩ := h
      obtain rfl : lo' = lo := by
        have := q1.cell.symm.trans c1
        injection this with this
        injection this with this
        injection this
      exact aRet_view (r := lo') rfl _ σ (view_of (sv_of fun x o hx => .inl (q4 x o (ks x o hx)).1) (q1.lat.vw_same fun x hx => Classical.byContradiction fun hn => by
        obtain ⟨o, ho⟩ := Option.ne_none_iff_exists'.1 hn
        exact (q4 x o (ks x o ho)).2.1.2 hx)) ⟨rfl, rfl⟩
end
end Go.Proofs.Ythdfpankebjleaa

/-
  The weight of rules: what weighs little is small in all its parts.
  Conditions: none.
-/
namespace Go.Proofs.Ythdfpankebjleaa
open Go Go.Av

/-- What can lie in memory. -/
def Li.Wf (l : Li) : Prop := l.ar.length ≤ 140737488351232 ∧ l.nm.size ≤ 140737488351232
def Rl.Wf (r : Rl) : Prop := r.ar.length ≤ 140737488351232 ∧ r.nm.size ≤ 140737488351232 ∧ r.bo.length ≤ 140737488351232 ∧ ∀ l ∈ r.bo, l.Wf
/-- Small in its parts. -/
def Rl.Sm (r : Rl) (n : Int) : Prop := r.ar.length ≤ n ∧ r.bo.length ≤ n ∧ ∀ l ∈ r.bo, l.ar.length ≤ n
theorem Rl.Sm.up {r : Rl} {n m : Int} (h : r.Sm n) (hm : n ≤ m) : r.Sm m := ⟨by have := h.1; omega, by have := h.2.1; omega, fun l hl => by have := h.2.2 l hl; omega⟩
def rlC (l : List Rl) : List (List AV) := l.map Rl.cs
@[go_sem] theorem rlC_len (l : List Rl) : (rlC l).length = l.length := by simp [rlC]
theorem rlC_get {l : List Rl} {i : Nat} (h : i < l.length) : (rlC l).getD i [] = l[i].cs := by simp [rlC, List.getD_eq_getElem?_getD, h]
theorem fsl_weak {q : Nat} {σ : St} {es : List (List AV)} {l : List AV} : VWs σ σ (.fsl q es :: l) (.sl q es :: l) :=
  vws_cons (LAt.full.vw_same fun x ⟨n, c, e⟩ => by cases e) (vws_refl _)
theorem quo16 (n : Nat) : ((n : Int)).tdiv 16 = ((n / 16 : Nat) : Int) := by
  rw [Int.tdiv_eq_ediv_of_nonneg (by omega)]; rfl
theorem weigh {n : Int} {a b : Nat} (h0 : 0 ≤ n) (h1 : n ≤ 1000000) (ha : a ≤ 140737488351232) (hb : b ≤ 140737488351232) : IntKind.i64.wrap (n + IntKind.i64.wrap (IntKind.i64.wrap (1 + (a : Int)) + IntKind.i64.wrap (((b : Int)).tdiv 16))) = n + (1 + a + (b / 16 : Nat)) := by
  rw [quo16, wrap64 (x := ((b / 16 : Nat) : Int)) (by omega), wrap64 (x := 1 + (a : Int)) (by omega), wrap64 (x := 1 + (a : Int) + ((b / 16 : Nat) : Int)) (by omega), wrap64 (by omega)]

section
variable {σ : St}
theorem weight_at (l : List Rl) (most : Int) (hl : l.length ≤ 140737488351232) (hw : ∀ r ∈ l, r.Wf) (h0 : 0 ≤ most) (h1 : most ≤ 1000000) : AT Try.prog 8 [.sl 11 (rlC l), int most] σ fun v σ' => (∃ w : Int, v = int w ∧ (w ≤ most → ∀ r ∈ l, r.Sm most)) ∧ σ' = σ := by
  refine AT.of_body Try.func8 rfl (by decide) (by kernel_rfl) (by kernel_rfl) (Nat.le_of_ble_eq_true rfl) ?_
  simp only [go_sem, r_block, reduceIte, Nat.reduceEqDiff, Nat.reduceAdd, Nat.reduceMul, Nat.reduceSub, Nat.reduceLT, Nat.reduceLeDiff, Int.reduceLE, Int.reduceLT, Int.reduceToNat, Int.reduceEq]
  refine ⟨fun m fr σ' => ∃ (i : Nat) (n : Int), m = l.length - i ∧ i ≤ l.length ∧ σ' = σ ∧ 0 ≤ n ∧ n ≤ 10000000000000000 ∧ (most < n ∨ ∀ r ∈ l.take i, r.Sm n) ∧ fr 0 = .sl 11 (rlC l) ∧ fr 1 = int most ∧ fr 5 = int n ∧ fr 6 = int i, ⟨_, 0, 0, rfl, by omega, rfl, by omega, by omega, .inr fun r hr => by simp at hr, rfl, rfl, rfl, rfl⟩, ?_⟩
  rintro m fr σ ⟨i, n, rfl, hi, rfl, hn, hm, hs, f0, f1, f5, f6⟩
  have fin : ∀ (h : n ≤ most), i = l.length → ∀ r ∈ l, r.Sm most := fun h e r hr => by
    subst e
    rw [List.take_of_length_le (Nat.le_refl _)] at hs
    exact ((hs.resolve_left (by omega)) r hr).up h
  by_cases g1 : (i : Int) < l.length
  · by_cases g2 : n ≤ most
    · have hil : i < l.length := by omega
      have hwi := hw _ (List.getElem_mem hil)
      simp only [go_sem, r_block, f0, f1, f5, f6, decide_eq_true g1, decide_eq_true g2, reduceIte, Nat.reduceEqDiff, Nat.reduceAdd, Nat.reduceMul, Nat.reduceSub, Nat.reduceLT, Nat.reduceLeDiff, Int.reduceLE, Int.reduceLT, Int.reduceToNat, Int.reduceEq]
      refine aDraw_plan [.rd 0 false, .rd 1 false, .rd 2 false, .rd 3 false, .rd 4 false, .rd 5 true, .rd 6 false, .rd 7 false, .rd 8 false, .rd 9 false, .rd 10 false, .rd 11 false, .rd 12 true, .rd 13 false, .rd 14 false, .rd 15 false, .rd 16 false, .rd 17 false] (by kernel_rfl) (by kernel_rfl) (by kernel_rfl) ?_
      simp only [go_sem, r_block, f0, f1, f5, f6, rlC_get hil, weigh hn (show n ≤ 1000000 by omega) hwi.1 hwi.2.1, reduceIte, Nat.reduceEqDiff, Nat.reduceAdd, Nat.reduceMul, Nat.reduceSub, Nat.reduceLT, Nat.reduceLeDiff, Int.reduceLE, Int.reduceLT, Int.reduceToNat, Int.reduceEq]
      obtain ⟨n1, hn1⟩ : ∃ n1 : Int, n1 = n + (1 + l[i].ar.length + (l[i].nm.size / 16 : Nat)) := ⟨_, rfl⟩
      have hq := hwi.1
      have hq2 := hwi.2.1
      have hq3 := hwi.2.2.1
      have hs : ∀ r ∈ l.take i, r.Sm n1 := fun r hr => ((hs.resolve_left (by omega)) r hr).up (by omega)
      rw [← hn1]
      refine ⟨by omega, by omega, ?_⟩
      refine ⟨fun m fr σ' => ∃ (k : Nat) (n' : Int), m = l[i].bo.length - k ∧ k ≤ l[i].bo.length ∧ σ' = σ ∧ n1 ≤ n' ∧ n' ≤ 10000000000000000 ∧ (most < n' ∨ (k ≤ n' ∧ ∀ x ∈ l[i].bo.take k, (x.ar.length : Int) ≤ n')) ∧ fr 0 = .sl 11 (rlC l) ∧ fr 1 = int most ∧ fr 5 = int n' ∧ fr 6 = int i ∧ fr 7 = int k, ⟨_, 0, n1, rfl, by omega, rfl, by omega, by omega, .inr ⟨by omega, fun x hx => by simp at hx⟩, f0, f1, rfl, f6, rfl⟩, ?_⟩
      clear f0 f1 f5 f6 fr
      rintro m fr σ ⟨k, n', rfl, hk, rfl, hn', hm', hs', f0, f1, f5, f6, f7⟩
      by_cases g3 : (k : Int) < l[i].bo.length
      · by_cases g4 : n' ≤ most
        · have hkl : k < l[i].bo.length := by omega
          have hwk := hwi.2.2.2 _ (List.getElem_mem hkl)
          have hk1 := hwk.1
          have hk2 := hwk.2
          simp only [go_sem, r_block, f0, f1, f5, f6, f7, rlC_get hil, decide_eq_true g3, decide_eq_true g4, reduceIte, Nat.reduceEqDiff, Nat.reduceAdd, Nat.reduceMul, Nat.reduceSub, Nat.reduceLT, Nat.reduceLeDiff, Int.reduceLE, Int.reduceLT, Int.reduceToNat, Int.reduceEq]
          refine ⟨by omega, ?_⟩
          refine aDraw_plan [.rd 0 false, .rd 1 false, .rd 2 false, .rd 3 false, .rd 4 false, .rd 5 true, .rd 6 false, .rd 7 false, .rd 8 false, .rd 9 true, .rd 10 false, .rd 11 false, .rd 12 false, .rd 13 false, .rd 14 false, .rd 15 false, .rd 16 true, .rd 17 false, .rd 18 false, .rd 19 false, .rd 20 true, .rd 21 false, .rd 22 false, .rd 23 false, .rd 24 false, .rd 25 false] (by kernel_rfl) (by kernel_rfl) (by kernel_rfl) ?_
          simp only [go_sem, r_block, f0, f1, f5, f6, f7, rlC_get hil, liC_get hkl, weigh (show 0 ≤ n' by omega) (show n' ≤ 1000000 by omega) hwk.1 hwk.2, next64 (show k < 9223372036854775807 by omega), reduceIte, Nat.reduceEqDiff, Nat.reduceAdd, Nat.reduceMul, Nat.reduceSub, Nat.reduceLT, Nat.reduceLeDiff, Int.reduceLE, Int.reduceLT, Int.reduceToNat, Int.reduceEq]
          refine ⟨by omega, by omega, by omega, by omega, l[i].bo.length - (k + 1), by omega, k + 1, _, rfl, by omega, ?_, ?_, ?_, rfl, rfl⟩
          · omega
          · omega
          · refine .inr ⟨by have := hs'.resolve_left (by omega); omega, fun x hx => ?_⟩
            rw [List.take_add_one, List.getElem?_eq_getElem hkl] at hx
            rcases List.mem_append.1 hx with hx | hx
            · have := (hs'.resolve_left (by omega)).2 x hx; omega
            · simp at hx; subst hx; omega
        · simp only [go_sem, r_block, f0, f1, f5, f6, f7, rlC_get hil, decide_eq_true g3, decide_eq_false g4, next64 (show i < 9223372036854775807 by omega), reduceIte, Nat.reduceEqDiff, Nat.reduceAdd, Nat.reduceMul, Nat.reduceSub, Nat.reduceLT, Nat.reduceLeDiff, Int.reduceLE, Int.reduceLT, Int.reduceToNat, Int.reduceEq]
          exact ⟨by omega, l.length - (i + 1), by omega, i + 1, n', rfl, by omega, by omega, by omega, .inl (by omega), rfl, rfl⟩
      · simp only [go_sem, r_block, f0, f1, f5, f6, f7, rlC_get hil, decide_eq_false g3, next64 (show i < 9223372036854775807 by omega), reduceIte, Nat.reduceEqDiff, Nat.reduceAdd, Nat.reduceMul, Nat.reduceSub, Nat.reduceLT, Nat.reduceLeDiff, Int.reduceLE, Int.reduceLT, Int.reduceToNat, Int.reduceEq]
        refine ⟨by omega, l.length - (i + 1), by omega, i + 1, n', rfl, by omega, by omega, by omega, ?_, rfl, rfl⟩
        refine hs'.imp _root_.id fun hs' r hr => ?_
        rw [List.take_add_one, List.getElem?_eq_getElem hil] at hr
        rw [List.take_of_length_le (show l[i].bo.length ≤ k by omega)] at hs'
        rcases List.mem_append.1 hr with hr | hr
        · exact (hs r hr).up hn'
        · simp at hr; subst hr; exact ⟨by omega, by omega, hs'.2⟩
    · simp only [go_sem, r_block, f0, f1, f5, f6, decide_eq_true g1, decide_eq_false g2, reduceIte, Nat.reduceEqDiff, Nat.reduceAdd, Nat.reduceMul, Nat.reduceSub, Nat.reduceLT, Nat.reduceLeDiff, Int.reduceLE, Int.reduceLT, Int.reduceToNat, Int.reduceEq]
      exact aRet_as (r := int n) rfl ⟨⟨n, rfl, fun h => by omega⟩, rfl⟩
  · simp only [go_sem, r_block, f0, f1, f5, f6, decide_eq_false g1, reduceIte, Nat.reduceEqDiff, Nat.reduceAdd, Nat.reduceMul, Nat.reduceSub, Nat.reduceLT, Nat.reduceLeDiff, Int.reduceLE, Int.reduceLT, Int.reduceToNat, Int.reduceEq]
    exact aRet_as (r := int n) rfl ⟨⟨n, rfl, fun h => fin h (by omega)⟩, rfl⟩
end
end Go.Proofs.Ythdfpankebjleaa

/-
  The weight of facts; copies of facts; facts that are spoilt; the document's bodies.
  Conditions: none.
-/
namespace Go.Proofs.Ythdfpankebjleaa
open Go Go.Av

/-- What can lie in memory. -/
def Cn.Wf (c : Cn) : Prop := c.s.size ≤ 140737488351232
def Fa.Wf (f : Fa) : Prop := f.ar.length ≤ 140737488351232 ∧ f.at'.size ≤ 140737488351232 ∧ f.by'.size ≤ 140737488351232 ∧ f.pr.size ≤ 140737488351232 ∧ ∀ c ∈ f.ar, c.Wf
theorem weighF {n : Int} {a s1 s2 s3 : Nat} (h0 : 0 ≤ n) (h1 : n ≤ 1000000) (ha : a ≤ 140737488351232) (b1 : s1 ≤ 140737488351232) (b2 : s2 ≤ 140737488351232) (b3 : s3 ≤ 140737488351232) :
    IntKind.i64.wrap (n + IntKind.i64.wrap (IntKind.i64.wrap (1 + (a : Int)) + IntKind.i64.wrap ((IntKind.i64.wrap (IntKind.i64.wrap ((s1 : Int) + s2) + s3)).tdiv 16))) = n + (1 + a + ((s1 + s2 + s3) / 16 : Nat)) := by
  rw [wrap64 (x := (s1 : Int) + s2) (by omega), wrap64 (x := (s1 : Int) + s2 + s3) (by omega), show ((s1 : Int) + s2 + s3) = ((s1 + s2 + s3 : Nat) : Int) by omega, quo16, wrap64 (x := (((s1 + s2 + s3) / 16 : Nat) : Int)) (by omega), wrap64 (x := 1 + (a : Int)) (by omega), wrap64 (x := 1 + (a : Int) + (((s1 + s2 + s3) / 16 : Nat) : Int)) (by omega), wrap64 (by omega)]
theorem weighS {n : Int} {s : Nat} (h0 : 0 ≤ n) (h1 : n ≤ 1000000) (b : s ≤ 140737488351232) : IntKind.i64.wrap (n + IntKind.i64.wrap ((s : Int).tdiv 16)) = n + (s / 16 : Nat) := by
  rw [quo16, wrap64 (x := ((s / 16 : Nat) : Int)) (by omega), wrap64 (by omega)]
section
variable {σ : St}
theorem fweight_at (l : List Fa) (most : Int) (hl : l.length ≤ 140737488351232) (hw : ∀ f ∈ l, f.Wf) (h0 : 0 ≤ most) (h1 : most ≤ 1000000) : AT Try.prog 33 [.sl 4 (faC l), int most] σ fun v σ' => (∃ w : Int, v = int w ∧ (w ≤ most → l.length ≤ most ∧ ∀ f ∈ l, (f.ar.length : Int) ≤ most)) ∧ σ' = σ := by
  refine AT.of_body Try.func33 rfl (by decide) (by kernel_rfl) (by kernel_rfl) (Nat.le_of_ble_eq_true rfl) ?_
  simp only [go_sem, r_block, reduceIte, Nat.reduceEqDiff, Nat.reduceAdd, Nat.reduceMul, Nat.reduceSub, Nat.reduceLT, Nat.reduceLeDiff, Int.reduceLE, Int.reduceLT, Int.reduceToNat, Int.reduceEq]
  refine ⟨fun m fr σ' => ∃ (i : Nat) (n : Int), m = l.length - i ∧ i ≤ l.length ∧ σ' = σ ∧ 0 ≤ n ∧ n ≤ 10000000000000000 ∧ (most < n ∨ i ≤ n ∧ ∀ f ∈ l.take i, (f.ar.length : Int) ≤ n) ∧ fr 0 = .sl 4 (faC l) ∧ fr 1 = int most ∧ fr 5 = int n ∧ fr 6 = int i, ⟨_, 0, 0, rfl, by omega, rfl, by omega, by omega, .inr ⟨by omega, fun r hr => by simp at hr⟩, rfl, rfl, rfl, rfl⟩, ?_⟩
  rintro m fr σ ⟨i, n, rfl, hi, rfl, hn, hm, hs, f0, f1, f5, f6⟩
  by_cases g1 : (i : Int) < l.length
  · by_cases g2 : n ≤ most
    · have hil : i < l.length := by omega
      have hwi := hw _ (List.getElem_mem hil)
      obtain ⟨hs0, hs⟩ := hs.resolve_left (by omega)
      simp only [go_sem, r_block, f0, f1, f5, f6, decide_eq_true g1, decide_eq_true g2, reduceIte, Nat.reduceEqDiff, Nat.reduceAdd, Nat.reduceMul, Nat.reduceSub, Nat.reduceLT, Nat.reduceLeDiff, Int.reduceLE, Int.reduceLT, Int.reduceToNat, Int.reduceEq]
      refine aDraw_plan [.rd 0 false, .rd 1 false, .rd 2 false, .rd 3 false, .rd 4 false, .rd 5 true, .rd 6 false, .rd 7 false, .rd 8 false, .rd 9 false, .rd 10 false, .rd 11 false, .rd 12 true, .rd 13 false, .rd 14 false, .rd 15 false, .rd 16 false, .rd 17 false, .rd 18 true, .rd 19 false, .rd 20 false, .rd 21 false, .rd 22 false, .rd 23 false, .rd 24 false, .rd 25 true, .rd 26 false, .rd 27 false, .rd 28 false, .rd 29 false, .rd 30 false, .rd 31 false] (by kernel_rfl) (by kernel_rfl) (by kernel_rfl) ?_
      obtain ⟨X, hX⟩ : ∃ X, X = l[i] := ⟨_, rfl⟩
      have eg : (faC l).getD i [] = X.cs := by rw [hX]; exact faC_get hil
      rw [← hX] at hwi
      have ew := weighF hn (show n ≤ 1000000 by omega) hwi.1 hwi.2.1 hwi.2.2.1 hwi.2.2.2.1
      simp only [go_sem, r_block, f0, f1, f5, f6, eg, ew, reduceIte, Nat.reduceEqDiff, Nat.reduceAdd, Nat.reduceMul, Nat.reduceSub, Nat.reduceLT, Nat.reduceLeDiff, Int.reduceLE, Int.reduceLT, Int.reduceToNat, Int.reduceEq]
      obtain ⟨n1, hn1⟩ : ∃ n1 : Int, n1 = n + (1 + X.ar.length + ((X.at'.size + X.by'.size + X.pr.size) / 16 : Nat)) := ⟨_, rfl⟩
      have hq := hwi.1
      have hq2 := hwi.2.1
      have hq3 := hwi.2.2.1
      have hq4 := hwi.2.2.2.1
      have hs : ∀ f ∈ l.take (i + 1), (f.ar.length : Int) ≤ n1 := fun f hf => by
        rw [List.take_add_one, List.getElem?_eq_getElem hil] at hf
        rcases List.mem_append.1 hf with hf | hf
        · have := hs f hf; omega
        · simp at hf; subst hf; rw [← hX]; omega
      rw [← hn1]
      refine ⟨by omega, by omega, by omega, by omega, ?_⟩
      refine ⟨fun m fr σ' => ∃ (k : Nat) (n' : Int), m = X.ar.length - k ∧ k ≤ X.ar.length ∧ σ' = σ ∧ n1 ≤ n' ∧ n' ≤ 10000000000000000 ∧ fr 0 = .sl 4 (faC l) ∧ fr 1 = int most ∧ fr 5 = int n' ∧ fr 6 = int i ∧ fr 7 = int k, ⟨_, 0, n1, rfl, by omega, rfl, by omega, by omega, f0, f1, rfl, f6, rfl⟩, ?_⟩
      clear f0 f1 f5 f6 fr
      rintro m fr σ ⟨k, n', rfl, hk, rfl, hn', hm', f0, f1, f5, f6, f7⟩
      have nx : ∃ m', m' < l.length - i ∧ ∃ (i' : Nat) (n'' : Int), m' = l.length - i' ∧ i' ≤ l.length ∧ 0 ≤ n'' ∧ n'' ≤ 10000000000000000 ∧ (most < n'' ∨ i' ≤ n'' ∧ ∀ f ∈ l.take i', (f.ar.length : Int) ≤ n'') ∧ n'' = n' ∧ i' = i + 1 :=
        ⟨l.length - (i + 1), by omega, i + 1, n', rfl, by omega, by omega, by omega, .inr ⟨by omega, fun f hf => by have := hs f hf; omega⟩, rfl, rfl⟩
      by_cases g3 : (k : Int) < X.ar.length
      · by_cases g4 : n' ≤ most
        · have hkl : k < X.ar.length := by omega
          have hwk := hwi.2.2.2.2 _ (List.getElem_mem hkl)
          unfold Cn.Wf at hwk
          have ew2 := weighS (show 0 ≤ n' by omega) (show n' ≤ 1000000 by omega) hwk
          simp only [go_sem, r_block, f0, f1, f5, f6, f7, eg, decide_eq_true g3, decide_eq_true g4, cnC_get hkl, ew2, next64 (show k < 9223372036854775807 by omega), reduceIte, Nat.reduceEqDiff, Nat.reduceAdd, Nat.reduceMul, Nat.reduceSub, Nat.reduceLT, Nat.reduceLeDiff, Int.reduceLE, Int.reduceLT, Int.reduceToNat, Int.reduceEq]
          refine ⟨by omega, by omega, by omega, X.ar.length - (k + 1), by omega, k + 1, _, rfl, by omega, ?_, ?_, rfl, rfl⟩
          · omega
          · omega
        · simp only [go_sem, r_block, f0, f1, f5, f6, f7, eg, decide_eq_true g3, decide_eq_false g4, next64 (show i < 9223372036854775807 by omega), reduceIte, Nat.reduceEqDiff, Nat.reduceAdd, Nat.reduceMul, Nat.reduceSub, Nat.reduceLT, Nat.reduceLeDiff, Int.reduceLE, Int.reduceLT, Int.reduceToNat, Int.reduceEq]
          obtain ⟨m', h1, i', n'', h2, h3, h4, h5, h6, rfl, rfl⟩ := nx
          exact ⟨by omega, m', h1, i + 1, n'', h2, h3, h4, h5, h6, rfl, rfl⟩
      · simp only [go_sem, r_block, f0, f1, f5, f6, f7, eg, decide_eq_false g3, next64 (show i < 9223372036854775807 by omega), reduceIte, Nat.reduceEqDiff, Nat.reduceAdd, Nat.reduceMul, Nat.reduceSub, Nat.reduceLT, Nat.reduceLeDiff, Int.reduceLE, Int.reduceLT, Int.reduceToNat, Int.reduceEq]
        obtain ⟨m', h1, i', n'', h2, h3, h4, h5, h6, rfl, rfl⟩ := nx
        exact ⟨by omega, m', h1, i + 1, n'', h2, h3, h4, h5, h6, rfl, rfl⟩
    · simp only [go_sem, r_block, f0, f1, f5, f6, decide_eq_true g1, decide_eq_false g2, reduceIte, Nat.reduceEqDiff, Nat.reduceAdd, Nat.reduceMul, Nat.reduceSub, Nat.reduceLT, Nat.reduceLeDiff, Int.reduceLE, Int.reduceLT, Int.reduceToNat, Int.reduceEq]
      exact aRet_as (r := int n) rfl ⟨⟨n, rfl, fun h => by omega⟩, rfl⟩
  · simp only [go_sem, r_block, f0, f1, f5, f6, decide_eq_false g1, reduceIte, Nat.reduceEqDiff, Nat.reduceAdd, Nat.reduceMul, Nat.reduceSub, Nat.reduceLT, Nat.reduceLeDiff, Int.reduceLE, Int.reduceLT, Int.reduceToNat, Int.reduceEq]
    refine aRet_as (r := int n) rfl ⟨⟨n, rfl, fun h => ?_⟩, rfl⟩
    have hs := hs.resolve_left (by omega)
    rw [List.take_of_length_le (by omega)] at hs
    exact ⟨by omega, fun f hf => by have := hs.2 f hf; omega⟩
end
end Go.Proofs.Ythdfpankebjleaa

/-
  Copies of facts; facts that are spoilt; what a walk owns, seen as less.
  Conditions: none.
-/
namespace Go.Proofs.Ythdfpankebjleaa
open Go Go.Av

theorem Rd.keepO {q : Nat} {σ σ' : St} {a : AV} {es : List (List AV)} (h : Rd q σ a es) (hs : ∀ x o, σ x = some o → Own a x → σ' x = some o) : Rd q σ' a es := h.imp _root_.id fun h => h.keep hs
theorem Rd.own_rows {q : Nat} {σ : St} {a : AV} {es : List (List AV)} (h : Rd q σ a es) {x : Nat} (ho : Own a x) : ∃ cap, σ x = some (.rows q es false cap) := by
  rcases h with rfl | h
  · exact absurd ho own_no_sl
  · exact h.own_rows ho
theorem Rd.vw {q : Nat} {σ0 σ : St} {a : AV} {es : List (List AV)} (h : Rd q σ a es) (hf : ∀ x, Own a x → σ0 x = none) : VW σ σ0 a (.sl q es) := by
  rcases h with rfl | h
  · exact .refl _
  · exact h.vw_same hf
/-- A fact whose arguments can be read, and are nobody's that was. -/
def FrX (σ0 σ : St) (f : Fa) (e : List AV) : Prop := ∃ a, e = faX f a ∧ Rd 3 σ a (cnC f.ar) ∧ ∀ x, Own a x → σ0 x = none
theorem FrX.vws {σ0 σ : St} {f : Fa} {e : List AV} (h : FrX σ0 σ f e) : VWs σ σ0 e f.cs := by
  obtain ⟨a, rfl, h1, h2⟩ := h
  exact vws_same (vws_same (vws_same (vws_cons (h1.vw h2) vws_nil)))
/-- A list of such facts. -/
def CP (σ0 σ : St) (lv : AV) (es : List (List AV)) (b : List Fa) : Prop := (∀ x o, σ0 x = some o → σ x = some o) ∧ LAt 4 σ lv es ∧ (∀ x, Own lv x → σ0 x = none) ∧ es.length = b.length ∧ ∀ j (h : j < b.length), FrX σ0 σ b[j] (es.getD j [])
theorem CP.vw {σ0 σ : St} {lv : AV} {es : List (List AV)} {b : List Fa} (h : CP σ0 σ lv es b) : VW σ σ0 lv (.sl 4 (faC b)) := by
  obtain ⟨h1, h2, h3, h4, h5⟩ := h
  refine h2.vw h3 (by rw [faC_len, h4]) fun i hi => ?_
  rw [faC_get (by omega)]
  exact (h5 i (by omega)).vws
theorem CP.view {σ0 σ : St} {lv : AV} {es : List (List AV)} {b : List Fa} (h : CP σ0 σ lv es b) : View σ lv σ0 (.sl 4 (faC b)) := view_of (sv_of fun x o hx => .inl (h.1 x o hx)) h.vw
theorem PB.view {σ0 σ : St} {v : AV} {bods : List (List Fa)} (h : PB σ0 σ v bods) : View σ v σ0 (.sl 1 (boC bods)) := by
  obtain ⟨h1, h2, es, h3, h4, h5⟩ := h
  refine view_of (sv_of fun x o hx => .inl (h1 x o hx)) (h3.lat.vw h2 (by rw [boC_len, h4]) fun i hi => ?_)
  obtain ⟨w, k1, k2⟩ := h5 i (by omega)
  rw [boC_get (by omega), k1]
  refine vws_cons ?_ vws_nil
  rcases k2 with ⟨e, rfl | rfl⟩ | ⟨c, cap, rfl, k3, k4, es', k5, k6, k7⟩
  · rw [e]; exact .nil 4
  · rw [e]; exact LAt.full.vw_same fun x hx => absurd hx own_no_fsl
  · have hL : LAt 4 σ (slv c bods[i].length cap) es' := .inr (.inr ⟨c, cap, by rw [k6], by omega, k5⟩)
    refine hL.vw (fun x hx => by rw [own_slv.1 hx]; exact k4) (by rw [faC_len, k6]) fun j hj => ?_
    rw [faC_get (by omega)]
    obtain ⟨a, g1, g2⟩ := k7 j (by omega)
    exact FrX.vws ⟨a, g1, (g2.resolve_left fun h => h.2 trivial).1.lat |> .of, (g2.resolve_left fun h => h.2 trivial).2⟩
theorem PB.read {σ0 σ : St} {v : AV} {bods : List (List Fa)} (h : PB σ0 σ v bods) : LX σ bods v := by
  obtain ⟨h1, h2, es, h3, h4, h5⟩ := h
  refine ⟨es, .of h3.lat, h4, fun i hi => ?_⟩
  obtain ⟨w, k1, k2⟩ := h5 i hi
  refine ⟨w, k1, ?_⟩
  rcases k2 with ⟨e, rfl | rfl⟩ | ⟨c, cap, rfl, k3, k4, es', k5, k6, k7⟩
  · rw [e]; exact ⟨[], .of .none, rfl, fun j hj => by simp at hj⟩
  · rw [e]; exact ⟨[], .of .full, rfl, fun j hj => by simp at hj⟩
  · refine ⟨es', .of (.inr (.inr ⟨c, cap, by rw [k6], by omega, k5⟩)), k6, fun j hj => ?_⟩
    obtain ⟨a, g1, g2⟩ := k7 j hj
    exact ⟨a, g1, .of (g2.resolve_left fun h => h.2 trivial).1.lat⟩
/-! ### What is spoilt -/
/-- All is as it was, but what is in rows of three cells. -/
def Sh (σ σ' : St) : Prop := ∀ x o, σ x = some o → σ' x = some o ∨ ∃ es es' cap, o = .rows 3 es false cap ∧ σ' x = some (.rows 3 es' false cap) ∧ es'.length = es.length
theorem Sh.refl (σ : St) : Sh σ σ := fun x o h => .inl h
theorem Sh.trans {σ σ1 σ2 : St} (h : Sh σ σ1) (k : Sh σ1 σ2) : Sh σ σ2 := fun x o hx => by
  rcases h x o hx with h1 | ⟨es, es', cap, rfl, h2, h3⟩
  · exact k x o h1
  · rcases k x _ h2 with k1 | ⟨es1, es2, cap2, e, k2, k3⟩
    · exact .inr ⟨es, es', cap, rfl, k1, h3⟩
    · injection e with _ e2 _ e4
      subst e2; subst e4
      exact .inr ⟨es, es2, _, rfl, k2, k3.trans h3⟩
theorem Sh.put {σ : St} {x : Nat} {es es' : List (List AV)} {cap : Nat} (h : σ x = some (.rows 3 es false cap)) (hl : es'.length = es.length) : Sh σ (σ.set x (.rows 3 es' false cap)) := fun y o hy => by
  by_cases e : y = x
  · subst e
    rw [h] at hy
    injection hy with hy
    exact .inr ⟨es, es', cap, hy.symm, set_same, hl⟩
  · exact .inl (by rw [set_ne e]; exact hy)
def Sp3 (σ : St) (a : AV) (m : Nat) : Prop := (m = 0 ∧ (a = nilS ∨ a = .fsl 3 [])) ∨ ∃ e cap es, a = slv e m cap ∧ σ e = some (.rows 3 es false cap) ∧ es.length = m
theorem Sp3.sh {σ σ' : St} {a : AV} {m : Nat} (hs : Sh σ σ') (h : Sp3 σ a m) : Sp3 σ' a m := by
  rcases h with h | ⟨e, cap, es, rfl, h1, h2⟩
  · exact .inl h
  · rcases hs _ _ h1 with k | ⟨es1, es2, cap2, ee, k2, k3⟩
    · exact .inr ⟨e, cap, es, rfl, k, h2⟩
    · injection ee with _ e2 _ e4
      subst e2; subst e4
      exact .inr ⟨e, cap, es2, rfl, k2, k3.trans h2⟩
def Bs (σ : St) (w : AV) (n : Nat) : Prop := (n = 0 ∧ (w = nilS ∨ w = .fsl 4 [])) ∨ ∃ c cap es, w = slv c n cap ∧ σ c = some (.rows 4 es false cap) ∧ es.length = n ∧ ∀ j, j < n → ∃ f a m, es.getD j [] = faX f a ∧ m ≤ 1000000000 ∧ Sp3 σ a m
theorem Bs.sh {σ σ' : St} {w : AV} {n : Nat} (hs : Sh σ σ') (h : Bs σ w n) : Bs σ' w n := by
  rcases h with h | ⟨c, cap, es, rfl, h1, h2, h3⟩
  · exact .inl h
  · rcases hs _ _ h1 with k | ⟨es1, es2, cap2, ee, k2, k3⟩
    · exact .inr ⟨c, cap, es, rfl, k, h2, fun j hj => by obtain ⟨f, a, m, g1, g2, g3⟩ := h3 j hj; exact ⟨f, a, m, g1, g2, g3.sh hs⟩⟩
    · cases ee
theorem BR.bs {σ0 σ : St} {w : AV} {b : List Fa} (h : BR σ0 σ w b) (sm : SmB b) : Bs σ w b.length := by
  rcases h with ⟨rfl, h⟩ | ⟨c, cap, rfl, k3, k4, es', k5, k6, k7⟩
  · exact .inl ⟨rfl, h⟩
  · refine .inr ⟨c, cap, es', rfl, k5, k6, fun j hj => ?_⟩
    obtain ⟨a, g1, g2⟩ := k7 j hj
    refine ⟨b[j], a, b[j].ar.length, g1, sm.2 _ (List.getElem_mem hj), ?_⟩
    rcases (g2.resolve_left fun h => h.2 trivial).1 with ⟨e, h⟩ | ⟨e, cap', rfl, h1, h2⟩
    · refine .inl ⟨?_, h⟩
      have := congrArg List.length e
      simpa [cnC_len] using this
    · exact .inr ⟨e, cap', _, by rw [cnC_len], h2, by rw [cnC_len]⟩
section
variable {σ : St}
theorem copy_at (l : List Fa) (hl : l.length ≤ 1000000) (hls : ∀ f ∈ l, f.Sm) : AT Try.prog 14 [.sl 4 (faC l)] σ fun r σ' => r = .sl 4 (faC l) ∧ σ' = σ := by
  refine AT.of_body Try.func14 rfl (by decide) (by kernel_rfl) (by kernel_rfl) (Nat.le_of_ble_eq_true rfl) ?_
  simp only [go_sem, r_block, reduceIte, Nat.reduceEqDiff, Nat.reduceAdd, Nat.reduceMul, Nat.reduceSub, Nat.reduceLT, Nat.reduceLeDiff, Int.reduceLE, Int.reduceLT, Int.reduceToNat, Int.reduceEq]
  refine ⟨fun m fr σ' => ∃ (i : Nat) (lv : AV) (es : List (List AV)), m = l.length - i ∧ i ≤ l.length ∧ CP σ σ' lv es (l.take i) ∧ fr 0 = .sl 4 (faC l) ∧ fr 3 = lv ∧ fr 4 = int i, ⟨_, 0, nilS, [], rfl, by omega, ⟨fun _ _ h => h, .none, fun x hx => absurd hx own_no_nil, by simp, fun j hj => by simp at hj⟩, rfl, rfl, rfl⟩, ?_⟩
  rintro m fr σ1 ⟨i, lv, es, rfl, hi, ⟨p1, p2, p3, p4, p5⟩, f0, f3, f4⟩
  simp only [go_sem, f0, f4, reduceIte, Nat.reduceEqDiff, Nat.reduceAdd, Nat.reduceMul, Nat.reduceSub, Nat.reduceLT, Nat.reduceLeDiff, Int.reduceLE, Int.reduceLT, Int.reduceToNat, Int.reduceEq]
  refine aIf_by (fun hlt => ?_) (fun hlt => ?_)
  · have hil : i < l.length := by omega
    have hsm := hls _ (List.getElem_mem hil)
    unfold Fa.Sm at hsm
    simp only [go_sem, r_block, f0, f4, faC_get hil, reduceIte, Nat.reduceEqDiff, Nat.reduceAdd, Nat.reduceMul, Nat.reduceSub, Nat.reduceLT, Nat.reduceLeDiff, Int.reduceLE, Int.reduceLT, Int.reduceToNat, Int.reduceEq]
    refine ⟨by omega, Ctx.nil.alloc fun t5 σ2 c1 => ?_⟩
    obtain ⟨σ3, e3, c2⟩ := c1.abs 0 rfl (.cells l[i].cs)
    simp only [go_sem, r_block, c1.g0, e3, c2.g0, reduceIte, Nat.reduceEqDiff, Nat.reduceAdd, Nat.reduceMul, Nat.reduceSub, Nat.reduceLT, Nat.reduceLeDiff, Int.reduceLE, Int.reduceLT, Int.reduceToNat, Int.reduceEq]
    refine aApp_by (ys := cnC l[i].ar) (by simp [src]) (by decide) (by decide) (by decide) (LAt.full.app (by rw [cnC_len]; simp only [List.length_nil]; omega) fun la σ4 h1 g1 => ?_)
    rw [List.nil_append] at h1
    have G1 : Grow σ3 σ4 la := fun y o hy => g1 y o hy own_no_fsl
    have k4 := G1 _ _ c2.g0
    simp only [go_sem, r_block, k4.1, h1.one, h1.cells, reduceIte, Nat.reduceEqDiff, Nat.reduceAdd, Nat.reduceMul, Nat.reduceSub, Nat.reduceLT, Nat.reduceLeDiff, Int.reduceLE, Int.reduceLT, Int.reduceToNat, Int.reduceEq]
    have esp : splice l[i].cs 3 [la] = faX l[i] la := rfl
    have eal : (faX l[i] la).all AV.one = true := faX_one _ h1.one
    obtain ⟨σ5, e5⟩ : ∃ s, σ4.set t5 (.cells (faX l[i] la)) = s := ⟨_, rfl⟩
    have k5 : σ5 t5 = some (.cells (faX l[i] la)) := by rw [← e5]; exact set_same
    have s5 : ∀ y o, σ1 y = some o → σ5 y = some o := fun y o hy => by
      rw [← e5, set_ne fun e => by
        have := c2.f0
        rw [← e, hy] at this; cases this]
      exact (G1 _ _ (c2.sub _ _ hy)).1
    simp only [go_sem, r_block, esp, e5, k5, eal, f3, reduceIte, Nat.reduceEqDiff, Nat.reduceAdd, Nat.reduceMul, Nat.reduceSub, Nat.reduceLT, Nat.reduceLeDiff, Int.reduceLE, Int.reduceLT, Int.reduceToNat, Int.reduceEq]
    have p2' := p2.keep (σ' := σ5) fun y o hy _ => s5 y o hy
    refine aApp_by (ys := [faX l[i] la]) (by rfl) (by decide) (by decide) (by decide) (p2'.app (by rw [p4, List.length_take]; simp only [List.length_cons, List.length_nil]; omega) fun lv' σ6 h2 g2 => ?_)
    simp only [go_sem, r_block, f0, f4, next64 (show i < 9223372036854775807 by omega), reduceIte, Nat.reduceEqDiff, Nat.reduceAdd, Nat.reduceMul, Nat.reduceSub, Nat.reduceLT, Nat.reduceLeDiff, Int.reduceLE, Int.reduceLT, Int.reduceToNat, Int.reduceEq]
    have nol : ∀ y, σ y ≠ none → ¬ Own lv y := fun y hy ho => hy (p3 y ho)
    have n3 : ∀ {q : Nat} {es' : List (List AV)} {cap : Nat} {y : Nat}, q ≠ 4 → σ1 y = some (.rows q es' false cap) → ¬ Own lv y := fun hq hy ho => by
      obtain ⟨c, hc⟩ := p2.own_rows ho
      rw [hc] at hy
      injection hy with hy
      injection hy with hy
      exact hq hy.symm
    have h5 : LAt 3 σ5 la (cnC l[i].ar) := h1.keep fun y o hy ho => by
      rw [← e5, set_ne fun e => by subst e; exact k4.2 ho]; exact hy
    have hla6 : LAt 3 σ6 la (cnC l[i].ar) := h5.keep fun y o hy ho => (g2 y o hy fun ho' => by
      obtain ⟨c, hc⟩ := p2'.own_rows ho'
      obtain ⟨c', hc'⟩ := h5.own_rows ho
      rw [hc] at hc'; cases hc').1
    refine ⟨l.length - (i + 1), by omega, i + 1, lv', es ++ [faX l[i] la], rfl, by omega, ⟨fun y o hy => (g2 _ _ (s5 _ _ (p1 y o hy)) (nol y (by rw [hy]; simp))).1, h2, fun y ho => ?_, by simp [p4]; omega, fun j hj => ?_⟩, rfl, rfl⟩
    · cases hy : σ y with
      | none => rfl
      | some o => exact absurd ho (g2 _ _ (s5 _ _ (p1 y o hy)) (nol y (by rw [hy]; simp))).2
    · by_cases e : j < i
      · have hj' : j < (l.take i).length := by simp; omega
        obtain ⟨a, a1, a2, a3⟩ := p5 j hj'
        refine ⟨a, ?_, ?_, a3⟩
        · rw [List.getD_eq_getElem?_getD, List.getElem?_append_left (by rw [p4]; exact hj'), ← List.getD_eq_getElem?_getD, a1]
          simp
        · have : (l.take (i + 1))[j] = (l.take i)[j] := by simp
          rw [this]
          refine a2.keepO fun y o hy ho => ?_
          obtain ⟨c, hc⟩ := a2.own_rows ho
          exact (g2 _ _ (s5 _ _ hy) (n3 (by decide) hc)).1
      · have e2 : j = i := by simp at hj; omega
        subst e2
        have e3 : (l.take (j + 1))[j] = l[j] := by simp
        rw [e3]
        refine ⟨la, ?_, .of hla6, fun y ho => ?_⟩
        · have : es.length = j := by rw [p4]; simp; omega
          rw [List.getD_eq_getElem?_getD, List.getElem?_append_right (by omega), this]; simp
        · have := G1.own ho
          exact none_of_sub (fun z o hz => c2.sub _ _ (p1 z o hz)) this
  · simp only [go_sem, r_block, f3, reduceIte, Nat.reduceEqDiff, Nat.reduceAdd, Nat.reduceMul, Nat.reduceSub, Nat.reduceLT, Nat.reduceLeDiff, Int.reduceLE, Int.reduceLT, Int.reduceToNat, Int.reduceEq]
    rw [List.take_of_length_le (by omega)] at p4 p5
    have hcp : CP σ σ1 lv es l := ⟨p1, p2, p3, p4, p5⟩
    exact aRet_view (r := lv) rfl _ σ hcp.view ⟨rfl, rfl⟩
theorem spoil_at {w : AV} {n : Nat} (h : Bs σ w n) (hn : n ≤ 1000000000) : AT Try.prog 17 [w] σ fun _ σ' => Sh σ σ' := by
  refine AT.of_body Try.func17 rfl (by decide) (by kernel_rfl) (by kernel_rfl) (Nat.le_of_ble_eq_true rfl) ?_
  have hlen : ∀ {ag : Bool} {sz eby : Nat} {zr ez : List Value} {byt : Bool} {K : AV → Prop}, aLen (some ⟨ag, sz, zr, .sl 4 eby ez byt⟩) w K = K (int n) := by
    rcases h with ⟨rfl, rfl | rfl⟩ | ⟨c, cap, es, rfl, h1, h2, h3⟩
    all_goals intros; rfl
  simp only [go_sem, r_block, reduceIte, Nat.reduceEqDiff, Nat.reduceAdd, Nat.reduceMul, Nat.reduceSub, Nat.reduceLT, Nat.reduceLeDiff, Int.reduceLE, Int.reduceLT, Int.reduceToNat, Int.reduceEq]
  refine ⟨fun m fr σ' => ∃ i : Nat, m = n - i ∧ i ≤ n ∧ Sh σ σ' ∧ fr 0 = w ∧ fr 2 = int i, ⟨_, 0, rfl, by omega, .refl σ, rfl, rfl⟩, ?_⟩
  rintro m fr σ1 ⟨i, rfl, hi, hs, f0, f2⟩
  simp only [go_sem, f0, f2, hlen, reduceIte, Nat.reduceEqDiff, Nat.reduceAdd, Nat.reduceMul, Nat.reduceSub, Nat.reduceLT, Nat.reduceLeDiff, Int.reduceLE, Int.reduceLT, Int.reduceToNat, Int.reduceEq]
  refine aIf_by (fun hlt => ?_) (fun hlt => ?_)
  · simp only [go_sem, r_block, reduceIte, Nat.reduceEqDiff, Nat.reduceAdd, Nat.reduceMul, Nat.reduceSub, Nat.reduceLT, Nat.reduceLeDiff, Int.reduceLE, Int.reduceLT, Int.reduceToNat, Int.reduceEq]
    rcases h.sh hs with ⟨rfl, _⟩ | ⟨c, cap, es, rfl, h1, h2, h3⟩
    · omega
    · obtain ⟨f, a, m, g1, g2, g3⟩ := h3 i (by omega)
      refine ⟨fun mm fr σ' => ∃ j : Nat, mm = m - j ∧ j ≤ m ∧ Sh σ σ' ∧ Sp3 σ' a m ∧ σ' c = some (.rows 4 es false cap) ∧ fr 0 = slv c n cap ∧ fr 2 = int i ∧ fr 3 = int j, ⟨_, 0, rfl, by omega, hs, g3, h1, f0, f2, rfl⟩, ?_⟩
      clear f0 f2 fr hs h1 g3
      rintro mm fr σ2 ⟨j, rfl, hj, hs, g3, h1, f0, f2, f3⟩
      have alen : ∀ {ag : Bool} {sz eby : Nat} {zr ez : List Value} {byt : Bool} {K : AV → Prop}, aLen (some ⟨ag, sz, zr, .sl 3 eby ez byt⟩) a K = K (int m) := by
        rcases g3 with ⟨rfl, rfl | rfl⟩ | ⟨c, cap, es, rfl, h1, h2⟩
        all_goals intros; rfl
      simp only [go_sem, f0, f2, f3, h1, g1, h2, alen, reduceIte, Nat.reduceEqDiff, Nat.reduceAdd, Nat.reduceMul, Nat.reduceSub, Nat.reduceLT, Nat.reduceLeDiff, Int.reduceLE, Int.reduceLT, Int.reduceToNat, Int.reduceEq]
      refine ⟨by omega, by omega, aIf_by (fun hlt2 => ?_) (fun hlt2 => ?_)⟩
      · rcases g3 with ⟨rfl, _⟩ | ⟨e, cap', es', rfl, k1, k2⟩
        · omega
        · simp only [go_sem, r_block, f0, f2, f3, h1, g1, h2, k1, k2, next64 (show j < 9223372036854775807 by omega), reduceIte, Nat.reduceEqDiff, Nat.reduceAdd, Nat.reduceMul, Nat.reduceSub, Nat.reduceLT, Nat.reduceLeDiff, Int.reduceLE, Int.reduceLT, Int.reduceToNat, Int.reduceEq]
          have hp := Sh.put (es' := es'.set j (.v (.bool true) :: .v (.int .i64 (-99)) :: .v (.string ⟨#[]⟩) :: List.drop 3 (es'.getD j []))) k1 (by simp)
          have hos : Sp3 σ2 (slv e m cap') m := .inr ⟨e, cap', es', rfl, k1, k2⟩
          refine ⟨by omega, by omega, by omega, by omega, m - (j + 1), by omega, j + 1, rfl, by omega, hs.trans hp, hos.sh hp, ?_, ?_⟩
          · rw [set_ne fun e => by subst e; rw [h1] at k1; cases k1]
            exact h1
          · (and_intros <;> first | assumption | rfl | omega)
      · simp only [go_sem, r_block, f0, f2, next64 (show i < 9223372036854775807 by omega), reduceIte, Nat.reduceEqDiff, Nat.reduceAdd, Nat.reduceMul, Nat.reduceSub, Nat.reduceLT, Nat.reduceLeDiff, Int.reduceLE, Int.reduceLT, Int.reduceToNat, Int.reduceEq]
        refine ⟨n - (i + 1), by omega, i + 1, ?_⟩
        (and_intros <;> first | assumption | rfl | omega)
  · simp only [go_sem, r_block, reduceIte, Nat.reduceEqDiff, Nat.reduceAdd, Nat.reduceMul, Nat.reduceSub, Nat.reduceLT, Nat.reduceLeDiff, Int.reduceLE, Int.reduceLT, Int.reduceToNat, Int.reduceEq]
    exact aRet_as (r := .tup []) rfl hs
end
end Go.Proofs.Ythdfpankebjleaa

/-
  The tables by which runs of this program are reckoned.
  Conditions: none.
-/
namespace Go.Proofs.Ythdfpankebjleaa
open Go Go.Av
def te3 : TE := ⟨⟨false, 1, [.int .i64 0], .int .i64⟩, false, false, false, false, false, true, none⟩
theorem teOk3 : TeOk Try.prog 3 te3 := ⟨by kernel_rfl, by kernel_rfl, by kernel_rfl, by kernel_rfl, by kernel_rfl, by kernel_rfl, by kernel_rfl, fun ls h => by cases h⟩
def te5 : TE := ⟨⟨false, 1, [.int .u8 0], .int .u8⟩, false, false, false, false, false, true, none⟩
theorem teOk5 : TeOk Try.prog 5 te5 := ⟨by kernel_rfl, by kernel_rfl, by kernel_rfl, by kernel_rfl, by kernel_rfl, by kernel_rfl, by kernel_rfl, fun ls h => by cases h⟩
def te9 : TE := ⟨⟨false, 1, [.string ⟨#[]⟩], .str⟩, false, false, false, false, false, true, none⟩
theorem teOk9 : TeOk Try.prog 9 te9 := ⟨by kernel_rfl, by kernel_rfl, by kernel_rfl, by kernel_rfl, by kernel_rfl, by kernel_rfl, by kernel_rfl, fun ls h => by cases h⟩
def te20 : TE := ⟨⟨false, 1, [.nilIface], .iface⟩, false, false, false, false, false, false, none⟩
theorem teOk20 : TeOk Try.prog 20 te20 := ⟨by kernel_rfl, by kernel_rfl, by kernel_rfl, by kernel_rfl, by kernel_rfl, by kernel_rfl, by kernel_rfl, fun ls h => by cases h⟩
def te23 : TE := ⟨⟨true, 3, [.bool false, .int .i64 0, .string ⟨#[]⟩], .st [(0, 1, false), (1, 1, false), (2, 1, false)]⟩, false, false, false, false, false, true, (some [.b, .i .i64, .s])⟩
theorem teOk23 : TeOk Try.prog 23 te23 := ⟨by kernel_rfl, by kernel_rfl, by kernel_rfl, by kernel_rfl, by kernel_rfl, by kernel_rfl, by kernel_rfl, fun ls h => by cases h; exact ⟨by kernel_rfl, by kernel_rfl, by kernel_rfl⟩⟩
def te25 : TE := ⟨⟨true, 4, [.string ⟨#[]⟩, .bool false, .int .i64 0, .string ⟨#[]⟩], .st [(0, 1, false), (1, 3, true)]⟩, false, false, false, false, false, true, (some [.s, .b, .i .i64, .s])⟩
theorem teOk25 : TeOk Try.prog 25 te25 := ⟨by kernel_rfl, by kernel_rfl, by kernel_rfl, by kernel_rfl, by kernel_rfl, by kernel_rfl, by kernel_rfl, fun ls h => by cases h; exact ⟨by kernel_rfl, by kernel_rfl, by kernel_rfl⟩⟩
def te26 : TE := ⟨⟨false, 1, [.slice none 0 0], .sl 4 48 [.string ⟨#[]⟩, .bool false, .int .i64 0, .string ⟨#[]⟩] false⟩, true, false, false, false, false, true, none⟩
theorem teOk26 : TeOk Try.prog 26 te26 := ⟨by kernel_rfl, by kernel_rfl, by kernel_rfl, by kernel_rfl, by kernel_rfl, by kernel_rfl, by kernel_rfl, fun ls h => by cases h⟩
def te27 : TE := ⟨⟨false, 1, [.slice none 0 0], .sl 10 136 [.string ⟨#[]⟩, .bool false, .int .i64 0, .string ⟨#[]⟩, .string ⟨#[]⟩, .slice none 0 0, .string ⟨#[]⟩, .bool false, .int .i64 0, .string ⟨#[]⟩] false⟩, true, false, false, false, false, true, none⟩
theorem teOk27 : TeOk Try.prog 27 te27 := ⟨by kernel_rfl, by kernel_rfl, by kernel_rfl, by kernel_rfl, by kernel_rfl, by kernel_rfl, by kernel_rfl, fun ls h => by cases h⟩
def te29 : TE := ⟨⟨true, 11, [.string ⟨#[]⟩, .bool false, .int .i64 0, .string ⟨#[]⟩, .string ⟨#[]⟩, .slice none 0 0, .string ⟨#[]⟩, .bool false, .int .i64 0, .string ⟨#[]⟩, .slice none 0 0], .st [(0, 4, true), (4, 1, false), (5, 1, false), (6, 4, true), (10, 1, false)]⟩, false, false, false, false, false, true, none⟩
theorem teOk29 : TeOk Try.prog 29 te29 := ⟨by kernel_rfl, by kernel_rfl, by kernel_rfl, by kernel_rfl, by kernel_rfl, by kernel_rfl, by kernel_rfl, fun ls h => by cases h⟩
def te31 : TE := ⟨⟨false, 1, [.slice none 0 0], .sl 11 160 [.string ⟨#[]⟩, .bool false, .int .i64 0, .string ⟨#[]⟩, .string ⟨#[]⟩, .slice none 0 0, .string ⟨#[]⟩, .bool false, .int .i64 0, .string ⟨#[]⟩, .slice none 0 0] false⟩, true, false, false, false, false, true, none⟩
theorem teOk31 : TeOk Try.prog 31 te31 := ⟨by kernel_rfl, by kernel_rfl, by kernel_rfl, by kernel_rfl, by kernel_rfl, by kernel_rfl, by kernel_rfl, fun ls h => by cases h⟩
def te34 : TE := ⟨⟨false, 1, [.slice none 0 0], .sl 1 8 [.int .i64 0] false⟩, true, false, false, false, false, true, none⟩
theorem teOk34 : TeOk Try.prog 34 te34 := ⟨by kernel_rfl, by kernel_rfl, by kernel_rfl, by kernel_rfl, by kernel_rfl, by kernel_rfl, by kernel_rfl, fun ls h => by cases h⟩
def te56 : TE := ⟨⟨false, 1, [.slice none 0 0], .sl 1 16 [.string ⟨#[]⟩] false⟩, true, false, false, false, false, true, none⟩
theorem teOk56 : TeOk Try.prog 56 te56 := ⟨by kernel_rfl, by kernel_rfl, by kernel_rfl, by kernel_rfl, by kernel_rfl, by kernel_rfl, by kernel_rfl, fun ls h => by cases h⟩
def te63 : TE := ⟨⟨false, 1, [.int .i64 0], .int .i64⟩, false, false, false, false, false, true, none⟩
theorem teOk63 : TeOk Try.prog 63 te63 := ⟨by kernel_rfl, by kernel_rfl, by kernel_rfl, by kernel_rfl, by kernel_rfl, by kernel_rfl, by kernel_rfl, fun ls h => by cases h⟩
def te71 : TE := ⟨⟨true, 10, [.string ⟨#[]⟩, .bool false, .int .i64 0, .string ⟨#[]⟩, .string ⟨#[]⟩, .slice none 0 0, .string ⟨#[]⟩, .bool false, .int .i64 0, .string ⟨#[]⟩], .st [(0, 4, true), (4, 1, false), (5, 1, false), (6, 4, true)]⟩, false, false, false, false, false, true, none⟩
theorem teOk71 : TeOk Try.prog 71 te71 := ⟨by kernel_rfl, by kernel_rfl, by kernel_rfl, by kernel_rfl, by kernel_rfl, by kernel_rfl, by kernel_rfl, fun ls h => by cases h⟩
def te91 : TE := ⟨⟨false, 1, [.slice none 0 0], .sl 4 40 [.int .i64 0, .string ⟨#[]⟩, .int .i64 0, .int .i64 0] false⟩, true, false, false, false, false, true, none⟩
theorem teOk91 : TeOk Try.prog 91 te91 := ⟨by kernel_rfl, by kernel_rfl, by kernel_rfl, by kernel_rfl, by kernel_rfl, by kernel_rfl, by kernel_rfl, fun ls h => by cases h⟩
def te94 : TE := ⟨⟨false, 1, [.pointer none], .ptr 96⟩, false, true, false, false, false, true, none⟩
theorem teOk94 : TeOk Try.prog 94 te94 := ⟨by kernel_rfl, by kernel_rfl, by kernel_rfl, by kernel_rfl, by kernel_rfl, by kernel_rfl, by kernel_rfl, fun ls h => by cases h⟩
def te96 : TE := ⟨⟨true, 2, [.slice none 0 0, .int .i64 0], .st [(0, 1, false), (1, 1, false)]⟩, false, false, false, false, false, true, none⟩
theorem teOk96 : TeOk Try.prog 96 te96 := ⟨by kernel_rfl, by kernel_rfl, by kernel_rfl, by kernel_rfl, by kernel_rfl, by kernel_rfl, by kernel_rfl, fun ls h => by cases h⟩
def te98 : TE := ⟨⟨true, 2, [.int .i64 0, .int .i64 0], .st [(0, 1, false), (1, 1, false)]⟩, false, false, false, false, false, true, (some [.i .i64, .i .i64])⟩
theorem teOk98 : TeOk Try.prog 98 te98 := ⟨by kernel_rfl, by kernel_rfl, by kernel_rfl, by kernel_rfl, by kernel_rfl, by kernel_rfl, by kernel_rfl, fun ls h => by cases h; exact ⟨by kernel_rfl, by kernel_rfl, by kernel_rfl⟩⟩
def te125 : TE := ⟨⟨true, 4, [.int .i64 0, .string ⟨#[]⟩, .int .i64 0, .int .i64 0], .st [(0, 1, false), (1, 1, false), (2, 1, false), (3, 1, false)]⟩, false, false, false, false, false, true, (some [.i .i64, .s, .i .i64, .i .i64])⟩
theorem teOk125 : TeOk Try.prog 125 te125 := ⟨by kernel_rfl, by kernel_rfl, by kernel_rfl, by kernel_rfl, by kernel_rfl, by kernel_rfl, by kernel_rfl, fun ls h => by cases h; exact ⟨by kernel_rfl, by kernel_rfl, by kernel_rfl⟩⟩
def te156 : TE := ⟨⟨false, 1, [.nilFunc], .other⟩, false, false, true, false, false, true, none⟩
theorem teOk156 : TeOk Try.prog 156 te156 := ⟨by kernel_rfl, by kernel_rfl, by kernel_rfl, by kernel_rfl, by kernel_rfl, by kernel_rfl, by kernel_rfl, fun ls h => by cases h⟩
def tyT : Tr TE := (.n (.n (.n (.n (.n (.n .e (.n .e (.n (.n (.n (.l te96) .e) .e) .e))) .e) (.n .e (.n .e (.n (.n (.n (.n (.l te56) .e) .e) .e) .e)))) (.n (.n .e (.n (.n (.n (.n (.n (.l te20) .e) .e) .e) .e) .e)) (.n .e (.n (.n (.n .e (.n (.n (.l te156) .e) .e)) .e) .e)))) (.n (.n (.n (.n .e (.n (.n (.n (.n (.l te34) .e) .e) .e) (.n (.n (.n (.l te98) .e) .e) .e))) .e) (.n .e (.n (.n (.n (.n (.n (.l te26) .e) .e) .e) .e) .e))) (.n .e (.n .e (.n (.n .e (.n (.n (.n (.l te94) .e) .e) .e)) .e))))) (.n (.n (.n .e (.n (.n (.n (.n (.n (.n (.l te9) .e) .e) .e) .e) .e) (.n (.n (.n (.n (.n (.l te25) .e) .e) .e) .e) .e))) (.n (.n (.n (.n (.n (.n (.n (.l te5) .e) .e) .e) .e) .e) .e) (.n .e (.n (.n (.n (.n (.n (.l te29) .e) .e) .e) .e) (.n .e (.n (.n (.n (.l te125) .e) .e) .e)))))) (.n (.n (.n (.n (.n (.n (.n (.n (.l te3) .e) .e) .e) .e) .e) .e) (.n .e (.n (.n (.n (.n (.n (.l te27) .e) .e) .e) (.n (.n (.n (.l te91) .e) .e) .e)) .e))) (.n (.n (.n (.n .e (.n (.n (.n (.l te71) .e) .e) .e)) .e) (.n (.n (.n (.n (.n (.l te23) .e) .e) .e) .e) .e)) (.n .e (.n (.n (.n (.n (.n (.l te31) .e) .e) .e) .e) (.n (.n (.n (.n (.l te63) .e) .e) .e) .e)))))))
theorem tyOk : tyT.All 10 (TeOk Try.prog) := ⟨⟨⟨⟨⟨⟨trivial, ⟨trivial, ⟨⟨⟨teOk96, trivial⟩, trivial⟩, trivial⟩⟩⟩, trivial⟩, ⟨trivial, ⟨trivial, ⟨⟨⟨⟨teOk56, trivial⟩, trivial⟩, trivial⟩, trivial⟩⟩⟩⟩, ⟨⟨trivial, ⟨⟨⟨⟨⟨teOk20, trivial⟩, trivial⟩, trivial⟩, trivial⟩, trivial⟩⟩, ⟨trivial, ⟨⟨⟨trivial, ⟨⟨teOk156, trivial⟩, trivial⟩⟩, trivial⟩, trivial⟩⟩⟩⟩, ⟨⟨⟨⟨trivial, ⟨⟨⟨⟨teOk34, trivial⟩, trivial⟩, trivial⟩, ⟨⟨⟨teOk98, trivial⟩, trivial⟩, trivial⟩⟩⟩, trivial⟩, ⟨trivial, ⟨⟨⟨⟨⟨teOk26, trivial⟩, trivial⟩, trivial⟩, trivial⟩, trivial⟩⟩⟩, ⟨trivial, ⟨trivial, ⟨⟨trivial, ⟨⟨⟨teOk94, trivial⟩, trivial⟩, trivial⟩⟩, trivial⟩⟩⟩⟩⟩, ⟨⟨⟨trivial, ⟨⟨⟨⟨⟨⟨teOk9, trivial⟩, trivial⟩, trivial⟩, trivial⟩, trivial⟩, ⟨⟨⟨⟨⟨teOk25, trivial⟩, trivial⟩, trivial⟩, trivial⟩, trivial⟩⟩⟩, ⟨⟨⟨⟨⟨⟨⟨teOk5, trivial⟩, trivial⟩, trivial⟩, trivial⟩, trivial⟩, trivial⟩, ⟨trivial, ⟨⟨⟨⟨⟨teOk29, trivial⟩, trivial⟩, trivial⟩, trivial⟩, ⟨trivial, ⟨⟨⟨teOk125, trivial⟩, trivial⟩, trivial⟩⟩⟩⟩⟩⟩, ⟨⟨⟨⟨⟨⟨⟨⟨teOk3, trivial⟩, trivial⟩, trivial⟩, trivial⟩, trivial⟩, trivial⟩, ⟨trivial, ⟨⟨⟨⟨⟨teOk27, trivial⟩, trivial⟩, trivial⟩, ⟨⟨⟨teOk91, trivial⟩, trivial⟩, trivial⟩⟩, trivial⟩⟩⟩, ⟨⟨⟨⟨trivial, ⟨⟨⟨teOk71, trivial⟩, trivial⟩, trivial⟩⟩, trivial⟩, ⟨⟨⟨⟨⟨teOk23, trivial⟩, trivial⟩, trivial⟩, trivial⟩, trivial⟩⟩, ⟨trivial, ⟨⟨⟨⟨⟨teOk31, trivial⟩, trivial⟩, trivial⟩, trivial⟩, ⟨⟨⟨⟨teOk63, trivial⟩, trivial⟩, trivial⟩, trivial⟩⟩⟩⟩⟩⟩⟩
noncomputable def fe9 : FE := ⟨Try.f9, []⟩
noncomputable def fe10 : FE := ⟨Try.f10, [(6, [.rd 0 false, .rd 1 false, .rd 2 false, .rd 3 true, .rd 4 false, .rd 5 false, .rd 6 false, .rd 7 true, .rd 8 false])]⟩
noncomputable def fe11 : FE := ⟨Try.f11, []⟩
noncomputable def fe27 : FE := ⟨Try.f27, [(3, [.rd 0 true, .rd 1 true, .ef 2 [0, 1], .ef 3 [1], .ef 4 []]), (9, [.rd 0 true, .rd 1 false, .ef 2 [0], .rd 3 false, .ef 4 [], .ef 5 []])]⟩
noncomputable def fe28 : FE := ⟨Try.f28, []⟩
noncomputable def fe29 : FE := ⟨Try.f29, []⟩
noncomputable def fe44 : FE := ⟨Try.f44, []⟩
noncomputable def fe45 : FE := ⟨Try.f45, [(3, [.rd 0 false, .rd 1 true, .rd 2 false, .rd 3 true, .ef 4 [1, 3], .ef 5 [3], .ef 6 []])]⟩
noncomputable def fe46 : FE := ⟨Try.f46, []⟩
noncomputable def fe47 : FE := ⟨Try.f47, []⟩
noncomputable def fe48 : FE := ⟨Try.f48, [(10, [.rd 0 false, .rd 1 true, .rd 2 false, .ef 3 [1], .rd 4 false, .ef 5 [], .rd 6 false, .ef 7 []])]⟩
noncomputable def fe49 : FE := ⟨Try.f49, []⟩
noncomputable def fe68 : FE := ⟨Try.f68, []⟩
noncomputable def fe69 : FE := ⟨Try.f69, [(7, [.rd 0 false, .rd 1 false, .rd 2 false, .rd 3 true, .rd 4 false, .ef 5 [3], .rd 6 false, .ef 7 []]), (10, [.rd 0 false, .rd 1 false, .rd 2 false, .rd 3 true, .rd 4 false, .ef 5 [3], .rd 6 false, .ef 7 []]), (24, [.rd 0 false, .rd 1 false, .rd 2 false, .rd 3 true, .rd 4 false, .ef 5 [3], .rd 6 false, .ef 7 []]), (26, [.rd 0 false, .rd 1 false, .rd 2 false, .rd 3 true, .rd 4 false, .ef 5 [3], .rd 6 false, .ef 7 []])]⟩
noncomputable def fe70 : FE := ⟨Try.f70, []⟩
noncomputable def fe71 : FE := ⟨Try.f71, []⟩
noncomputable def fe72 : FE := ⟨Try.f72, []⟩
noncomputable def fe73 : FE := ⟨Try.f73, []⟩
noncomputable def fe74 : FE := ⟨Try.f74, []⟩
noncomputable def fe75 : FE := ⟨Try.f75, []⟩
noncomputable def fe76 : FE := ⟨Try.f76, []⟩
noncomputable def fe77 : FE := ⟨Try.f77, []⟩
noncomputable def fe78 : FE := ⟨Try.f78, []⟩
noncomputable def fe101 : FE := ⟨Try.f101, []⟩
noncomputable def fe102 : FE := ⟨Try.f102, []⟩
noncomputable def fe103 : FE := ⟨Try.f103, []⟩
noncomputable def fe104 : FE := ⟨Try.f104, []⟩
noncomputable def fe105 : FE := ⟨Try.f105, []⟩
noncomputable def fe106 : FE := ⟨Try.f106, []⟩
noncomputable def fe107 : FE := ⟨Try.f107, []⟩
noncomputable def fe108 : FE := ⟨Try.f108, []⟩
noncomputable def fe109 : FE := ⟨Try.f109, []⟩
noncomputable def fe110 : FE := ⟨Try.f110, []⟩
noncomputable def fe136 : FE := ⟨Try.f136, []⟩

theorem feOk9 : FeOk Try.prog 9 fe9 := ⟨Try.func9, by decide, by kernel_rfl⟩
theorem feOk10 : FeOk Try.prog 10 fe10 := ⟨Try.func10, by decide, by kernel_rfl⟩
theorem feOk11 : FeOk Try.prog 11 fe11 := ⟨Try.func11, by decide, by kernel_rfl⟩
theorem feOk27 : FeOk Try.prog 27 fe27 := ⟨Try.func27, by decide, by kernel_rfl⟩
theorem feOk28 : FeOk Try.prog 28 fe28 := ⟨Try.func28, by decide, by kernel_rfl⟩
theorem feOk29 : FeOk Try.prog 29 fe29 := ⟨Try.func29, by decide, by kernel_rfl⟩
theorem feOk44 : FeOk Try.prog 44 fe44 := ⟨Try.func44, by decide, by kernel_rfl⟩
theorem feOk45 : FeOk Try.prog 45 fe45 := ⟨Try.func45, by decide, by kernel_rfl⟩
theorem feOk46 : FeOk Try.prog 46 fe46 := ⟨Try.func46, by decide, by kernel_rfl⟩
theorem feOk47 : FeOk Try.prog 47 fe47 := ⟨Try.func47, by decide, by kernel_rfl⟩
theorem feOk48 : FeOk Try.prog 48 fe48 := ⟨Try.func48, by decide, by kernel_rfl⟩
theorem feOk49 : FeOk Try.prog 49 fe49 := ⟨Try.func49, by decide, by kernel_rfl⟩
theorem feOk68 : FeOk Try.prog 68 fe68 := ⟨Try.func68, by decide, by kernel_rfl⟩
theorem feOk69 : FeOk Try.prog 69 fe69 := ⟨Try.func69, by decide, by kernel_rfl⟩
theorem feOk70 : FeOk Try.prog 70 fe70 := ⟨Try.func70, by decide, by kernel_rfl⟩
theorem feOk71 : FeOk Try.prog 71 fe71 := ⟨Try.func71, by decide, by kernel_rfl⟩
theorem feOk72 : FeOk Try.prog 72 fe72 := ⟨Try.func72, by decide, by kernel_rfl⟩
theorem feOk73 : FeOk Try.prog 73 fe73 := ⟨Try.func73, by decide, by kernel_rfl⟩
theorem feOk74 : FeOk Try.prog 74 fe74 := ⟨Try.func74, by decide, by kernel_rfl⟩
theorem feOk75 : FeOk Try.prog 75 fe75 := ⟨Try.func75, by decide, by kernel_rfl⟩
theorem feOk76 : FeOk Try.prog 76 fe76 := ⟨Try.func76, by decide, by kernel_rfl⟩
theorem feOk77 : FeOk Try.prog 77 fe77 := ⟨Try.func77, by decide, by kernel_rfl⟩
theorem feOk78 : FeOk Try.prog 78 fe78 := ⟨Try.func78, by decide, by kernel_rfl⟩
theorem feOk101 : FeOk Try.prog 101 fe101 := ⟨Try.func101, by decide, by kernel_rfl⟩
theorem feOk102 : FeOk Try.prog 102 fe102 := ⟨Try.func102, by decide, by kernel_rfl⟩
theorem feOk103 : FeOk Try.prog 103 fe103 := ⟨Try.func103, by decide, by kernel_rfl⟩
theorem feOk104 : FeOk Try.prog 104 fe104 := ⟨Try.func104, by decide, by kernel_rfl⟩
theorem feOk105 : FeOk Try.prog 105 fe105 := ⟨Try.func105, by decide, by kernel_rfl⟩
theorem feOk106 : FeOk Try.prog 106 fe106 := ⟨Try.func106, by decide, by kernel_rfl⟩
theorem feOk107 : FeOk Try.prog 107 fe107 := ⟨Try.func107, by decide, by kernel_rfl⟩
theorem feOk108 : FeOk Try.prog 108 fe108 := ⟨Try.func108, by decide, by kernel_rfl⟩
theorem feOk109 : FeOk Try.prog 109 fe109 := ⟨Try.func109, by decide, by kernel_rfl⟩
theorem feOk110 : FeOk Try.prog 110 fe110 := ⟨Try.func110, by decide, by kernel_rfl⟩
theorem feOk136 : FeOk Try.prog 136 fe136 := ⟨Try.func136, by decide, by kernel_rfl⟩
noncomputable def ftT : Tr FE := (.n (.n (.n (.n (.n .e (.n .e (.n (.n (.n (.n (.l fe48) .e) .e) .e) .e))) (.n (.n (.n (.n .e (.n (.n (.l fe136) .e) .e)) (.n (.n (.n (.l fe72) .e) .e) .e)) (.n .e (.n (.n (.n (.l fe104) .e) .e) .e))) .e)) (.n (.n (.n (.n .e (.n (.n (.n (.l fe68) .e) .e) .e)) .e) .e) (.n (.n (.n .e (.n (.n (.n (.l fe76) .e) .e) .e)) (.n (.n (.n (.n (.l fe44) .e) .e) .e) (.n (.n (.n (.l fe108) .e) .e) .e))) (.n (.n (.n (.n (.n (.l fe28) .e) .e) .e) .e) .e)))) (.n (.n .e (.n (.n (.n (.n (.n (.n (.l fe10) .e) .e) .e) (.n (.n (.n (.l fe74) .e) .e) .e)) (.n .e (.n (.n (.n (.l fe106) .e) .e) .e))) .e)) (.n (.n (.n (.n .e (.n (.n (.n (.l fe70) .e) .e) .e)) (.n .e (.n (.n (.n (.l fe102) .e) .e) .e))) .e) (.n (.n (.n .e (.n (.n (.n (.l fe78) .e) .e) .e)) (.n (.n (.n (.n (.l fe46) .e) .e) .e) (.n (.n (.n (.l fe110) .e) .e) .e))) .e)))) (.n (.n (.n (.n .e (.n .e (.n (.n (.n (.n (.l fe49) .e) .e) .e) .e))) (.n (.n (.n (.n (.n (.n (.l fe9) .e) .e) .e) (.n (.n (.n (.l fe73) .e) .e) .e)) (.n .e (.n (.n (.n (.l fe105) .e) .e) .e))) .e)) (.n (.n (.n (.n .e (.n (.n (.n (.l fe69) .e) .e) .e)) (.n .e (.n (.n (.n (.l fe101) .e) .e) .e))) .e) (.n (.n (.n .e (.n (.n (.n (.l fe77) .e) .e) .e)) (.n (.n (.n (.n (.l fe45) .e) .e) .e) (.n (.n (.n (.l fe109) .e) .e) .e))) (.n (.n (.n (.n (.n (.l fe29) .e) .e) .e) .e) .e)))) (.n (.n .e (.n (.n (.n (.n (.n (.n (.l fe11) .e) .e) .e) (.n (.n (.n (.l fe75) .e) .e) .e)) (.n .e (.n (.n (.n (.l fe107) .e) .e) .e))) (.n (.n (.n (.n (.n (.l fe27) .e) .e) .e) .e) .e))) (.n (.n (.n (.n .e (.n (.n (.n (.l fe71) .e) .e) .e)) (.n .e (.n (.n (.n (.l fe103) .e) .e) .e))) .e) (.n (.n .e (.n (.n (.n (.n (.l fe47) .e) .e) .e) .e)) .e)))))
theorem ftOk : ftT.All 10 (FeOk Try.prog) := ⟨⟨⟨⟨⟨trivial, ⟨trivial, ⟨⟨⟨⟨feOk48, trivial⟩, trivial⟩, trivial⟩, trivial⟩⟩⟩, ⟨⟨⟨⟨trivial, ⟨⟨feOk136, trivial⟩, trivial⟩⟩, ⟨⟨⟨feOk72, trivial⟩, trivial⟩, trivial⟩⟩, ⟨trivial, ⟨⟨⟨feOk104, trivial⟩, trivial⟩, trivial⟩⟩⟩, trivial⟩⟩, ⟨⟨⟨⟨trivial, ⟨⟨⟨feOk68, trivial⟩, trivial⟩, trivial⟩⟩, trivial⟩, trivial⟩, ⟨⟨⟨trivial, ⟨⟨⟨feOk76, trivial⟩, trivial⟩, trivial⟩⟩, ⟨⟨⟨⟨feOk44, trivial⟩, trivial⟩, trivial⟩, ⟨⟨⟨feOk108, trivial⟩, trivial⟩, trivial⟩⟩⟩, ⟨⟨⟨⟨⟨feOk28, trivial⟩, trivial⟩, trivial⟩, trivial⟩, trivial⟩⟩⟩⟩, ⟨⟨trivial, ⟨⟨⟨⟨⟨⟨feOk10, trivial⟩, trivial⟩, trivial⟩, ⟨⟨⟨feOk74, trivial⟩, trivial⟩, trivial⟩⟩, ⟨trivial, ⟨⟨⟨feOk106, trivial⟩, trivial⟩, trivial⟩⟩⟩, trivial⟩⟩, ⟨⟨⟨⟨trivial, ⟨⟨⟨feOk70, trivial⟩, trivial⟩, trivial⟩⟩, ⟨trivial, ⟨⟨⟨feOk102, trivial⟩, trivial⟩, trivial⟩⟩⟩, trivial⟩, ⟨⟨⟨trivial, ⟨⟨⟨feOk78, trivial⟩, trivial⟩, trivial⟩⟩, ⟨⟨⟨⟨feOk46, trivial⟩, trivial⟩, trivial⟩, ⟨⟨⟨feOk110, trivial⟩, trivial⟩, trivial⟩⟩⟩, trivial⟩⟩⟩⟩, ⟨⟨⟨⟨trivial, ⟨trivial, ⟨⟨⟨⟨feOk49, trivial⟩, trivial⟩, trivial⟩, trivial⟩⟩⟩, ⟨⟨⟨⟨⟨⟨feOk9, trivial⟩, trivial⟩, trivial⟩, ⟨⟨⟨feOk73, trivial⟩, trivial⟩, trivial⟩⟩, ⟨trivial, ⟨⟨⟨feOk105, trivial⟩, trivial⟩, trivial⟩⟩⟩, trivial⟩⟩, ⟨⟨⟨⟨trivial, ⟨⟨⟨feOk69, trivial⟩, trivial⟩, trivial⟩⟩, ⟨trivial, ⟨⟨⟨feOk101, trivial⟩, trivial⟩, trivial⟩⟩⟩, trivial⟩, ⟨⟨⟨trivial, ⟨⟨⟨feOk77, trivial⟩, trivial⟩, trivial⟩⟩, ⟨⟨⟨⟨feOk45, trivial⟩, trivial⟩, trivial⟩, ⟨⟨⟨feOk109, trivial⟩, trivial⟩, trivial⟩⟩⟩, ⟨⟨⟨⟨⟨feOk29, trivial⟩, trivial⟩, trivial⟩, trivial⟩, trivial⟩⟩⟩⟩, ⟨⟨trivial, ⟨⟨⟨⟨⟨⟨feOk11, trivial⟩, trivial⟩, trivial⟩, ⟨⟨⟨feOk75, trivial⟩, trivial⟩, trivial⟩⟩, ⟨trivial, ⟨⟨⟨feOk107, trivial⟩, trivial⟩, trivial⟩⟩⟩, ⟨⟨⟨⟨⟨feOk27, trivial⟩, trivial⟩, trivial⟩, trivial⟩, trivial⟩⟩⟩, ⟨⟨⟨⟨trivial, ⟨⟨⟨feOk71, trivial⟩, trivial⟩, trivial⟩⟩, ⟨trivial, ⟨⟨⟨feOk103, trivial⟩, trivial⟩, trivial⟩⟩⟩, trivial⟩, ⟨⟨trivial, ⟨⟨⟨⟨feOk47, trivial⟩, trivial⟩, trivial⟩, trivial⟩⟩, trivial⟩⟩⟩⟩⟩
end Go.Proofs.Ythdfpankebjleaa

/-
  A deferred function that does nothing; the tables are good.
  Conditions: none.
-/
namespace Go.Proofs.Ythdfpankebjleaa
open Go Go.Av

theorem idle45 (vs : Array Value) : IdleF Try.prog 45 vs := fun w => by
  refine callsDIn_of_wpSIn Try.func45 rfl trivial fun c₀ cs hu => ?_
  have hsz : 14 ≤ (vs ++ Array.replicate (14 - vs.size) undef).size := by simp; omega
  rw [show Try.f45.ntmps = 14 from rfl]
  revert hsz
  generalize vs ++ Array.replicate (14 - vs.size) undef = tm
  intro hsz
  apply wpSIn_seq
  apply wpSIn_region
  simp [wpOpsSIn, go_sem, recoverD, hu, Exit.thenS]
  apply wpSIn_seq
  apply wpSIn_region
  have h3 : 3 < tm.size := by omega
  have h5 : 5 < tm.size := by omega
  have h6 : 6 < tm.size := by omega
  have h7 : 7 < tm.size := by omega
  simp [wpOpsSIn, go_sem, Exit.thenS, h3, h5, h6, h7, Act.eval, Act.put]
  refine wpSIn_cond (t := false) (by simp [Act.eval, h3, h5, h6, h7]) ?_
  simp only [Bool.false_eq_true, if_false]
  refine wpSIn_of_wpIn rfl (wpIn_skip ?_)
  cases c₀
  simp_all [bodyPostS, results, show Try.f45.results = #[] from rfl]
theorem prOk : PrOk Try.prog tyT ftT (fun f => Nat.beq f 45) where
  mx := by kernel_rfl
  ty := fun t e ht he => Tr.all_get tyOk (by simpa using ht) he
  ft := fun t e ht he => Tr.all_get ftOk (by simpa using ht) he
  idle := fun f hf => by
    rw [beq_iff] at hf
    subst hf
    exact ⟨⟨_, Try.func45, rfl, by decide⟩, idle45⟩
end Go.Proofs.Ythdfpankebjleaa

/-
  The examples of the statements on plans are as they should be.
  Conditions: none.
-/
namespace Go.Proofs.Ythdfpankebjleaa
open Go Go.Av
theorem runL : run Try.prog tyT ftT (fun f => Nat.beq f 45) 100000 40 9 [] = some (.v (.bool true)) := by kernel_rfl
theorem live_at {σ : St} : AT Try.prog 9 [] σ fun r σ' => r = .v (.bool true) ∧ σ' = σ :=
  run_ok prOk runL (by kernel_rfl) (fun _ => .v (.bool false)) (fun _ => ⟨rfl, rfl⟩) (by simp only [RS.wfs])
end Go.Proofs.Ythdfpankebjleaa

/-
  The laws of a plan's order: their walks.
  Conditions: none.
-/
namespace Go.Proofs.Ythdfpankebjleaa
open Go Go.Av

section
variable {σ : St}
theorem Rl.Sm.ok {r : Rl} (h : r.Sm 300) : r.Ok := ⟨by have := h.2.1; omega, fun l hl => by have := h.2.2 l hl; omega⟩
theorem wt_one (r : Rl) (hw : r.Wf) : AT Try.prog 8 [.fsl 11 [r.cs], int 300] σ fun v σ' => (∃ w : Int, v = int w ∧ (w ≤ 300 → r.Ok)) ∧ σ' = σ := by
  refine AT.weak ?_ fsl_weak
  refine (weight_at [r] 300 (by simp) (fun x hx => by simp at hx; subst hx; exact hw) (by omega) (by omega)).mono ?_
  rintro _ _ ⟨⟨w, rfl, h⟩, rfl⟩
  exact ⟨⟨w, rfl, fun e => (h e r (by simp)).ok⟩, rfl⟩
theorem planOrders_at (r : Rl) (hw : r.Wf) (first : Int) : AT Try.prog 3 [.agg r.cs, int first] σ fun v σ' => v = boo true := by
  refine AT.of_body Try.func3 rfl (by decide) (by kernel_rfl) (by kernel_rfl) (Nat.le_of_ble_eq_true rfl) ?_
  simp only [go_sem, reduceIte, Nat.reduceEqDiff, Nat.reduceAdd, Nat.reduceMul, Nat.reduceSub, Nat.reduceLT, Nat.reduceLeDiff, Int.reduceLE, Int.reduceLT, Int.reduceToNat, Int.reduceEq]
  refine aNew_intro fun b hb hbn => ?_
  simp only [go_sem, r_block, set_same, reduceIte, Nat.reduceEqDiff, Nat.reduceAdd, Nat.reduceMul, Nat.reduceSub, Nat.reduceLT, Nat.reduceLeDiff, Int.reduceLE, Int.reduceLT, Int.reduceToNat, Int.reduceEq]
  refine (wt_one r hw).mono ?_
  rintro _ σ1 ⟨⟨w, rfl, h⟩, rfl⟩
  simp only [go_sem, r_block, reduceIte, Nat.reduceEqDiff, Nat.reduceAdd, Nat.reduceMul, Nat.reduceSub, Nat.reduceLT, Nat.reduceLeDiff, Int.reduceLE, Int.reduceLT, Int.reduceToNat, Int.reduceEq]
  refine aIf_by (fun g => ?_) (fun g => ?_)
  · simp only [go_sem, r_block, reduceIte, Nat.reduceEqDiff, Nat.reduceAdd, Nat.reduceMul, Nat.reduceSub, Nat.reduceLT, Nat.reduceLeDiff, Int.reduceLE, Int.reduceLT, Int.reduceToNat, Int.reduceEq]
    refine live_at.mono ?_
    rintro _ σ2 ⟨rfl, rfl⟩
    simp only [go_sem, r_block, reduceIte, Nat.reduceEqDiff, Nat.reduceAdd, Nat.reduceMul, Nat.reduceSub, Nat.reduceLT, Nat.reduceLeDiff, Int.reduceLE, Int.reduceLT, Int.reduceToNat, Int.reduceEq]
    exact aRet_as (r := boo true) rfl rfl
  · have hr := h (by omega)
    simp only [go_sem, r_block, reduceIte, Nat.reduceEqDiff, Nat.reduceAdd, Nat.reduceMul, Nat.reduceSub, Nat.reduceLT, Nat.reduceLeDiff, Int.reduceLE, Int.reduceLT, Int.reduceToNat, Int.reduceEq]
    refine aDraw_plan [.rd 0 true, .rd 1 false, .rd 3 true, .rd 4 false, .ef 2 [3], .ef 5 [], .ef 6 [], .rd 7 false, .ef 8 [], .rd 9 false, .rd 10 false] (by kernel_rfl) (by kernel_rfl) (by kernel_rfl) ?_
    simp only [go_sem, r_block, set_same, reduceIte, Nat.reduceEqDiff, Nat.reduceAdd, Nat.reduceMul, Nat.reduceSub, Nat.reduceLT, Nat.reduceLeDiff, Int.reduceLE, Int.reduceLT, Int.reduceToNat, Int.reduceEq]
    refine (order_at r first hr).mono ?_
    rintro _ σ1 ⟨rfl, rfl⟩
    simp only [go_sem, r_block, set_same, reduceIte, Nat.reduceEqDiff, Nat.reduceAdd, Nat.reduceMul, Nat.reduceSub, Nat.reduceLT, Nat.reduceLeDiff, Int.reduceLE, Int.reduceLT, Int.reduceToNat, Int.reduceEq]
    refine (refOrder_at r first hr).mono ?_
    rintro _ σ2 ⟨rfl, rfl⟩
    simp only [go_sem, r_block, reduceIte, Nat.reduceEqDiff, Nat.reduceAdd, Nat.reduceMul, Nat.reduceSub, Nat.reduceLT, Nat.reduceLeDiff, Int.reduceLE, Int.reduceLT, Int.reduceToNat, Int.reduceEq]
    have hlen := (ordR_ok r first).2.1
    refine (ints_at _ (by rw [nats_len]; have := hr.1; omega)).mono ?_
    rintro _ σ1 ⟨rfl, rfl⟩
    simp only [go_sem, r_block, reduceIte, Nat.reduceEqDiff, Nat.reduceAdd, Nat.reduceMul, Nat.reduceSub, Nat.reduceLT, Nat.reduceLeDiff, Int.reduceLE, Int.reduceLT, Int.reduceToNat, Int.reduceEq]
    refine live_at.mono ?_
    rintro _ σ2 ⟨rfl, rfl⟩
    simp only [go_sem, r_block, reduceIte, Nat.reduceEqDiff, Nat.reduceAdd, Nat.reduceMul, Nat.reduceSub, Nat.reduceLT, Nat.reduceLeDiff, Int.reduceLE, Int.reduceLT, Int.reduceToNat, Int.reduceEq]
    exact aRet_as (r := boo true) rfl rfl
theorem nats_get {l : List Nat} {i : Nat} (h : i < l.length) : (inC (nats l)).getD i [] = [int (l[i] : Nat)] := by
  rw [inC_get (by rw [nats_len]; exact h)]
  simp [nats]
/-- Which numbers were seen among the first ones. -/
def seenR (l : List Nat) (i : Nat) : List (List AV) := (List.range l.length).map fun j => [boo (decide (j ∈ l.take i))]
theorem seenR_0 (l : List Nat) : List.replicate l.length [boo false] = seenR l 0 := by
  unfold seenR
  symm
  exact List.eq_replicate_iff.2 ⟨by simp, fun x hx => by simp at hx; exact hx.2.symm⟩
theorem seenR_len (l : List Nat) (i : Nat) : (seenR l i).length = l.length := by simp [seenR]
theorem seenR_get {l : List Nat} {i j : Nat} (h : j < l.length) : (seenR l i).getD j [] = [boo (decide (j ∈ l.take i))] := by
  simp [seenR, List.getD_eq_getElem?_getD, h]
theorem seenR_set {l : List Nat} {i : Nat} (hi : i < l.length) (hl : l[i] < l.length) : (seenR l i).set l[i] [boo true] = seenR l (i + 1) := by
  refine List.ext_getElem (by rw [List.length_set, seenR_len, seenR_len]) fun j h1 h2 => ?_
  have e0 : ∀ k (h : j < (seenR l k).length), (seenR l k)[j]'h = [boo (decide (j ∈ l.take k))] := fun k h => by
    simp [seenR]
  rw [List.getElem_set, e0, e0, List.take_add_one, List.getElem?_eq_getElem hi]
  by_cases e : l[i] = j
  · rw [if_pos e, decide_eq_true]
    simp [e]
  · rw [if_neg e]
    have : (j ∈ l.take i ++ (some l[i]).toList) ↔ j ∈ l.take i := by
      simp only [Option.toList, List.mem_append, List.mem_singleton]
      exact ⟨fun h => h.resolve_right fun h => e h.symm, .inl⟩
    simp only [this]
theorem planPerms_at (r : Rl) (hw : r.Wf) (first : Int) : AT Try.prog 4 [.agg r.cs, int first] σ fun v σ' => v = boo true := by
  refine AT.of_body Try.func4 rfl (by decide) (by kernel_rfl) (by kernel_rfl) (Nat.le_of_ble_eq_true rfl) ?_
  simp only [go_sem, reduceIte, Nat.reduceEqDiff, Nat.reduceAdd, Nat.reduceMul, Nat.reduceSub, Nat.reduceLT, Nat.reduceLeDiff, Int.reduceLE, Int.reduceLT, Int.reduceToNat, Int.reduceEq]
  refine aNew_intro fun b hb hbn => ?_
  simp only [go_sem, r_block, set_same, reduceIte, Nat.reduceEqDiff, Nat.reduceAdd, Nat.reduceMul, Nat.reduceSub, Nat.reduceLT, Nat.reduceLeDiff, Int.reduceLE, Int.reduceLT, Int.reduceToNat, Int.reduceEq]
  refine (wt_one r hw).mono ?_
  rintro _ σ1 ⟨⟨w, rfl, h⟩, rfl⟩
  simp only [go_sem, r_block, reduceIte, Nat.reduceEqDiff, Nat.reduceAdd, Nat.reduceMul, Nat.reduceSub, Nat.reduceLT, Nat.reduceLeDiff, Int.reduceLE, Int.reduceLT, Int.reduceToNat, Int.reduceEq]
  refine aIf_by (fun g => ?_) (fun g => ?_)
  · simp only [go_sem, r_block, reduceIte, Nat.reduceEqDiff, Nat.reduceAdd, Nat.reduceMul, Nat.reduceSub, Nat.reduceLT, Nat.reduceLeDiff, Int.reduceLE, Int.reduceLT, Int.reduceToNat, Int.reduceEq]
    refine live_at.mono ?_
    rintro _ σ2 ⟨rfl, rfl⟩
    simp only [go_sem, r_block, reduceIte, Nat.reduceEqDiff, Nat.reduceAdd, Nat.reduceMul, Nat.reduceSub, Nat.reduceLT, Nat.reduceLeDiff, Int.reduceLE, Int.reduceLT, Int.reduceToNat, Int.reduceEq]
    exact aRet_as (r := boo true) rfl rfl
  · have hr := h (by omega)
    simp only [go_sem, r_block, set_same, reduceIte, Nat.reduceEqDiff, Nat.reduceAdd, Nat.reduceMul, Nat.reduceSub, Nat.reduceLT, Nat.reduceLeDiff, Int.reduceLE, Int.reduceLT, Int.reduceToNat, Int.reduceEq]
    refine (order_at r first hr).mono ?_
    rintro _ σ1 ⟨rfl, rfl⟩
    obtain ⟨hp, hlen, h0⟩ := ordR_ok r first
    have hbl := hr.1
    generalize ordR r first = l at hp hlen h0
    have hnn : ((nats l).length : Int) = (r.bo.length : Int) := by rw [nats_len, hlen]
    have e1 : (!decide ((l.length : Int) = (r.bo.length : Int))) = false := by rw [decide_eq_true (by omega)]; rfl
    simp only [go_sem, set_same, e1, reduceIte, Nat.reduceEqDiff, Nat.reduceAdd, Nat.reduceMul, Nat.reduceSub, Nat.reduceLT, Nat.reduceLeDiff, Int.reduceLE, Int.reduceLT, Int.reduceToNat, Int.reduceEq]
    apply meet_by (fun fr σ' => ∃ c, fr 5 = .sl 1 (inC (nats l)) ∧ fr 6 = .v (.slice (some ⟨c, 0, none⟩) l.length l.length) ∧ fr 7 = int 0 ∧ σ' c = some (.rows 1 (List.replicate l.length [boo false]) false l.length))
    case h1 =>
      intro key
      by_cases g0 : 0 ≤ first
      · by_cases g1 : first < l.length
        · have h0 := h0 ⟨g0, by omega⟩
          have hl0 : 0 < l.length := by omega
          have e2 := nats_get hl0
          have e3 : l[0] = first.toNat := by
            rw [List.getElem?_eq_getElem hl0] at h0
            exact Option.some.inj h0
          simp only [go_sem, decide_eq_true g0, decide_eq_true g1, e2, reduceIte, Nat.reduceEqDiff, Nat.reduceAdd, Nat.reduceMul, Nat.reduceSub, Nat.reduceLT, Nat.reduceLeDiff, Int.reduceLE, Int.reduceLT, Int.reduceToNat, Int.reduceEq]
          refine ⟨by omega, aIf_by (fun _ => ?_) (fun h => absurd (show ((l[0] : Nat) : Int) = first by omega) h)⟩
          simp only [go_sem, reduceIte, Nat.reduceEqDiff, Nat.reduceAdd, Nat.reduceMul, Nat.reduceSub, Nat.reduceLT, Nat.reduceLeDiff, Int.reduceLE, Int.reduceLT, Int.reduceToNat, Int.reduceEq]
          refine ⟨by omega, by omega, aMkRow_intro fun c hc hcn => ?_⟩
          simp only [go_sem, reduceIte, Nat.reduceEqDiff, Nat.reduceAdd, Nat.reduceMul, Nat.reduceSub, Nat.reduceLT, Nat.reduceLeDiff, Int.reduceLE, Int.reduceLT, Int.reduceToNat, Int.reduceEq]
          refine key _ _ ?_
          exact ⟨c, rfl, rfl, rfl, set_same⟩
        · simp only [go_sem, decide_eq_true g0, decide_eq_false g1, reduceIte, Nat.reduceEqDiff, Nat.reduceAdd, Nat.reduceMul, Nat.reduceSub, Nat.reduceLT, Nat.reduceLeDiff, Int.reduceLE, Int.reduceLT, Int.reduceToNat, Int.reduceEq]
          refine ⟨by omega, by omega, aMkRow_intro fun c hc hcn => ?_⟩
          simp only [go_sem, reduceIte, Nat.reduceEqDiff, Nat.reduceAdd, Nat.reduceMul, Nat.reduceSub, Nat.reduceLT, Nat.reduceLeDiff, Int.reduceLE, Int.reduceLT, Int.reduceToNat, Int.reduceEq]
          refine key _ _ ?_
          exact ⟨c, rfl, rfl, rfl, set_same⟩
      · simp only [go_sem, decide_eq_false g0, reduceIte, Nat.reduceEqDiff, Nat.reduceAdd, Nat.reduceMul, Nat.reduceSub, Nat.reduceLT, Nat.reduceLeDiff, Int.reduceLE, Int.reduceLT, Int.reduceToNat, Int.reduceEq]
        refine ⟨by omega, by omega, aMkRow_intro fun c hc hcn => ?_⟩
        simp only [go_sem, reduceIte, Nat.reduceEqDiff, Nat.reduceAdd, Nat.reduceMul, Nat.reduceSub, Nat.reduceLT, Nat.reduceLeDiff, Int.reduceLE, Int.reduceLT, Int.reduceToNat, Int.reduceEq]
        refine key _ _ ?_
        exact ⟨c, rfl, rfl, rfl, set_same⟩
    case h2 =>
      rintro fr σ1 ⟨c, f5, f6, f7, hc⟩
      simp only [go_sem, r_block, reduceIte, Nat.reduceEqDiff, Nat.reduceAdd, Nat.reduceMul, Nat.reduceSub, Nat.reduceLT, Nat.reduceLeDiff, Int.reduceLE, Int.reduceLT, Int.reduceToNat, Int.reduceEq]
      refine ⟨fun m fr σ' => ∃ i : Nat, m = l.length - i ∧ i ≤ l.length ∧ fr 5 = .sl 1 (inC (nats l)) ∧ fr 6 = .v (.slice (some ⟨c, 0, none⟩) l.length l.length) ∧ fr 7 = int i ∧ σ' c = some (.rows 1 (seenR l i) false l.length), ⟨_, 0, rfl, by omega, f5, f6, f7, by rw [hc, seenR_0]⟩, ?_⟩
      clear f5 f6 f7 hc σ1 fr
      rintro m fr σ1 ⟨i, rfl, hi, f5, f6, f7, hc⟩
      simp only [go_sem, f5, f6, f7, reduceIte, Nat.reduceEqDiff, Nat.reduceAdd, Nat.reduceMul, Nat.reduceSub, Nat.reduceLT, Nat.reduceLeDiff, Int.reduceLE, Int.reduceLT, Int.reduceToNat, Int.reduceEq]
      refine aIf_by (fun hlt => ?_) (fun hlt => ?_)
      · have hil : i < l.length := by omega
        have e2 := nats_get hil
        have hli : l[i] < l.length := by have := hp.2 _ (List.getElem_mem hil); omega
        have n1 := decide_eq_false (show ¬ ((l[i] : Nat) : Int) < 0 by omega)
        have n2 := decide_eq_false (show ¬ (l.length : Int) ≤ ((l[i] : Nat) : Int) by omega)
        have n3 : decide (l[i] ∈ l.take i) = false := decide_eq_false fun hm => by
          obtain ⟨j, hj, e⟩ := List.getElem_of_mem hm
          rw [List.getElem_take] at e
          rw [List.length_take] at hj
          exact List.pairwise_iff_getElem.1 hp.1 j i (by omega) hil (by omega) e
        have n4 := seenR_len l i
        simp only [go_sem, r_block, f5, f6, f7, e2, hc, n1, n2, seenR_get hli, n3, n4, next64 (show i < 9223372036854775807 by omega), reduceIte, Nat.reduceEqDiff, Nat.reduceAdd, Nat.reduceMul, Nat.reduceSub, Nat.reduceLT, Nat.reduceLeDiff, Int.reduceLE, Int.reduceLT, Int.reduceToNat, Int.reduceEq]
        refine ⟨by omega, by omega, by omega, by omega, hli, by omega, by omega, hli, l.length - (i + 1), by omega, i + 1, rfl, by omega, rfl, ?_⟩
        rw [seenR_set hil hli]
      · simp only [go_sem, r_block, f5, reduceIte, Nat.reduceEqDiff, Nat.reduceAdd, Nat.reduceMul, Nat.reduceSub, Nat.reduceLT, Nat.reduceLeDiff, Int.reduceLE, Int.reduceLT, Int.reduceToNat, Int.reduceEq]
        refine live_at.mono ?_
        rintro _ σ2 ⟨rfl, rfl⟩
        simp only [go_sem, r_block, reduceIte, Nat.reduceEqDiff, Nat.reduceAdd, Nat.reduceMul, Nat.reduceSub, Nat.reduceLT, Nat.reduceLeDiff, Int.reduceLE, Int.reduceLT, Int.reduceToNat, Int.reduceEq]
        exact aRet_as (r := boo true) rfl rfl
end
theorem tm_of {n : Nat} {cs : List AV} (h : Ty Try.prog (n + 3) 25 cs) : ∃ t : Tm, cs = t.cs := by
  have hx := ty_st Try.underlying25 h
  obtain ⟨x1, y1, rfl, h1, x2, y2, rfl, h2, rfl⟩ := hx
  obtain ⟨v, rfl, _⟩ := ty_str Try.underlying9 h1
  have hc := ty_st Try.underlying23 h2
  obtain ⟨x3, y3, rfl, h3, x4, y4, rfl, h4, x5, y5, rfl, h5, rfl⟩ := hc
  obtain ⟨b, rfl⟩ := ty_bool Try.underlying4 h3
  obtain ⟨k, rfl, _⟩ := ty_int Try.underlying3 h4
  obtain ⟨s, rfl, _⟩ := ty_str Try.underlying9 h5
  exact ⟨⟨v, b, k, s⟩, rfl⟩
theorem tms_of {n : Nat} : ∀ (es : List (List AV)), (∀ x ∈ es, Ty Try.prog (n + 3) 25 x) → ∃ l : List Tm, es = tmC l
  | [], _ => ⟨[], rfl⟩
  | x :: es, h => by
    obtain ⟨l, rfl⟩ := tms_of es fun y hy => h y (by simp [hy])
    obtain ⟨t, rfl⟩ := tm_of (h x (by simp))
    exact ⟨t :: l, rfl⟩
theorem li_of {n : Nat} {cs : List AV} (h : Ty Try.prog (n + 5) 71 cs) : ∃ l : Li, cs = l.cs ∧ l.Wf := by
  have hx := ty_st Try.underlying71 h
  obtain ⟨x1, y1, rfl, h1, x2, y2, rfl, h2, x3, y3, rfl, h3, x4, y4, rfl, h4, rfl⟩ := hx
  obtain ⟨a, rfl⟩ := tm_of h1
  obtain ⟨nm, rfl, hn⟩ := ty_str Try.underlying9 h2
  obtain ⟨es, rfl, hl, he⟩ := ty_sl Try.underlying26 h3
  obtain ⟨ts, rfl⟩ := tms_of es he
  obtain ⟨c, rfl⟩ := tm_of h4
  have e1 : Try.prog.cellsOf 25 = 4 := by kernel_rfl
  have e2 : Try.prog.bytesOf 25 = 48 := by kernel_rfl
  rw [e1]
  rw [e2, tmC_len] at hl
  exact ⟨⟨a, nm, ts, c⟩, rfl, by show ts.length ≤ _; omega, hn⟩
theorem lis_of {n : Nat} : ∀ (es : List (List AV)), (∀ x ∈ es, Ty Try.prog (n + 5) 71 x) → ∃ l : List Li, es = liC l ∧ ∀ x ∈ l, x.Wf
  | [], _ => ⟨[], rfl, fun x hx => by cases hx⟩
  | x :: es, h => by
    obtain ⟨l, rfl, hl⟩ := lis_of es fun y hy => h y (by simp [hy])
    obtain ⟨t, rfl, ht⟩ := li_of (h x (by simp))
    exact ⟨t :: l, rfl, fun y hy => by rcases List.mem_cons.1 hy with rfl | hy; exact ht; exact hl y hy⟩
theorem rl_of {n : Nat} {cs : List AV} (h : Ty Try.prog (n + 7) 29 cs) : ∃ r : Rl, cs = r.cs ∧ r.Wf := by
  have hx := ty_st Try.underlying29 h
  obtain ⟨x1, y1, rfl, h1, x2, y2, rfl, h2, x3, y3, rfl, h3, x4, y4, rfl, h4, x5, y5, rfl, h5, rfl⟩ := hx
  obtain ⟨a, rfl⟩ := tm_of h1
  obtain ⟨nm, rfl, hn⟩ := ty_str Try.underlying9 h2
  obtain ⟨es, rfl, hl, he⟩ := ty_sl Try.underlying26 h3
  obtain ⟨ts, rfl⟩ := tms_of es he
  obtain ⟨c, rfl⟩ := tm_of h4
  obtain ⟨es, rfl, hl2, he⟩ := ty_sl Try.underlying27 h5
  obtain ⟨ls, rfl, hls⟩ := lis_of es he
  have e1 : Try.prog.cellsOf 25 = 4 := by kernel_rfl
  have e2 : Try.prog.bytesOf 25 = 48 := by kernel_rfl
  have e3 : Try.prog.cellsOf 71 = 10 := by kernel_rfl
  have e4 : Try.prog.bytesOf 71 = 136 := by kernel_rfl
  rw [e1, e3]
  rw [e2, tmC_len] at hl
  rw [e4, liC_len] at hl2
  exact ⟨⟨a, nm, ts, c, ls⟩, rfl, by show ts.length ≤ _; omega, hn, by show ls.length ≤ _; omega, hls⟩
end Go.Proofs.Ythdfpankebjleaa

/-
  A region in drawn order in which, behind some reads, two effects may come in either order.
  Conditions: none.
-/
namespace Go.Proofs.Ythdfpankebjleaa
open Go Go.Av Go.RowKit

section
variable {P : Program} {l : List Oper} {K : Fr → St → Prop}
abbrev Noted := List (Nat × (St → Prop))
/-- Reads, and what follows. -/
def aPre (P : Program) (l : List Oper) (C : Noted → Fr → St → Prop) : List PS → Noted → Fr → St → Prop
  | [], S, fr, σ => C S fr σ
  | .rd i keep :: r, S, fr, σ => match l[i]? with
    | none => False
    | some o => o.guard = none ∧ aOp P o.op fr σ fun v σ' => aPre P l C r (if keep then (i, fun σ'' => Yl P o.op fr σ'' v) :: S else S) (fr.put o.dst v) σ'
  | .ef _ _ :: _, _, _, _ => False
def brOk (P : Program) (ops : Array Oper) (i : Nat) (c1 : List Nat) (r1 : List PS) (j : Nat) (c2 : List Nat) (r2 : List PS) : List PS → Array Bool → List Nat → Bool
  | [], L, N => (Region.ready .any ops L == [i, j]) && (clsAt P ops i == 2) && (clsAt P ops j == 2) && (N.all fun p => isBefore ops ops.size i p || c1.contains p) && (N.all fun p => isBefore ops ops.size j p || c2.contains p)
      && planOk P ops r1 (L.setIfInBounds i true) N && planOk P ops r2 (L.setIfInBounds j true) N
  | .rd k keep :: r, L, N => (Region.ready .any ops L).contains k && (clsAt P ops k == 0 || (clsAt P ops k == 1 && keep)) && Region.free .any ops L k && brOk P ops i c1 r1 j c2 r2 r (L.setIfInBounds k true) (if keep then k :: N else N)
  | .ef _ _ :: _, _, _ => false
theorem ef_all {i : Nat} {chk : List Nat} {r : List PS} {L : Array Bool} {N : List Nat} {Sl : Noted} {S : Pend} {fr : Fr} {σ : St} (hri : i ∈ Region.ready .any l.toArray L) (hc : clsAt P l.toArray i = 2) (hn : (N.all fun p => isBefore l.toArray l.toArray.size i p || chk.contains p) = true)
    (hok : planOk P l.toArray r (L.setIfInBounds i true) N = true) (hL : Closed l.toArray L) (hS : ∀ p q, S p q → (∀ σ', q σ') ∨ (p, q) ∈ Sl) (hN : ∀ x ∈ Sl, x.1 ∈ N) (h : aPlan P (dsts l.toArray) l K (.ef i chk :: r) Sl fr σ) :
    aStp P l.toArray i S (fun S' fr' σ' => aAll P l.toArray K r.length (L.setIfInBounds i true) S' fr' σ') fr σ := by
  simp only [aPlan] at h
  cases hi : l[i]? with
  | none => rw [hi] at h; exact h.elim
  | some o =>
    rw [hi] at h
    have hi' : l.toArray[i]? = some o := by simpa using hi
    have hcl : clsAt P l.toArray i = cls P o.op := by simp [clsAt, hi]
    rw [hcl] at hc
    unfold aStp
    rw [hi']
    refine aGd_mono (fun h => aOp_mon _ _ (fun v σ' hv => ?_) h) (fun h => ?_) h
    · rw [if_pos hc]
      refine ⟨fun p q hpq hb => ?_, plan_all r _ N Sl S _ _ hok (closed_set hL hri) hS hN hv.2⟩
      rcases hS p q hpq with h | h
      · exact h σ'
      · have := List.all_eq_true.1 hn p (hN _ h)
        rw [hb, Bool.false_or] at this
        exact lk_mem h (chk_mem (by simpa using this) hv.1)
    · exact plan_all r _ N Sl S _ _ hok (closed_set hL hri) hS hN h
theorem pre_all {i j : Nat} {c1 c2 : List Nat} {r1 r2 : List PS} (hlen : r1.length = r2.length) : ∀ (pre : List PS) (L : Array Bool) (N : List Nat) (Sl : Noted) (S : Pend) (fr : Fr) (σ : St), brOk P l.toArray i c1 r1 j c2 r2 pre L N = true → Closed l.toArray L →
    (∀ p q, S p q → (∀ σ', q σ') ∨ (p, q) ∈ Sl) → (∀ x ∈ Sl, x.1 ∈ N) →
    aPre P l (fun S fr σ => aPlan P (dsts l.toArray) l K (.ef i c1 :: r1) S fr σ ∧ aPlan P (dsts l.toArray) l K (.ef j c2 :: r2) S fr σ) pre Sl fr σ → aAll P l.toArray K (pre.length + (r1.length + 1)) L S fr σ
  | [], L, N, Sl, S, fr, σ, hok, hL, hS, hN, h => by
    simp only [brOk, Bool.and_eq_true, beq_iff_eq] at hok
    obtain ⟨⟨⟨⟨⟨⟨hr, h1⟩, h2⟩, h3⟩, h4⟩, h5⟩, h6⟩ := hok
    rw [List.length_nil, Nat.zero_add]
    refine ⟨fun h => (by rw [h] at hr; cases hr), fun k hk => ?_⟩
    have hk' := hk
    rw [hr] at hk'
    simp only [List.mem_cons, List.not_mem_nil, or_false] at hk'
    rcases hk' with rfl | rfl
    · exact ef_all hk h1 h3 h5 hL hS hN h.1
    · rw [hlen]; exact ef_all hk h2 h4 h6 hL hS hN h.2
  | .ef _ _ :: r, L, N, Sl, S, fr, σ, hok, hL, hS, hN, h => h.elim
  | .rd k keep :: r, L, N, Sl, S, fr, σ, hok, hL, hS, hN, h => by
    simp only [brOk, Bool.and_eq_true, Bool.or_eq_true, beq_iff_eq] at hok
    obtain ⟨⟨⟨hr, hc⟩, hf⟩, hok⟩ := hok
    have hr : k ∈ Region.ready .any l.toArray L := by simpa using hr
    simp only [aPre] at h
    cases hi : l[k]? with
    | none => rw [hi] at h; exact h.elim
    | some o =>
      rw [hi] at h
      obtain ⟨hg, h⟩ := h
      have hi' : l.toArray[k]? = some o := by simpa using hi
      have hcl : clsAt P l.toArray k = cls P o.op := by simp [clsAt, hi]
      rw [hcl] at hc
      have hne : cls P o.op ≠ 2 := by rcases hc with h | ⟨h, _⟩ <;> omega
      obtain ⟨v, hk, hy⟩ := aOp_read hne h
      rw [show (PS.rd k keep :: r).length + (r1.length + 1) = (r.length + (r1.length + 1)) + 1 by simp only [List.length_cons]; omega]
      refine first_read hi' hne _ L S fr σ hL (Region.free_spec hi' hf) hr (.inl ⟨fun A B hA => by rw [hg]; exact hA, hy, ?_⟩)
      refine pre_all hlen r _ _ _ _ _ _ hok (closed_set hL hr) ?_ ?_ hk
      · rintro p q (hp | ⟨rfl, rfl⟩)
        · rcases hS p q hp with h | h
          · exact .inl h
          · refine .inr ?_
            split
            · exact List.mem_cons_of_mem _ h
            · exact h
        · rcases hc with h0 | ⟨_, h0⟩
          · exact .inl fun σ' => hy.any h0 σ'
          · rw [if_pos h0]
            exact .inr (List.mem_cons_self ..)
      · intro x hx
        cases keep with
        | true =>
          rcases List.mem_cons.1 hx with rfl | hx
          · exact List.mem_cons_self ..
          · exact List.mem_cons_of_mem _ (hN x hx)
        | false => exact hN x hx
/-- **Reads first, then two effects in either order.** -/
theorem aDraw_two {fr : Fr} {σ : St} (pre : List PS) (i : Nat) (c1 : List Nat) (r1 : List PS) (j : Nat) (c2 : List Nat) (r2 : List PS) (hm : P.follows .mixedOrders = true) (hlen : (pre.length + (r1.length + 1) == l.length) = true) (hl : (r1.length == r2.length) = true) (hok : brOk P l.toArray i c1 r1 j c2 r2 pre (Array.replicate l.length false) [] = true)
    (h : aPre P l (fun S fr σ => aPlan P (l.map (·.dst)) l K (.ef i c1 :: r1) S fr σ ∧ aPlan P (l.map (·.dst)) l K (.ef j c2 :: r2) S fr σ) pre (@hid _ ⟨[]⟩) fr σ) : aDraw P l.toArray K fr σ := by
  refine aDraw_of_all hm ?_
  have e : pre.length + (r1.length + 1) = l.toArray.size := by simpa using hlen
  rw [← e]
  refine pre_all (by simpa using hl) pre _ [] [] _ fr σ ?_ ?_ (fun _ _ h => h.elim) (fun x hx => by cases hx) h
  · rw [e]; simpa using hok
  · intro i o hi
    rw [e] at hi
    rcases Nat.lt_or_ge i l.length with h' | h'
    · simp [Array.getElem?_replicate, h'] at hi
    · simp [Array.getElem?_replicate, Nat.not_lt.2 h'] at hi
def aRdP (P : Program) (l : List Oper) (C : Noted → Fr → St → Prop) (keep : Bool) (i : Nat) (r : List PS) (S : Noted) (fr : Fr) (σ : St) : Option Oper → Prop
  | none => False
  | some o => o.guard = none ∧ aOp P o.op fr σ fun v σ' => aPre P l C r (if keep then (i, fun σ'' => Yl P o.op fr σ'' v) :: S else S) (fr.put o.dst v) σ'
variable {C : Noted → Fr → St → Prop} {S : Noted} {fr : Fr} {σ : St} {r : List PS} {i : Nat} {d : Option Nat} {op : Op} {t : TypeId} {p : String} {e : Array Edge}
@[go_sem] theorem pre_nil : aPre P l C [] S fr σ = C S fr σ := _root_.id rfl
@[go_sem] theorem pre_rd {keep : Bool} : aPre P l C (.rd i keep :: r) S fr σ = aRdP P l C keep i r S fr σ (l[i]?) := by
  unfold aPre aRdP
  cases l[i]? <;> rfl
@[go_sem] theorem rdp_k : aRdP P l C true i r S fr σ (some { dst := d, op := op, type := t, pos := p, after := e, guard := none }) = aOp P op fr σ (@hid _ ⟨fun v σ' => aPre P l C r (@hid _ ⟨(i, fun σ'' => Yl P op fr σ'' v) :: S⟩) (fr.put d v) σ'⟩) := by
  simp only [aRdP, true_and]; rfl
@[go_sem] theorem rdp_n : aRdP P l C false i r S fr σ (some { dst := d, op := op, type := t, pos := p, after := e, guard := none }) = aOp P op fr σ (@hid _ ⟨fun v σ' => aPre P l C r S (fr.put d v) σ'⟩) := by
  simp only [aRdP, true_and]; rfl
end
end Go.Proofs.Ythdfpankebjleaa

/-
  Bodies, as the program finds them.
  Conditions: none.
-/
namespace Go.Proofs.Ythdfpankebjleaa
open Go Go.Av

def Fa.zero : Fa := ⟨emp, emp, emp, []⟩
/-- What is found, in the program's order. -/
def fndP (r : Rl) (me : ByteArray) (first : Int) (f : Fa) (l : List Fa) : List (List Fa) :=
  match uniF r.ho (nmC me) [] with
  | some env => eachF r.ho r.bo (candF first f l) (ordR r first) env (List.replicate r.bo.length .zero)
  | none => []
/-- What is found, sorted, each once. -/
def bodF (r : Rl) (me : ByteArray) (first : Int) (f : Fa) (l : List Fa) : List (List Fa) := insS cmpB [] (fndP r me first f l)
theorem ordR_nodup (r : Rl) (first : Int) : (ordR r first).Nodup := (ordR_ok r first).1.1
theorem each_sm (ho : Tm) (bo : List Li) (cand : Nat → List Fa) (hc : ∀ k, ∀ x ∈ cand k, x.Sm) : ∀ (o : List Nat) (env : List Bi) (got : List Fa), (∀ x ∈ got, x.Sm) → ∀ b ∈ eachF ho bo cand o env got, b.length = got.length ∧ ∀ x ∈ b, x.Sm
  | [], env, got, hg, b, hb => by rw [List.mem_singleton.1 hb]; exact ⟨rfl, hg⟩
  | k :: o, env, got, hg, b, hb => by
    rw [eachF] at hb
    obtain ⟨x, hx, hb⟩ := List.mem_flatMap.1 hb
    split at hb
    · have := each_sm ho bo cand hc o _ (got.set k x) (fun y hy => by
        rcases List.mem_or_eq_of_mem_set hy with hy | rfl
        · exact hg y hy
        · exact hc k _ hx) b hb
      exact ⟨by rw [this.1, List.length_set], this.2⟩
    · cases hb
section
variable {σ : St}
set_option maxHeartbeats 2000000 in
theorem bodies_at (r : Rl) (me : ByteArray) (first : Int) (f : Fa) (l : List Fa) (hr : r.S3) (hf : f.Sm) (hl : l.length ≤ 1000000) (hls : ∀ y ∈ l, y.Sm) (hn : (fndP r me first f l).length ≤ 1000000) :
    AT Try.prog 35 [.agg r.cs, str me, int first, .agg f.cs, .sl 4 (faC l)] σ fun v σ' => PB σ σ' v (bodF r me first f l) := by
  refine AT.of_body Try.func35 rfl (by decide) (by kernel_rfl) (by kernel_rfl) (Nat.le_of_ble_eq_true rfl) ?_
  simp only [go_sem, reduceIte, Nat.reduceEqDiff, Nat.reduceAdd, Nat.reduceMul, Nat.reduceSub, Nat.reduceLT, Nat.reduceLeDiff, Int.reduceLE, Int.reduceLT, Int.reduceToNat, Int.reduceEq]
  refine Ctx.nil.alloc fun p σ1 c1 => ?_
  simp only [go_sem, reduceIte, Nat.reduceEqDiff, Nat.reduceAdd, Nat.reduceMul, Nat.reduceSub, Nat.reduceLT, Nat.reduceLeDiff, Int.reduceLE, Int.reduceLT, Int.reduceToNat, Int.reduceEq]
  refine c1.alloc fun q σ2 c2 => ?_
  simp only [go_sem, c2.g1, reduceIte, Nat.reduceEqDiff, Nat.reduceAdd, Nat.reduceMul, Nat.reduceSub, Nat.reduceLT, Nat.reduceLeDiff, Int.reduceLE, Int.reduceLT, Int.reduceToNat, Int.reduceEq]
  refine (AT.weak (unify_at r.ho (nmC me) [] (by simp)) (vws_same (vws_same (vws_cons (.nil 4) vws_nil)))).mono ?_
  rintro _ σ2 ⟨rfl, rfl⟩
  simp only [go_sem, reduceIte, Nat.reduceEqDiff, Nat.reduceAdd, Nat.reduceMul, Nat.reduceSub, Nat.reduceLT, Nat.reduceLeDiff, Int.reduceLE, Int.reduceLT, Int.reduceToNat, Int.reduceEq]
  cases hu : uniF r.ho (nmC me) [] with
  | none =>
    have e : bodF r me first f l = [] := by unfold bodF fndP; rw [hu]; rfl
    rw [e]
    simp only [go_sem, reduceIte, Nat.reduceEqDiff, Nat.reduceAdd, Nat.reduceMul, Nat.reduceSub, Nat.reduceLT, Nat.reduceLeDiff, Int.reduceLE, Int.reduceLT, Int.reduceToNat, Int.reduceEq]
    exact aRet_view (r := nilS) rfl _ σ (c2.view _) ⟨fun _ _ h => h, fun x hx => absurd hx own_no_nil, [], .inl ⟨rfl, .inl rfl⟩, rfl, fun i hi => by simp at hi⟩
  | some env =>
    have ef : fndP r me first f l = eachF r.ho r.bo (candF first f l) (ordR r first) env (List.replicate r.bo.length .zero) := by unfold fndP; rw [hu]
    have hel := uni_len hu
    simp only [List.length_nil] at hel
    have hr1 := hr.1
    simp only [go_sem, reduceIte, Nat.reduceEqDiff, Nat.reduceAdd, Nat.reduceMul, Nat.reduceSub, Nat.reduceLT, Nat.reduceLeDiff, Int.reduceLE, Int.reduceLT, Int.reduceToNat, Int.reduceEq]
    refine aDraw_two [.rd 0 true, .rd 1 true, .rd 2 false, .rd 4 true, .rd 5 false, .rd 6 false, .rd 7 true, .rd 8 false, .rd 10 false] 3 [0, 4, 7] [.ef 9 [0, 1, 4], .rd 11 false, .ef 12 [], .rd 13 false] 9 [0, 1, 4] [.ef 3 [0, 4, 7], .rd 11 false, .ef 12 [], .rd 13 false] (by kernel_rfl) (by kernel_rfl) (by kernel_rfl) (by kernel_rfl) ?_
    simp only [go_sem, c2.g1, reduceIte, Nat.reduceEqDiff, Nat.reduceAdd, Nat.reduceMul, Nat.reduceSub, Nat.reduceLT, Nat.reduceLeDiff, Int.reduceLE, Int.reduceLT, Int.reduceToNat, Int.reduceEq]
    constructor
    case' left =>
      refine (order_at r first hr).mono ?_
      rintro _ σ2 ⟨rfl, rfl⟩
      simp only [go_sem, c2.g1, reduceIte, Nat.reduceEqDiff, Nat.reduceAdd, Nat.reduceMul, Nat.reduceSub, Nat.reduceLT, Nat.reduceLeDiff, Int.reduceLE, Int.reduceLT, Int.reduceToNat, Int.reduceEq]
      refine ⟨by omega, by omega, aMkRow_intro fun gb hgb hgn => ?_⟩
      have c3 := c2.new (o := .rows 4 (List.replicate r.bo.length [str emp, str emp, str emp, nilS]) false r.bo.length) hgb
      obtain ⟨σ3, e3⟩ : ∃ s, s = σ2.set gb (.rows 4 (List.replicate r.bo.length [str emp, str emp, str emp, nilS]) false r.bo.length) := ⟨_, rfl⟩
      rw [← e3] at c3 ⊢
      simp only [go_sem, c3.g2, reduceIte, Nat.reduceEqDiff, Nat.reduceAdd, Nat.reduceMul, Nat.reduceSub, Nat.reduceLT, Nat.reduceLeDiff, Int.reduceLE, Int.reduceLT, Int.reduceToNat, Int.reduceEq]
    case' right =>
      refine ⟨by omega, by omega, aMkRow_intro fun gb hgb hgn => ?_⟩
      have c3 := c2.new (o := .rows 4 (List.replicate r.bo.length [str emp, str emp, str emp, nilS]) false r.bo.length) hgb
      obtain ⟨σ3, e3⟩ : ∃ s, s = σ2.set gb (.rows 4 (List.replicate r.bo.length [str emp, str emp, str emp, nilS]) false r.bo.length) := ⟨_, rfl⟩
      rw [← e3] at c3 ⊢
      simp only [go_sem, c3.g2, reduceIte, Nat.reduceEqDiff, Nat.reduceAdd, Nat.reduceMul, Nat.reduceSub, Nat.reduceLT, Nat.reduceLeDiff, Int.reduceLE, Int.reduceLT, Int.reduceToNat, Int.reduceEq]
      refine (order_at r first hr).mono ?_
      rintro _ σ3 ⟨rfl, rfl⟩
      simp only [go_sem, c3.g2, reduceIte, Nat.reduceEqDiff, Nat.reduceAdd, Nat.reduceMul, Nat.reduceSub, Nat.reduceLT, Nat.reduceLeDiff, Int.reduceLE, Int.reduceLT, Int.reduceToNat, Int.reduceEq]
    all_goals
      repeat' refine And.intro (Nat.le_of_ble_eq_true (by kernel_rfl)) ?_
      refine And.intro (by kernel_rfl) ?_
      refine c3.alloc (o := .cells (fiC r (.sl 1 (inC (nats (ordR r first)))) f (.sl 4 (faC l)) (slv gb r.bo.length r.bo.length) nilS first)) fun x σ4 c4 => ?_
      simp only [go_sem, reduceIte, Nat.reduceEqDiff, Nat.reduceAdd, Nat.reduceMul, Nat.reduceSub, Nat.reduceLT, Nat.reduceLeDiff, Int.reduceLE, Int.reduceLT, Int.reduceToNat, Int.reduceEq]
      obtain ⟨σ5, e5⟩ : ∃ s, s = σ4.set gb (.rows 4 (faC (List.replicate r.bo.length Fa.zero)) false r.bo.length) := ⟨_, rfl⟩
      have k4 := c4.g3
      have hE0 : EI σ σ5 x r (ordR r first) f l first (List.replicate r.bo.length .zero) [] := by
        rw [e5]
        refine ⟨gb, nilS, [], ?_, ?_, .inl ⟨rfl, .inl rfl⟩, rfl, fun i hi => by simp at hi, fun y o hy => ⟨?_, fun e => ?_, fun e => ?_, own_no_nil⟩, fun e => by cases e⟩
        · rw [set_ne k4.2.1, List.length_replicate]; exact k4.1.1
        · rw [set_same, List.length_replicate]
        · have h1 := c4.f1
          rw [set_ne (fun e => by rw [e] at hy; rw [hy] at h1; cases h1)]
          exact c4.sub _ _ hy
        · have h1 := c4.f0
          rw [e] at hy; rw [hy] at h1; cases h1
        · have h1 := c4.f1
          rw [e] at hy; rw [hy] at h1; cases h1
      have hSV : SV σ4 σ5 := by
        rw [e5]
        refine sv_set k4.1.2.1 ⟨rfl, rfl, rfl, by simp [faC], fun i hi => ?_⟩ fun y o hne hy => hy
        have hi' : i < r.bo.length := by simpa using hi
        have g1 : (List.replicate r.bo.length [str emp, str emp, str emp, nilS]).getD i [] = [str emp, str emp, str emp, nilS] := by
          simp [List.getD_eq_getElem?_getD, hi']
        have g2 : (faC (List.replicate r.bo.length Fa.zero)).getD i [] = [str emp, str emp, str emp, .sl 3 []] := by
          rw [faC_get (by simpa using hi')]; simp [Fa.cs, Fa.zero, cnC]
        rw [g1, g2]
        exact vws_same (vws_same (vws_same (vws_cons (.nil 3) vws_nil)))
      refine AT.pre (args' := [ptr x, int 0, .sl 4 (biC env)]) ((each_at r (ordR r first) first f l hr hf hl hls (by rw [(ordR_ok r first).2.1]; exact hr1) (ordR_nodup r first) (ordR_ok r first).1.2 (ordR r first).length 0 (by omega) (by simp) (by omega) hE0 (by rw [List.drop_zero, ← ef]; simpa using hn)).mono ?_) (by kernel_rfl) hSV (vws_refl _)
      rintro _ σ6 ⟨got', _, _, hE⟩
      rw [List.drop_zero, ← ef, List.nil_append] at hE
      obtain ⟨gb', lo, es, h1, h2, h3, h4, h5, h6, h7⟩ := hE
      simp only [go_sem, h1, reduceIte, Nat.reduceEqDiff, Nat.reduceAdd, Nat.reduceMul, Nat.reduceSub, Nat.reduceLT, Nat.reduceLeDiff, Int.reduceLE, Int.reduceLT, Int.reduceToNat, Int.reduceEq]
      rcases h3 with ⟨rfl, hlo | hlo⟩ | ⟨b, cap, rfl, hcap, hb⟩
      case' inl.inr => exact absurd hlo h7
      case' inl.inl =>
        subst hlo
        refine (sortnilL_at _).mono ?_
        rintro _ σ6 rfl
        simp only [go_sem, h1, reduceIte, Nat.reduceEqDiff, Nat.reduceAdd, Nat.reduceMul, Nat.reduceSub, Nat.reduceLT, Nat.reduceLeDiff, Int.reduceLE, Int.reduceLT, Int.reduceToNat, Int.reduceEq]
        refine (compnilL_at _).mono ?_
        rintro _ σ7 ⟨rfl, rfl⟩
        have e0 : fndP r me first f l = [] := List.eq_nil_of_length_eq_zero (by simpa using h4.symm)
        obtain ⟨v7, hv7⟩ : ∃ v, v = nilS := ⟨_, rfl⟩
        obtain ⟨β', L, hM⟩ : ∃ (β' : St) (L : List (BV β' σ)), Ow 1 σ7 v7 (L.map BV.en) ∧ (∀ c o, β' c = some o → σ7 c = some o) ∧ L.map BV.bd = bodF r me first f l ∧ (∀ y o, σ y = some o → σ7 y = some o) ∧ (∀ y, Own v7 y → σ y = none) ∧ L.length ≤ 1000000 :=
          ⟨fun _ => none, [], .inl ⟨rfl, .inl hv7⟩, fun c o h => (by cases h), by unfold bodF; rw [e0]; rfl, fun y o hy => (h6 y o hy).1, fun y hy => by rw [hv7] at hy; exact absurd hy own_no_nil, by simp⟩
        rw [← hv7]
      case' inr =>
        have hxb : x ≠ b := fun e => by subst e; rw [h1] at hb; cases hb
        obtain ⟨β', hβ⟩ : ∃ β' : St, β' = fun y => if y = b ∨ y = x then none else σ6 y := ⟨_, rfl⟩
        have hbb : β' b = none := by rw [hβ]; simp
        have hsub : ∀ y o, β' y = some o → σ6 y = some o ∧ y ≠ b ∧ y ≠ x := fun y o hy => by
          rw [hβ] at hy
          simp only at hy
          split at hy
          · cases hy
          · rename_i hn; exact ⟨hy, fun e => hn (.inl e), fun e => hn (.inr e)⟩
        have hin : ∀ y o, σ6 y = some o → y ≠ b → y ≠ x → β' y = some o := fun y o hy n1 n2 => by
          rw [hβ]; simp only; rw [if_neg (by rintro (e | e); exact n1 e; exact n2 e)]; exact hy
        have hsm := each_sm r.ho r.bo (candF first f l) (fun k y hy => by
          unfold candF at hy; split at hy
          · rw [List.mem_singleton.1 hy]; exact hf
          · exact hls y hy) (ordR r first) env (List.replicate r.bo.length .zero) (fun y hy => by rw [(List.mem_replicate.1 hy).2]; simp [Fa.zero, Fa.Sm])
        rw [← ef] at hsm
        obtain ⟨L0, hL1, hL2⟩ : ∃ L0 : List (BV β' σ), L0.map BV.en = es ∧ L0.map BV.bd = fndP r me first f l := pick_list es _ h4 fun i hi => by
          obtain ⟨v, v1, v2, v3, v4⟩ := h5 i hi
          have sm := hsm _ (List.getElem_mem hi)
          refine ⟨⟨_, v, v2.keep fun y o hy ho => hin y o hy (fun e => ?_) (fun e => ?_), ⟨?_, sm.2⟩, v4⟩, v1, rfl⟩
          · subst e
            obtain ⟨c, hc⟩ := v2.lat.own_rows ho
            rw [hb] at hc; cases hc
          · subst e
            obtain ⟨c, hc⟩ := v2.lat.own_rows ho
            rw [h1] at hc; cases hc
          · rw [sm.1]; simp; omega
        have hb0 : σ6 b = some (.rows 1 (rw' BV.en L0.toArray) false cap) := by rw [hb, ← hL1]; simp [rw']
        have hlen : es.length = L0.length := by rw [← hL1, List.length_map]
        refine (L.sort_at (fun _ => rfl) BV.one BV.cells BV.ord_at hbb (n := es.length) (by omega) BV.swo hb0 (fun y o hy => (hsub y o hy).1) (by simpa using hlen.symm)).mono ?_
        rintro _ _ ⟨d', rfl, hp, hsd⟩
        have hdl : es.length = d'.toList.length := by rw [hp.length_eq, hlen]
        have hx7 : (σ6.set b (.rows 1 (rw' BV.en d') false cap)) x = some (.cells (fiC r (.sl 1 (inC (nats (ordR r first)))) f (.sl 4 (faC l)) (slv gb' got'.length got'.length) (slv b es.length cap) first)) := by rw [set_ne hxb]; exact h1
        simp only [go_sem, hx7, reduceIte, Nat.reduceEqDiff, Nat.reduceAdd, Nat.reduceMul, Nat.reduceSub, Nat.reduceLT, Nat.reduceLeDiff, Int.reduceLE, Int.reduceLT, Int.reduceToNat, Int.reduceEq]
        rw [hdl]
        refine (L.compact_at (fun _ => rfl) BV.one BV.cells BV.eq_at hbb (l := d'.toList) set_same (sub_set hbb fun y o hy => (hsub y o hy).1) (by omega) (by omega)).mono ?_
        rintro _ _ ⟨rfl, rfl⟩
        rw [set_set]
        obtain ⟨σ7, hσ7⟩ : ∃ s, s = σ6.set b (.rows 1 ((cptB BV.eq d'.toList).map BV.en) false cap) := ⟨_, rfl⟩
        rw [← hσ7]
        obtain ⟨v7, hv7⟩ : ∃ v, v = slv b (cptB BV.eq d'.toList).length cap := ⟨_, rfl⟩
        have hsz : d'.size = es.length := by simpa using hdl.symm
        obtain ⟨β', L, hM⟩ : ∃ (β' : St) (L : List (BV β' σ)), Ow 1 σ7 v7 (L.map BV.en) ∧ (∀ c o, β' c = some o → σ7 c = some o) ∧ L.map BV.bd = bodF r me first f l ∧ (∀ y o, σ y = some o → σ7 y = some o) ∧ (∀ y, Own v7 y → σ y = none) ∧ L.length ≤ 1000000 := by
          refine ⟨β', cptB BV.eq d'.toList, .inr ⟨b, cap, by rw [List.length_map]; exact hv7, ?_, by rw [hσ7]; exact set_same⟩, fun c o hc => ?_, ?_, fun y o hy => ?_, fun y hy => ?_, by have := cptB_len BV.eq d'.toList; omega⟩
          · have := cptB_len BV.eq d'.toList
            rw [List.length_map]; omega
          · rw [hσ7, set_ne (hsub c o hc).2.1]; exact (hsub c o hc).1
          · unfold bodF
            refine BV.done ?_ (by rw [hsz]; exact hsd)
            rw [← hL2]
            exact (hp.map BV.bd)
          · have := h6 y o hy
            rw [hσ7, set_ne fun e => this.2.2.2 (own_slv.2 e)]; exact this.1
          · rw [hv7] at hy
            have e := own_slv.1 hy
            subst e
            cases h : σ y with
            | none => rfl
            | some o => exact absurd (own_slv.2 rfl) (h6 y o h).2.2.2
        rw [← hv7]
      all_goals
        clear h1 h4 h5 h6 h7 hE0 hSV e5 k4 c4 c3 e3
        obtain ⟨q1, q2, q3, q4, q5, q6⟩ := hM
        have hJ0 : JB σ σ7 σ7 v7 (L.map BV.en) (fun _ _ => False) := ⟨q4, q1, fun c b cap h7 h0 => ⟨_, h7, by simp [faC], fun j hj => ⟨.sl 3 (cnC b[j].ar), by rw [faC_get hj]; rfl, .inl ⟨rfl, fun h => h⟩⟩⟩⟩
        simp only [go_sem, r_block, q1.lat.len, reduceIte, Nat.reduceEqDiff, Nat.reduceAdd, Nat.reduceMul, Nat.reduceSub, Nat.reduceLT, Nat.reduceLeDiff, Int.reduceLE, Int.reduceLT, Int.reduceToNat, Int.reduceEq]
        refine ⟨fun m fr σ' => ∃ i : Nat, m = L.length - i ∧ i ≤ L.length ∧ JB σ σ7 σ' v7 (L.map BV.en) (fun c _ => ∃ k, ∃ h : k < L.length, k < i ∧ Own L[k].v c) ∧ fr 14 = v7 ∧ fr 54 = v7 ∧ fr 55 = int L.length ∧ fr 56 = int i, ⟨_, 0, rfl, by omega, hJ0.weak (fun c b cap j h1 h2 ⟨k, _, h3, _⟩ => by omega), rfl, rfl, rfl, rfl⟩, ?_⟩
        rintro m fr σ8 ⟨i, rfl, hi, hJ, f14, f54, f55, f56⟩
        simp only [go_sem, f55, f56, reduceIte, Nat.reduceEqDiff, Nat.reduceAdd, Nat.reduceMul, Nat.reduceSub, Nat.reduceLT, Nat.reduceLeDiff, Int.reduceLE, Int.reduceLT, Int.reduceToNat, Int.reduceEq]
        refine aIf_by (fun hlt => ?_) (fun hlt => ?_)
        · have hil : i < L.length := by omega
          obtain ⟨X, hX⟩ : ∃ X, X = L[i] := ⟨_, rfl⟩
          have eg : (L.map BV.en).getD i [] = [X.v] := by rw [hX]; simp [List.getD_eq_getElem?_getD, hil, BV.en]
          simp only [go_sem, r_block, f54, f56, reduceIte, Nat.reduceEqDiff, Nat.reduceAdd, Nat.reduceMul, Nat.reduceSub, Nat.reduceLT, Nat.reduceLeDiff, Int.reduceLE, Int.reduceLT, Int.reduceToNat, Int.reduceEq]
          refine hJ.2.1.lat.elem (by omega) (by rw [List.length_map]; omega) fun e he => ?_
          simp only [go_sem, r_block, reduceIte, Nat.reduceEqDiff, Nat.reduceAdd, Nat.reduceMul, Nat.reduceSub, Nat.reduceLT, Nat.reduceLeDiff, Int.reduceLE, Int.reduceLT, Int.reduceToNat, Int.reduceEq]
          refine he.load1 (by decide) (by rw [Int.toNat_natCast, eg]; exact Nat.le_refl 1) ?_
          simp only [go_sem, r_block, eg, X.ow.lat.len, faC_len, reduceIte, Nat.reduceEqDiff, Nat.reduceAdd, Nat.reduceMul, Nat.reduceSub, Nat.reduceLT, Nat.reduceLeDiff, Int.reduceLE, Int.reduceLT, Int.reduceToNat, Int.reduceEq]
          refine ⟨fun mm fr σ9 => ∃ j : Nat, mm = X.bd.length - j ∧ j ≤ X.bd.length ∧ JB σ σ7 σ9 v7 (L.map BV.en) (fun c j' => (∃ k, ∃ h : k < L.length, k < i ∧ Own L[k].v c) ∨ (Own X.v c ∧ j' < j)) ∧ fr 14 = v7 ∧ fr 16 = X.v ∧ fr 54 = v7 ∧ fr 55 = int L.length ∧ fr 56 = int i ∧ fr 61 = int X.bd.length ∧ fr 62 = int j, ⟨_, 0, rfl, by omega, hJ.weak (fun c b cap j h1 h2 h3 => h3.resolve_right fun h => by omega), f14, rfl, f54, f55, f56, rfl, rfl⟩, ?_⟩
          clear f14 f54 f55 f56 hJ fr he e
          rintro mm fr σ9 ⟨j, rfl, hj, hJ, f14, f16, f54, f55, f56, f61, f62⟩
          simp only [go_sem, f61, f62, reduceIte, Nat.reduceEqDiff, Nat.reduceAdd, Nat.reduceMul, Nat.reduceSub, Nat.reduceLT, Nat.reduceLeDiff, Int.reduceLE, Int.reduceLT, Int.reduceToNat, Int.reduceEq]
          refine aIf_by (fun hlt2 => ?_) (fun hlt2 => ?_)
          · have hjl : j < X.bd.length := by omega
            have hsl := X.sm.1
            have hsj := X.sm.2 _ (List.getElem_mem hjl)
            rcases X.ow with ⟨h0, _⟩ | ⟨c, cap, hv, hcap, hc⟩
            · have := congrArg List.length h0
              rw [faC_len, List.length_nil] at this
              omega
            · have hown : ∀ y, Own X.v y ↔ y = c := fun y => by rw [hv]; exact own_slv
              have h0 := X.fr c ((hown c).2 rfl)
              have h7 := q2 _ _ hc
              obtain ⟨es9, g1, g2, g3⟩ := hJ.2.2 c _ cap h7 h0
              obtain ⟨a, ga, gb2⟩ := g3 j hjl
              have hR : Rd 3 σ9 a (cnC X.bd[j].ar) := by
                rcases gb2 with ⟨rfl, _⟩ | ⟨h, _⟩
                · exact .sl
                · exact .of h.lat
              rw [faC_len] at hv
              simp only [go_sem, r_block, f16, f62, hv, g1, ga, reduceIte, Nat.reduceEqDiff, Nat.reduceAdd, Nat.reduceMul, Nat.reduceSub, Nat.reduceLT, Nat.reduceLeDiff, Int.reduceLE, Int.reduceLT, Int.reduceToNat, Int.reduceEq]
              refine ⟨by omega, by omega, (cloneC_at X.bd[j].ar hsj hR).mono ?_⟩
              rintro lv σ10 ⟨hO, hG⟩
              have g10 := hG.sub _ _ g1
              simp only [go_sem, r_block, f16, f62, hv, g10, ga, hO.lat.one, hO.lat.cells, next64 (show j < 9223372036854775807 by omega), reduceIte, Nat.reduceEqDiff, Nat.reduceAdd, Nat.reduceMul, Nat.reduceSub, Nat.reduceLT, Nat.reduceLeDiff, Int.reduceLE, Int.reduceLT, Int.reduceToNat, Int.reduceEq]
              refine ⟨by omega, by omega, ?_⟩
              have hJ' : JB σ σ7 (σ10.set c (.rows 4 (es9.set j (faX X.bd[j] lv)) false cap)) v7 (L.map BV.en) (fun c j' => (∃ k, ∃ h : k < L.length, k < i ∧ Own L[k].v c) ∨ (Own X.v c ∧ j' < j + 1)) := hJ.put hG.sub h7 h0 g1 hjl hO (fun y hy => none_of_sub hJ.1 (hG.own hy)) fun c' j' h => by
                rcases h with h | ⟨h, hlt3⟩
                · exact .inl (.inl h)
                · have e := (hown c').1 h
                  by_cases ej : j' = j
                  · exact .inr ⟨e, ej⟩
                  · exact .inl (.inr ⟨h, by omega⟩)
              rw [hv] at hJ'
              refine ⟨X.bd.length - (j + 1), by omega, j + 1, rfl, by omega, hJ', ?_⟩
              (and_intros <;> first | assumption | rfl | omega)
          · simp only [go_sem, r_block, f14, f54, f55, f56, next64 (show i < 9223372036854775807 by omega), reduceIte, Nat.reduceEqDiff, Nat.reduceAdd, Nat.reduceMul, Nat.reduceSub, Nat.reduceLT, Nat.reduceLeDiff, Int.reduceLE, Int.reduceLT, Int.reduceToNat, Int.reduceEq]
            have hJ' : JB σ σ7 σ9 v7 (L.map BV.en) (fun c _ => ∃ k, ∃ h : k < L.length, k < i + 1 ∧ Own L[k].v c) := ?_
            · refine ⟨L.length - (i + 1), by omega, i + 1, rfl, by omega, hJ', ?_⟩
              (and_intros <;> first | assumption | rfl | omega)
            refine hJ.weak fun c b cap j' h7 hj' ⟨k, hk, hki, ho⟩ => ?_
            by_cases e : k = i
            · subst e
              rw [← hX] at ho
              refine .inr ⟨ho, ?_⟩
              rcases X.ow with ⟨_, h | h⟩ | ⟨c', cap', hv, hcap, hc⟩
              · rw [h] at ho; exact absurd ho own_no_nil
              · rw [h] at ho; exact absurd ho own_no_fsl
              · rw [hv] at ho
                have e := own_slv.1 ho
                subst e
                rw [q2 _ _ hc] at h7
                injection h7 with h7
                injection h7 with _ h7 _ _
                rw [← faC_inj h7] at hj'
                omega
            · exact .inl ⟨k, hk, by omega, ho⟩
        · obtain rfl : i = L.length := by omega
          simp only [go_sem, r_block, f14, reduceIte, Nat.reduceEqDiff, Nat.reduceAdd, Nat.reduceMul, Nat.reduceSub, Nat.reduceLT, Nat.reduceLeDiff, Int.reduceLE, Int.reduceLT, Int.reduceToNat, Int.reduceEq]
          refine aRet_as (r := v7) rfl ⟨hJ.1, q5, L.map BV.en, hJ.2.1, by rw [← q3]; simp, fun k hk => ?_⟩
          have hkl : k < L.length := by rw [← q3] at hk; simpa using hk
          have ek : (bodF r me first f l)[k] = L[k].bd := by
            have := List.getElem_of_eq q3.symm hk
            rw [this, List.getElem_map]
          rw [ek]
          refine ⟨L[k].v, by simp [List.getD_eq_getElem?_getD, hkl, BV.en], ?_⟩
          rcases L[k].ow with ⟨h0, h⟩ | ⟨c, cap, hv, hcap, hc⟩
          · exact .inl ⟨List.map_eq_nil_iff.1 h0, h⟩
          · rw [faC_len] at hv hcap
            have hown : Own L[k].v c := by rw [hv]; exact own_slv.2 rfl
            obtain ⟨es9, g1, g2, g3⟩ := hJ.2.2 c _ cap (q2 _ _ hc) (L[k].fr c hown)
            refine .inr ⟨c, cap, hv, hcap, L[k].fr c hown, es9, g1, g2, fun j hj => ?_⟩
            obtain ⟨a, ga, gb2⟩ := g3 j hj
            exact ⟨a, ga, .inr (gb2.resolve_left fun h => h.2 ⟨k, hkl, hkl, hown⟩)⟩
end
end Go.Proofs.Ythdfpankebjleaa

/-
  What the document finds and what the program finds are the same.
  Conditions: none.
-/
namespace Go.Proofs.Ythdfpankebjleaa
open Go Go.Av

def docF (r : Rl) (me : ByteArray) (first : Int) (f : Fa) (l : List Fa) : List (List Fa) × Nat :=
  match uniF r.ho (nmC me) [] with
  | some env => frm r.ho (lsF r first f l 0 r.bo.length) env [] ([], 0)
  | none => ([], 0)
theorem ordR_perm (r : Rl) (first : Int) : (ordR r first).Perm (List.range' 0 r.bo.length) := by
  obtain ⟨h1, h2, _⟩ := ordR_ok r first
  refine (List.perm_ext_iff_of_nodup h1.1 (by simp [List.nodup_range'])).2 fun k => ?_
  rw [List.mem_range'_1]
  constructor
  · intro hk; have := h1.2 k hk; omega
  · intro hk
    refine Classical.byContradiction fun hn => ?_
    have : Perm r.bo.length (k :: ordR r first) := ⟨List.nodup_cons.2 ⟨hn, h1.1⟩, fun j hj => by
      rcases List.mem_cons.1 hj with rfl | hj
      · omega
      · exact h1.2 j hj⟩
    have := perm_len _ _ this
    simp only [List.length_cons] at this
    omega
theorem insS_perm {α : Type} {c : α → α → Int} (h : Ord3 c) {l m : List α} (hp : ∀ y, y ∈ l ↔ y ∈ m) : insS c [] l = insS c [] m :=
  rises_ext h (insS_rises h .nil) (insS_rises h .nil) fun y => by rw [insS_mem h, insS_mem h, hp]
theorem doc_bod {r : Rl} {me : ByteArray} {first : Int} {f : Fa} {l : List Fa} (h : (docF r me first f l).2 ≤ 30000) : (docF r me first f l).1 = bodF r me first f l ∧ (fndP r me first f l).length ≤ 30001 := by
  unfold docF bodF fndP at *
  cases hu : uniF r.ho (nmC me) [] with
  | none => exact ⟨rfl, by simp⟩
  | some env =>
    rw [hu] at h
    simp only at h ⊢
    obtain ⟨h1, h2⟩ := frm_ok r.ho (lsF r first f l 0 r.bo.length) env [] ([], 0) h
    have e1 := each_lv r.ho r.bo (candF first f l) r.bo.length 0 env (List.replicate r.bo.length .zero) (by simp)
    rw [List.take_zero] at e1
    have hp := each_perm (ho := r.ho) (bo := r.bo) (cand := candF first f l) (ordR_perm r first) (ordR_nodup r first) env (List.replicate r.bo.length .zero)
    rw [e1] at hp
    have e2 : lvF r.ho (lsF r first f l 0 r.bo.length) env [] = lvF r.ho ((List.range' 0 r.bo.length).map fun i => (r.bo.getD i .zero, candF first f l i)) env [] := rfl
    refine ⟨by rw [h1, e2]; exact insS_perm cmpB_ord fun y => hp.mem_iff.symm, ?_⟩
    rw [hp.length_eq, ← e2]
    simp only at h2
    split at h2 <;> omega
/-- A case, as it lies in memory. -/
def caC (r : Rl) (me : ByteArray) (first : Int) (f : Fa) (lv : AV) : List AV := r.cs ++ str me :: int first :: (f.cs ++ [lv])
section
variable (r : Rl) (me : ByteArray) (first : Int) (f : Fa) (lv : AV)
@[go_sem] theorem caC_len : (caC r me first f lv).length = 18 := rfl
@[go_sem] theorem caC_take : (caC r me first f lv).take 18 = caC r me first f lv := rfl
@[go_sem] theorem caC_0 : (caC r me first f lv).take 11 = r.cs := rfl
@[go_sem] theorem caC_11 : (caC r me first f lv).getD 11 (.v undef) = str me := rfl
@[go_sem] theorem caC_12 : (caC r me first f lv).getD 12 (.v undef) = int first := rfl
@[go_sem] theorem caC_13 : ((caC r me first f lv).drop 13).take 4 = f.cs := rfl
@[go_sem] theorem caC_17 : (caC r me first f lv).getD 17 (.v undef) = lv := rfl
@[go_sem] theorem caC_17s (w : AV) : splice (caC r me first f lv) 17 [w] = caC r me first f w := rfl
@[go_sem] theorem caC_12s (k : Int) : splice (caC r me first f lv) 12 [int k] = caC r me k f lv := rfl
@[go_sem] theorem caC_app (l : List AV) (h : l.length = 18) : caC r me first f lv ++ l.drop 18 = caC r me first f lv := by rw [List.drop_eq_nil_of_le (by omega), List.append_nil]
theorem caC_one (h : lv.one = true) : (caC r me first f lv).all AV.one = true := by
  unfold caC
  simp only [List.all_append, List.all_cons, h, List.all_nil, Rl.one, Fa.one]
  rfl
end
section
variable {β σ : St} {x : Nat}
theorem rbodies_at (r : Rl) (me : ByteArray) (first : Int) (f : Fa) (l : List Fa) (hr : r.S3) (hf : f.Sm) (hl : l.length ≤ 1000000) (hls : ∀ y ∈ l, y.Sm) (h : FI β σ x [] 0) : AT Try.prog 34 [ptr x, .agg r.cs, str me, int first, .agg f.cs, .sl 4 (faC l)] σ fun _ σ' => FI β σ' x (docF r me first f l).1 (docF r me first f l).2 := by
  refine AT.of_body Try.func34 rfl (by decide) (by kernel_rfl) (by kernel_rfl) (Nat.le_of_ble_eq_true rfl) ?_
  simp only [go_sem, reduceIte, Nat.reduceEqDiff, Nat.reduceAdd, Nat.reduceMul, Nat.reduceSub, Nat.reduceLT, Nat.reduceLeDiff, Int.reduceLE, Int.reduceLT, Int.reduceToNat, Int.reduceEq]
  refine Ctx.nil.alloc fun p σ1 c1 => ?_
  simp only [go_sem, reduceIte, Nat.reduceEqDiff, Nat.reduceAdd, Nat.reduceMul, Nat.reduceSub, Nat.reduceLT, Nat.reduceLeDiff, Int.reduceLE, Int.reduceLT, Int.reduceToNat, Int.reduceEq]
  refine c1.alloc fun q σ2 c2 => ?_
  simp only [go_sem, reduceIte, Nat.reduceEqDiff, Nat.reduceAdd, Nat.reduceMul, Nat.reduceSub, Nat.reduceLT, Nat.reduceLeDiff, Int.reduceLE, Int.reduceLT, Int.reduceToNat, Int.reduceEq]
  refine aDraw_plan [.rd 0 false, .rd 1 true, .rd 2 false, .ef 3 [1], .ef 4 [], .rd 5 false, .rd 6 false, .rd 7 false, .rd 8 false, .rd 9 false] (by kernel_rfl) (by kernel_rfl) (by kernel_rfl) ?_
  simp only [go_sem, c2.g1, reduceIte, Nat.reduceEqDiff, Nat.reduceAdd, Nat.reduceMul, Nat.reduceSub, Nat.reduceLT, Nat.reduceLeDiff, Int.reduceLE, Int.reduceLT, Int.reduceToNat, Int.reduceEq]
  refine (name_at me).mono ?_
  rintro _ σ2 ⟨rfl, rfl⟩
  simp only [go_sem, c2.g1, reduceIte, Nat.reduceEqDiff, Nat.reduceAdd, Nat.reduceMul, Nat.reduceSub, Nat.reduceLT, Nat.reduceLeDiff, Int.reduceLE, Int.reduceLT, Int.reduceToNat, Int.reduceEq]
  refine (AT.weak (runify_at r.ho (nmC me) [] (by simp)) (vws_same (vws_same (vws_cons (.nil 4) vws_nil)))).mono ?_
  rintro _ σ2 ⟨rfl, rfl⟩
  have h2 := h.mono c2.sub
  cases hu : uniF r.ho (nmC me) [] with
  | none =>
    have e : docF r me first f l = ([], 0) := by unfold docF; rw [hu]
    rw [e]
    simp only [go_sem, reduceIte, Nat.reduceEqDiff, Nat.reduceAdd, Nat.reduceMul, Nat.reduceSub, Nat.reduceLT, Nat.reduceLeDiff, Int.reduceLE, Int.reduceLT, Int.reduceToNat, Int.reduceEq]
    exact aRet_as (r := .tup []) rfl h2
  | some env =>
    have e : docF r me first f l = frm r.ho (lsF r first f l 0 r.bo.length) env [] ([], 0) := by unfold docF; rw [hu]
    rw [e]
    have hel := uni_len hu
    simp only [List.length_nil] at hel
    simp only [go_sem, c2.g1, reduceIte, Nat.reduceEqDiff, Nat.reduceAdd, Nat.reduceMul, Nat.reduceSub, Nat.reduceLT, Nat.reduceLeDiff, Int.reduceLE, Int.reduceLT, Int.reduceToNat, Int.reduceEq]
    refine (AT.weak (from_at r first f l hr hf hl hls r.bo.length 0 (env := env) (got := []) (by omega) rfl (by omega) (fun y hy => by cases hy) h2 (by simp) (by omega) (fun a ha => by cases ha)) (vws_same (vws_same (vws_same (vws_same (vws_same (vws_same (vws_cons (.nil 4) vws_nil)))))))).mono ?_
    intro _ σ3 h3
    simp only [go_sem, reduceIte, Nat.reduceEqDiff, Nat.reduceAdd, Nat.reduceMul, Nat.reduceSub, Nat.reduceLT, Nat.reduceLeDiff, Int.reduceLE, Int.reduceLT, Int.reduceToNat, Int.reduceEq]
    exact aRet_as (r := .tup []) rfl h3
/-- What a case must be, so that it is gone into. -/
def Small (r : Rl) (f : Fa) (l : List Fa) : Prop := r.S3 ∧ f.Sm ∧ l.length ≤ 1000 ∧ ∀ y ∈ l, y.Sm
theorem found_at (r : Rl) (me : ByteArray) (first : Int) (f : Fa) (l : List Fa) (hr : r.Wf) (hf : f.Wf) (hl : l.length ≤ 140737488351232) (hls : ∀ y ∈ l, y.Wf) : AT Try.prog 13 [.agg (caC r me first f (.sl 4 (faC l)))] σ fun v σ' => σ' = σ ∧ ∃ (o : List (List Fa)) (ok : Bool), v = .tup [.sl 1 (boC o), boo ok] ∧ (ok = true → Small r f l ∧ o = (docF r me first f l).1 ∧ (docF r me first f l).2 ≤ 30000) := by
  refine AT.of_body Try.func13 rfl (by decide) (by kernel_rfl) (by kernel_rfl) (Nat.le_of_ble_eq_true rfl) ?_
  have hone := caC_one r me first f (.sl 4 (faC l)) rfl
  simp only [go_sem, hone, reduceIte, Nat.reduceEqDiff, Nat.reduceAdd, Nat.reduceMul, Nat.reduceSub, Nat.reduceLT, Nat.reduceLeDiff, Int.reduceLE, Int.reduceLT, Int.reduceToNat, Int.reduceEq]
  refine Ctx.nil.alloc fun p σ1 c1 => ?_
  have no : ∀ {fr : Fr}, aResult Try.prog fr σ1 (Try.f13).results.toList = some (.tup [nilS, boo false]) → aRet Try.prog (fun v σ' => σ' = σ ∧ ∃ (o : List (List Fa)) (ok : Bool), v = .tup [.sl 1 (boC o), boo ok] ∧ (ok = true → Small r f l ∧ o = (docF r me first f l).1 ∧ (docF r me first f l).2 ≤ 30000)) (Try.f13).results.toList fr σ1 := fun hr =>
    aRet_view hr (.tup [.sl 1 (boC []), boo false]) σ (ret_nil2 c1.sub _) ⟨rfl, [], false, rfl, fun h => by cases h⟩
  simp only [go_sem, c1.g0, reduceIte, Nat.reduceEqDiff, Nat.reduceAdd, Nat.reduceMul, Nat.reduceSub, Nat.reduceLT, Nat.reduceLeDiff, Int.reduceLE, Int.reduceLT, Int.reduceToNat, Int.reduceEq]
  refine (AT.weak (weight_at [r] 100 (by simp) (fun x hx => by simp at hx; subst hx; exact hr) (by omega) (by omega)) fsl_weak).mono ?_
  rintro _ σ1 ⟨⟨w1, rfl, hw1⟩, rfl⟩
  by_cases g1 : 100 < w1
  · have d := decide_eq_true g1
    simp only [go_sem, d, reduceIte, Nat.reduceEqDiff, Nat.reduceAdd, Nat.reduceMul, Nat.reduceSub, Nat.reduceLT, Nat.reduceLeDiff, Int.reduceLE, Int.reduceLT, Int.reduceToNat, Int.reduceEq]
    exact no rfl
  · have hw1 := hw1 (by omega) r (by simp)
    simp only [go_sem, decide_eq_false g1, c1.g0, reduceIte, Nat.reduceEqDiff, Nat.reduceAdd, Nat.reduceMul, Nat.reduceSub, Nat.reduceLT, Nat.reduceLeDiff, Int.reduceLE, Int.reduceLT, Int.reduceToNat, Int.reduceEq]
    refine (fweight_at l 100 hl hls (by omega) (by omega)).mono ?_
    rintro _ σ1 ⟨⟨w2, rfl, hw2⟩, rfl⟩
    by_cases g2 : 100 < w2
    · have d := decide_eq_true g2
      simp only [go_sem, d, reduceIte, Nat.reduceEqDiff, Nat.reduceAdd, Nat.reduceMul, Nat.reduceSub, Nat.reduceLT, Nat.reduceLeDiff, Int.reduceLE, Int.reduceLT, Int.reduceToNat, Int.reduceEq]
      exact no rfl
    · have hw2 := hw2 (by omega)
      simp only [go_sem, decide_eq_false g2, c1.g0, reduceIte, Nat.reduceEqDiff, Nat.reduceAdd, Nat.reduceMul, Nat.reduceSub, Nat.reduceLT, Nat.reduceLeDiff, Int.reduceLE, Int.reduceLT, Int.reduceToNat, Int.reduceEq]
      refine (AT.weak (fweight_at [f] 100 (by simp) (fun x hx => by simp at hx; subst hx; exact hf) (by omega) (by omega)) fsl_weak).mono ?_
      rintro _ σ1 ⟨⟨w3, rfl, hw3⟩, rfl⟩
      by_cases g3 : 100 < w3
      · have d := decide_eq_true g3
        simp only [go_sem, d, reduceIte, Nat.reduceEqDiff, Nat.reduceAdd, Nat.reduceMul, Nat.reduceSub, Nat.reduceLT, Nat.reduceLeDiff, Int.reduceLE, Int.reduceLT, Int.reduceToNat, Int.reduceEq]
        exact no rfl
      · have hw3 := (hw3 (by omega)).2 f (by simp)
        have hS : Small r f l := ⟨⟨by have := hw1.2.1; omega, fun y hy => by have := hw1.2.2 y hy; omega⟩, by unfold Fa.Sm; omega, by omega, fun y hy => by have := hw2.2 y hy; unfold Fa.Sm; omega⟩
        simp only [go_sem, decide_eq_false g3, reduceIte, Nat.reduceEqDiff, Nat.reduceAdd, Nat.reduceMul, Nat.reduceSub, Nat.reduceLT, Nat.reduceLeDiff, Int.reduceLE, Int.reduceLT, Int.reduceToNat, Int.reduceEq]
        refine c1.alloc fun t24 σ2 c2 => ?_
        have hF : FI σ σ2 t24 [] 0 := ⟨nilS, by rw [c2.g0]; rfl, .none, fun y o hy => ⟨c2.sub _ _ hy, fun e => (by have := c2.f0; rw [← e, hy] at this; cases this), own_no_nil⟩⟩
        simp only [go_sem, c2.g1, reduceIte, Nat.reduceEqDiff, Nat.reduceAdd, Nat.reduceMul, Nat.reduceSub, Nat.reduceLT, Nat.reduceLeDiff, Int.reduceLE, Int.reduceLT, Int.reduceToNat, Int.reduceEq]
        refine (rbodies_at r me first f l hS.1 hS.2.1 (by have := hS.2.2.1; omega) hS.2.2.2 hF).mono ?_
        rintro _ σ3 ⟨lv, k1, k2, k3⟩
        simp only [go_sem, reduceIte, Nat.reduceEqDiff, Nat.reduceAdd, Nat.reduceMul, Nat.reduceSub, Nat.reduceLT, Nat.reduceLeDiff, Int.reduceLE, Int.reduceLT, Int.reduceToNat, Int.reduceEq]
        refine aDraw_plan [.rd 0 false, .rd 1 false, .rd 2 false, .rd 3 true, .rd 4 false, .rd 5 false, .rd 6 false, .rd 7 true, .rd 8 false, .rd 9 false, .rd 10 false] (by kernel_rfl) (by kernel_rfl) (by kernel_rfl) ?_
        simp only [go_sem, k1, reduceIte, Nat.reduceEqDiff, Nat.reduceAdd, Nat.reduceMul, Nat.reduceSub, Nat.reduceLT, Nat.reduceLeDiff, Int.reduceLE, Int.reduceLT, Int.reduceToNat, Int.reduceEq]
        refine aRet_view (r := .tup [lv, boo (!decide (30000 < (docF r me first f l).2))]) rfl (.tup [.sl 1 (boC (docF r me first f l).1), boo (!decide (30000 < (docF r me first f l).2))]) σ (ret_sl2 k2 (fun y o hy => ⟨(k3 y o hy).1, (k3 y o hy).2.2⟩) _) ⟨rfl, _, _, rfl, fun h => ⟨hS, rfl, ?_⟩⟩
        simp at h
        omega
theorem lbodies_at (r : Rl) (me : ByteArray) (first : Int) (f : Fa) (l : List Fa) (hS : Small r f l) (hn : (fndP r me first f l).length ≤ 1000000) : AT Try.prog 15 [.agg (caC r me first f (.sl 4 (faC l)))] σ fun v σ' => PB σ σ' v (bodF r me first f l) := by
  refine AT.of_body Try.func15 rfl (by decide) (by kernel_rfl) (by kernel_rfl) (Nat.le_of_ble_eq_true rfl) ?_
  have hone := caC_one r me first f (.sl 4 (faC l)) rfl
  simp only [go_sem, hone, reduceIte, Nat.reduceEqDiff, Nat.reduceAdd, Nat.reduceMul, Nat.reduceSub, Nat.reduceLT, Nat.reduceLeDiff, Int.reduceLE, Int.reduceLT, Int.reduceToNat, Int.reduceEq]
  refine Ctx.nil.alloc fun p σ1 c1 => ?_
  simp only [go_sem, c1.g0, reduceIte, Nat.reduceEqDiff, Nat.reduceAdd, Nat.reduceMul, Nat.reduceSub, Nat.reduceLT, Nat.reduceLeDiff, Int.reduceLE, Int.reduceLT, Int.reduceToNat, Int.reduceEq]
  refine (bodies_at r me first f l hS.1 hS.2.1 (by have := hS.2.2.1; omega) hS.2.2.2 hn).mono ?_
  rintro v σ2 ⟨h1, h2, es, h3, h4, h5⟩
  simp only [go_sem, reduceIte, Nat.reduceEqDiff, Nat.reduceAdd, Nat.reduceMul, Nat.reduceSub, Nat.reduceLT, Nat.reduceLeDiff, Int.reduceLE, Int.reduceLT, Int.reduceToNat, Int.reduceEq]
  refine aRet_as (r := v) rfl ⟨fun y o hy => h1 _ _ (c1.sub _ _ hy), fun y hy => none_of_sub c1.sub (h2 y hy), es, h3, h4, fun i hi => ?_⟩
  obtain ⟨w, k1, k2⟩ := h5 i hi
  refine ⟨w, k1, ?_⟩
  rcases k2 with k2 | ⟨c, cap, e1, e2, e3, es', e4, e5, e6⟩
  · exact .inl k2
  · refine .inr ⟨c, cap, e1, e2, none_of_sub c1.sub e3, es', e4, e5, fun j hj => ?_⟩
    obtain ⟨a, a1, a2 | a2⟩ := e6 j hj
    · exact ⟨a, a1, .inl a2⟩
    · exact ⟨a, a1, .inr ⟨a2.1, fun y hy => none_of_sub c1.sub (a2.2 y hy)⟩⟩
/-- The same, the bodies seen as lists. -/
theorem wbodies_at (r : Rl) (me : ByteArray) (first : Int) (f : Fa) (l : List Fa) (hS : Small r f l) (hn : (fndP r me first f l).length ≤ 1000000) : AT Try.prog 15 [.agg (caC r me first f (.sl 4 (faC l)))] σ fun v σ' => v = .sl 1 (boC (bodF r me first f l)) ∧ σ' = σ :=
  (lbodies_at r me first f l hS hn).post (by kernel_rfl) fun v σ' h => ⟨_, _, h.view, rfl, rfl⟩
end
end Go.Proofs.Ythdfpankebjleaa

/-
  A statement's arguments, as cases, facts, rules.
  Conditions: none.
-/
namespace Go.Proofs.Ythdfpankebjleaa
open Go Go.Av

theorem cn_of {n : Nat} {cs : List AV} (h : Ty Try.prog (n + 3) 23 cs) : ∃ c : Cn, cs = c.cs ∧ c.Wf := by
  have hx := ty_st Try.underlying23 h
  obtain ⟨x1, y1, rfl, h1, x2, y2, rfl, h2, x3, y3, rfl, h3, rfl⟩ := hx
  obtain ⟨b, rfl⟩ := ty_bool Try.underlying4 h1
  obtain ⟨k, rfl, _⟩ := ty_int Try.underlying3 h2
  obtain ⟨s, rfl, hs⟩ := ty_str Try.underlying9 h3
  exact ⟨⟨b, k, s⟩, rfl, hs⟩
theorem cns_of {n : Nat} : ∀ (es : List (List AV)), (∀ x ∈ es, Ty Try.prog (n + 3) 23 x) → ∃ l : List Cn, es = cnC l ∧ ∀ c ∈ l, c.Wf
  | [], _ => ⟨[], rfl, fun x hx => by cases hx⟩
  | x :: es, h => by
    obtain ⟨l, rfl, hl⟩ := cns_of es fun y hy => h y (by simp [hy])
    obtain ⟨t, rfl, ht⟩ := cn_of (h x (by simp))
    exact ⟨t :: l, rfl, fun y hy => by rcases List.mem_cons.1 hy with rfl | hy; exact ht; exact hl y hy⟩
theorem fa_of {n : Nat} {cs : List AV} (h : Ty Try.prog (n + 5) 40 cs) : ∃ f : Fa, cs = f.cs ∧ f.Wf := by
  have hx := ty_st Try.underlying40 h
  obtain ⟨x1, y1, rfl, h1, x2, y2, rfl, h2, x3, y3, rfl, h3, x4, y4, rfl, h4, rfl⟩ := hx
  obtain ⟨a, rfl, ha⟩ := ty_str Try.underlying9 h1
  obtain ⟨b, rfl, hb⟩ := ty_str Try.underlying9 h2
  obtain ⟨p, rfl, hp⟩ := ty_str Try.underlying9 h3
  obtain ⟨es, rfl, hl, he⟩ := ty_sl Try.underlying38 h4
  obtain ⟨ts, rfl, hts⟩ := cns_of es he
  have e1 : Try.prog.cellsOf 23 = 3 := by kernel_rfl
  have e2 : Try.prog.bytesOf 23 = 32 := by kernel_rfl
  rw [e1]
  rw [e2, cnC_len] at hl
  exact ⟨⟨a, b, p, ts⟩, rfl, by show ts.length ≤ _; omega, ha, hb, hp, hts⟩
theorem fas_of {n : Nat} : ∀ (es : List (List AV)), (∀ x ∈ es, Ty Try.prog (n + 5) 40 x) → ∃ l : List Fa, es = faC l ∧ ∀ x ∈ l, x.Wf
  | [], _ => ⟨[], rfl, fun x hx => by cases hx⟩
  | x :: es, h => by
    obtain ⟨l, rfl, hl⟩ := fas_of es fun y hy => h y (by simp [hy])
    obtain ⟨t, rfl, ht⟩ := fa_of (h x (by simp))
    exact ⟨t :: l, rfl, fun y hy => by rcases List.mem_cons.1 hy with rfl | hy; exact ht; exact hl y hy⟩
theorem fal_of {n : Nat} {cs : List AV} (h : Ty Try.prog (n + 6) 41 cs) : ∃ l : List Fa, cs = [.sl 4 (faC l)] ∧ l.length * 72 ≤ 140737488351232 ∧ ∀ x ∈ l, x.Wf := by
  obtain ⟨es, rfl, hl, he⟩ := ty_sl Try.underlying41 h
  obtain ⟨ts, rfl, hts⟩ := fas_of es he
  have e1 : Try.prog.cellsOf 40 = 4 := by kernel_rfl
  have e2 : Try.prog.bytesOf 40 = 72 := by kernel_rfl
  rw [e1]
  rw [e2, faC_len] at hl
  exact ⟨ts, rfl, by omega, hts⟩
theorem ca_of {cs : List AV} (h : Ty Try.prog 8 43 cs) : ∃ (r : Rl) (me : ByteArray) (first : Int) (f : Fa) (l : List Fa), cs = caC r me first f (.sl 4 (faC l)) ∧ r.Wf ∧ f.Wf ∧ l.length * 72 ≤ 140737488351232 ∧ ∀ y ∈ l, y.Wf := by
  have hx := ty_st (n := 7) Try.underlying43 h
  obtain ⟨x1, y1, rfl, h1, x2, y2, rfl, h2, x3, y3, rfl, h3, x4, y4, rfl, h4, x5, y5, rfl, h5, rfl⟩ := hx
  obtain ⟨r, rfl, hr⟩ := rl_of (n := 0) h1
  obtain ⟨me, rfl, _⟩ := ty_str Try.underlying9 h2
  obtain ⟨k, rfl, _⟩ := ty_int Try.underlying3 h3
  obtain ⟨f, rfl, hf⟩ := fa_of (n := 2) h4
  obtain ⟨l, rfl, hl, hls⟩ := fal_of (n := 1) h5
  exact ⟨r, me, k, f, l, rfl, hr, hf, hl, hls⟩
end Go.Proofs.Ythdfpankebjleaa

/-
  The law PlanBodies: its walk.
  Conditions: none.
-/
namespace Go.Proofs.Ythdfpankebjleaa
open Go Go.Av

theorem frm_smB {r : Rl} {me : ByteArray} {first : Int} {f : Fa} {l : List Fa} (hS : Small r f l) : ∀ b ∈ (docF r me first f l).1, SmB b := by
  unfold docF
  split
  · refine frm_sm r.ho _ _ [] ([], 0) (fun a ha => by cases ha) (fun y hy => by cases hy) (fun p hp y hy => ?_) (by have := hS.1.1; simp [lsF]; omega)
    unfold lsF at hp
    obtain ⟨j, _, rfl⟩ := List.mem_map.1 hp
    simp only at hy
    unfold candF at hy
    split at hy
    · rw [List.mem_singleton.1 hy]; exact hS.2.1
    · exact hS.2.2.2 y hy
  · intro b hb; cases hb
theorem doc_len {r : Rl} {me : ByteArray} {first : Int} {f : Fa} {l : List Fa} : (docF r me first f l).1.length ≤ 30002 := by
  unfold docF
  split
  · have := frm_bd r.ho (lsF r first f l 0 r.bo.length) ‹_› [] ([], 0) (by simp) (by simp)
    omega
  · simp
theorem planBodies_at (r : Rl) (me : ByteArray) (first : Int) (f : Fa) (l : List Fa) (hr : r.Wf) (hf : f.Wf) (hl : l.length ≤ 140737488351232) (hls : ∀ y ∈ l, y.Wf) {σ : St} : AT Try.prog 5 [.agg (caC r me first f (.sl 4 (faC l)))] σ fun v σ' => v = boo true := by
  refine AT.of_body Try.func5 rfl (by decide) (by kernel_rfl) (by kernel_rfl) (Nat.le_of_ble_eq_true rfl) ?_
  have hone := caC_one r me first f (.sl 4 (faC l)) rfl
  simp only [go_sem, hone, reduceIte, Nat.reduceEqDiff, Nat.reduceAdd, Nat.reduceMul, Nat.reduceSub, Nat.reduceLT, Nat.reduceLeDiff, Int.reduceLE, Int.reduceLT, Int.reduceToNat, Int.reduceEq]
  refine Ctx.nil.alloc fun p σ1 c1 => ?_
  simp only [go_sem, c1.g0, reduceIte, Nat.reduceEqDiff, Nat.reduceAdd, Nat.reduceMul, Nat.reduceSub, Nat.reduceLT, Nat.reduceLeDiff, Int.reduceLE, Int.reduceLT, Int.reduceToNat, Int.reduceEq]
  refine (found_at r me first f l hr hf hl hls).mono ?_
  rintro _ σ1 ⟨rfl, o, ok, rfl, hok⟩
  cases ok with
  | false =>
    simp only [go_sem, reduceIte, Nat.reduceEqDiff, Nat.reduceAdd, Nat.reduceMul, Nat.reduceSub, Nat.reduceLT, Nat.reduceLeDiff, Int.reduceLE, Int.reduceLT, Int.reduceToNat, Int.reduceEq]
    refine live_at.mono ?_
    rintro _ σ2 ⟨rfl, rfl⟩
    simp only [go_sem, reduceIte, Nat.reduceEqDiff, Nat.reduceAdd, Nat.reduceMul, Nat.reduceSub, Nat.reduceLT, Nat.reduceLeDiff, Int.reduceLE, Int.reduceLT, Int.reduceToNat, Int.reduceEq]
    exact aRet_as (r := boo true) rfl rfl
  | true =>
    obtain ⟨hS, rfl, hd⟩ := hok rfl
    obtain ⟨hb, hn⟩ := doc_bod hd
    have hsb : ∀ b ∈ bodF r me first f l, SmB b := by rw [← hb]; exact frm_smB hS
    have hlb : (bodF r me first f l).length ≤ 30002 := by rw [← hb]; exact doc_len
    rw [hb]
    simp only [go_sem, c1.g0, reduceIte, Nat.reduceEqDiff, Nat.reduceAdd, Nat.reduceMul, Nat.reduceSub, Nat.reduceLT, Nat.reduceLeDiff, Int.reduceLE, Int.reduceLT, Int.reduceToNat, Int.reduceEq]
    refine (copy_at l (by have := hS.2.2.1; omega) hS.2.2.2).mono ?_
    rintro _ σ1 ⟨rfl, rfl⟩
    simp only [go_sem, c1.g0, reduceIte, Nat.reduceEqDiff, Nat.reduceAdd, Nat.reduceMul, Nat.reduceSub, Nat.reduceLT, Nat.reduceLeDiff, Int.reduceLE, Int.reduceLT, Int.reduceToNat, Int.reduceEq]
    refine c1.alloc fun q σ2 c2 => ?_
    obtain ⟨σ3, e3, c3⟩ := c2.abs 0 rfl (.cells (caC r me first f (.sl 4 (faC l))))
    obtain ⟨σ4, e4, c4⟩ := c3.abs 0 rfl (.cells (caC r me first f (.sl 4 (faC l))))
    simp only [go_sem, c2.g1, e3, c3.g1, e4, c4.g1, hone, reduceIte, Nat.reduceEqDiff, Nat.reduceAdd, Nat.reduceMul, Nat.reduceSub, Nat.reduceLT, Nat.reduceLeDiff, Int.reduceLE, Int.reduceLT, Int.reduceToNat, Int.reduceEq]
    refine (lbodies_at r me first f l hS (by omega)).mono ?_
    rintro v σ5 hPB
    simp only [go_sem, reduceIte, Nat.reduceEqDiff, Nat.reduceAdd, Nat.reduceMul, Nat.reduceSub, Nat.reduceLT, Nat.reduceLeDiff, Int.reduceLE, Int.reduceLT, Int.reduceToNat, Int.reduceEq]
    refine (likeB_at hPB.read (by omega) hsb (by omega) hsb).mono ?_
    rintro _ σ5 ⟨rfl, rfl⟩
    have dt : decide (bodF r me first f l = bodF r me first f l) = true := decide_eq_true rfl
    have hp5 := hPB.1 _ _ c4.g1.1.2
    obtain ⟨h1, h2, es, h3, h4, h5⟩ := hPB
    simp only [go_sem, r_block, dt, reduceIte, Nat.reduceEqDiff, Nat.reduceAdd, Nat.reduceMul, Nat.reduceSub, Nat.reduceLT, Nat.reduceLeDiff, Int.reduceLE, Int.reduceLT, Int.reduceToNat, Int.reduceEq]
    refine ⟨fun m fr σ' => ∃ i : Nat, m = es.length - i ∧ i ≤ es.length ∧ Sh σ5 σ' ∧ fr 1 = ptr p ∧ fr 5 = .sl 4 (faC l) ∧ fr 7 = v ∧ fr 8 = int i, ⟨_, 0, rfl, by omega, .refl σ5, rfl, rfl, rfl, rfl⟩, ?_⟩
    rintro m fr σ6 ⟨i, rfl, hi, hs, f1, f5, f7, f8⟩
    have h3' : Ow 1 σ6 v es := h3.keep fun x o hx ho => by
      rcases hs x o hx with h | ⟨es1, es2, cap, rfl, _⟩
      · exact h
      · obtain ⟨c, hc⟩ := h3.lat.own_rows ho
        rw [hc] at hx; cases hx
    simp only [go_sem, f7, f8, h3'.lat.len, reduceIte, Nat.reduceEqDiff, Nat.reduceAdd, Nat.reduceMul, Nat.reduceSub, Nat.reduceLT, Nat.reduceLeDiff, Int.reduceLE, Int.reduceLT, Int.reduceToNat, Int.reduceEq]
    refine aIf_by (fun hlt => ?_) (fun hlt => ?_)
    · obtain ⟨w, k1, k2⟩ := h5 i (by omega)
      have hbs := (k2.bs (hsb _ (List.getElem_mem (by omega)))).sh hs
      simp only [go_sem, r_block, f7, f8, reduceIte, Nat.reduceEqDiff, Nat.reduceAdd, Nat.reduceMul, Nat.reduceSub, Nat.reduceLT, Nat.reduceLeDiff, Int.reduceLE, Int.reduceLT, Int.reduceToNat, Int.reduceEq]
      refine h3'.lat.elem (by omega) (by omega) fun e he => ?_
      simp only [go_sem, r_block, reduceIte, Nat.reduceEqDiff, Nat.reduceAdd, Nat.reduceMul, Nat.reduceSub, Nat.reduceLT, Nat.reduceLeDiff, Int.reduceLE, Int.reduceLT, Int.reduceToNat, Int.reduceEq]
      refine he.load1 (by decide) (by rw [Int.toNat_natCast, k1]; exact Nat.le_refl 1) ?_
      simp only [go_sem, r_block, k1, reduceIte, Nat.reduceEqDiff, Nat.reduceAdd, Nat.reduceMul, Nat.reduceSub, Nat.reduceLT, Nat.reduceLeDiff, Int.reduceLE, Int.reduceLT, Int.reduceToNat, Int.reduceEq]
      refine (spoil_at hbs (hsb _ (List.getElem_mem (by omega))).1).mono ?_
      intro _ σ7 hs7
      have hs' := hs.trans hs7
      simp only [go_sem, r_block, f1, f5, f7, f8, next64 (show i < 9223372036854775807 by omega), reduceIte, Nat.reduceEqDiff, Nat.reduceAdd, Nat.reduceMul, Nat.reduceSub, Nat.reduceLT, Nat.reduceLeDiff, Int.reduceLE, Int.reduceLT, Int.reduceToNat, Int.reduceEq]
      refine ⟨es.length - (i + 1), by omega, i + 1, ?_⟩
      and_intros <;> first | assumption | rfl | omega
    · have hp6 : σ6 p = some (.cells (caC r me first f (.sl 4 (faC l)))) := by
        rcases hs _ _ hp5 with h | ⟨es1, es2, cap, e, _⟩
        · exact h
        · cases e
      simp only [go_sem, r_block, f1, f5, hp6, reduceIte, Nat.reduceEqDiff, Nat.reduceAdd, Nat.reduceMul, Nat.reduceSub, Nat.reduceLT, Nat.reduceLeDiff, Int.reduceLE, Int.reduceLT, Int.reduceToNat, Int.reduceEq]
      have dl : decide (l = l) = true := decide_eq_true rfl
      have hl1 := hS.2.2.1
      refine (likeF_at (a := l) (b := l) .sl .sl (by omega) hS.2.2.2 (by omega) hS.2.2.2).mono ?_
      rintro _ σ6 ⟨rfl, rfl⟩
      simp only [go_sem, r_block, dl, reduceIte, Nat.reduceEqDiff, Nat.reduceAdd, Nat.reduceMul, Nat.reduceSub, Nat.reduceLT, Nat.reduceLeDiff, Int.reduceLE, Int.reduceLT, Int.reduceToNat, Int.reduceEq]
      refine live_at.mono ?_
      rintro _ σ7 ⟨rfl, rfl⟩
      simp only [go_sem, r_block, reduceIte, Nat.reduceEqDiff, Nat.reduceAdd, Nat.reduceMul, Nat.reduceSub, Nat.reduceLT, Nat.reduceLeDiff, Int.reduceLE, Int.reduceLT, Int.reduceToNat, Int.reduceEq]
      exact aRet_as (r := boo true) rfl rfl
end Go.Proofs.Ythdfpankebjleaa

/-
  Which bodies are found: by what each place may hold.
  Conditions: none.
-/
namespace Go.Proofs.Ythdfpankebjleaa
open Go Go.Av

/-- Literals held against facts, one by one. -/
def chkF (ho : Tm) : List Li → List Fa → List Bi → Option (List Bi)
  | [], [], e => some e
  | l :: ls, x :: xs, e => (litF ho l x e).bind (chkF ho ls xs)
  | _, _, _ => none
theorem chk_len {ho : Tm} : ∀ {ls : List Li} {xs : List Fa} {e e' : List Bi}, chkF ho ls xs e = some e' → xs.length = ls.length
  | [], [], _, _, _ => rfl
  | l :: ls, x :: xs, e, e', h => by
    obtain ⟨m, _, h2⟩ := Option.bind_eq_some_iff.1 h
    rw [List.length_cons, List.length_cons, chk_len h2]
  | [], _ :: _, _, _, h => by cases h
  | _ :: _, [], _, _, h => by cases h
theorem mem_lv {ho : Tm} {b : List Fa} : ∀ {ls : List (Li × List Fa)} {env : List Bi} {got : List Fa}, b ∈ lvF ho ls env got ↔ ∃ t, b = got ++ t ∧ (chkF ho (ls.map Prod.fst) t env).isSome = true ∧ ∀ i (h1 : i < ls.length) (h2 : i < t.length), t[i] ∈ ls[i].2
  | [], env, got => by
    simp only [lvF, List.mem_singleton, List.map_nil]
    constructor
    · rintro rfl
      exact ⟨[], by simp, rfl, fun i h1 => by simp at h1⟩
    · rintro ⟨t, rfl, h, _⟩
      cases t with
      | nil => simp
      | cons x t => simp [chkF] at h
  | p :: ls, env, got => by
    simp only [lvF, List.mem_flatMap, List.map_cons]
    constructor
    · rintro ⟨x, hx, h⟩
      cases hl : litF ho p.1 x env with
      | none => rw [hl] at h; cases h
      | some e =>
        rw [hl] at h
        obtain ⟨t, rfl, h1, h2⟩ := mem_lv.1 h
        refine ⟨x :: t, by simp, ?_, fun i k1 k2 => ?_⟩
        · show ((litF ho p.1 x env).bind _).isSome = true
          rw [hl]; exact h1
        · cases i with
          | zero => exact hx
          | succ i => exact h2 i (by simpa using k1) (by simpa using k2)
    · rintro ⟨t, rfl, h, h2⟩
      cases t with
      | nil => simp [chkF] at h
      | cons x t =>
        have h : ((litF ho p.1 x env).bind (chkF ho (ls.map Prod.fst) t)).isSome = true := h
        cases hl : litF ho p.1 x env with
        | none => rw [hl] at h; cases h
        | some e =>
          rw [hl] at h
          refine ⟨x, h2 0 (by simp) (by simp), ?_⟩
          rw [hl]
          exact mem_lv.2 ⟨t, by simp, h, fun i k1 k2 => h2 (i + 1) (by simpa using k1) (by simpa using k2)⟩
theorem ls_fst (r : Rl) (first : Int) (f : Fa) (l : List Fa) : (lsF r first f l 0 r.bo.length).map Prod.fst = r.bo := by
  unfold lsF
  rw [List.map_map]
  refine List.ext_getElem (by simp) fun i h1 h2 => ?_
  simp [List.getD_eq_getElem?_getD, h2]
theorem mem_each {r : Rl} {first : Int} {f : Fa} {l : List Fa} {env : List Bi} {b : List Fa} : b ∈ eachF r.ho r.bo (candF first f l) (ordR r first) env (List.replicate r.bo.length .zero) ↔ (chkF r.ho r.bo b env).isSome = true ∧ ∀ i (h : i < b.length), b[i] ∈ candF first f l i := by
  rw [(each_perm (ordR_perm r first) (ordR_nodup r first) env _).mem_iff, each_lv r.ho r.bo _ r.bo.length 0 env _ (by simp), List.take_zero]
  have e2 : lvF r.ho ((List.range' 0 r.bo.length).map fun i => (r.bo.getD i .zero, candF first f l i)) env [] = lvF r.ho (lsF r first f l 0 r.bo.length) env [] := rfl
  rw [e2, mem_lv, ls_fst]
  have hl : (lsF r first f l 0 r.bo.length).length = r.bo.length := by simp [lsF]
  have hg : ∀ i (h : i < (lsF r first f l 0 r.bo.length).length), (lsF r first f l 0 r.bo.length)[i].2 = candF first f l i := fun i h => by simp [lsF]
  constructor
  · rintro ⟨t, rfl, h1, h2⟩
    obtain ⟨e', he⟩ := Option.isSome_iff_exists.1 h1
    have := chk_len he
    exact ⟨h1, fun i h => by
      have h3 := h2 i (by rw [hl]; omega) h
      rw [hg] at h3; exact h3⟩
  · rintro ⟨h1, h2⟩
    exact ⟨b, rfl, h1, fun i k1 k2 => by rw [hg]; exact h2 i k2⟩
theorem mem_bod {r : Rl} {me : ByteArray} {first : Int} {f : Fa} {l : List Fa} {b : List Fa} : b ∈ bodF r me first f l ↔ ∃ env, uniF r.ho (nmC me) [] = some env ∧ (chkF r.ho r.bo b env).isSome = true ∧ ∀ i (h : i < b.length), b[i] ∈ candF first f l i := by
  unfold bodF fndP
  rw [insS_mem cmpB_ord]
  cases hu : uniF r.ho (nmC me) [] with
  | none => simp
  | some env => simp only [mem_each, List.not_mem_nil, or_false, Option.some.injEq, exists_eq_left']
theorem bod_rises (r : Rl) (me : ByteArray) (first : Int) (f : Fa) (l : List Fa) : Rises cmpB (bodF r me first f l) := insS_rises cmpB_ord .nil
theorem bod_len {r : Rl} {me : ByteArray} {first : Int} {f : Fa} {l : List Fa} {b : List Fa} (h : b ∈ bodF r me first f l) : b.length = r.bo.length := by
  obtain ⟨env, _, h2, _⟩ := mem_bod.1 h
  obtain ⟨e, he⟩ := Option.isSome_iff_exists.1 h2
  exact chk_len he
/-- Less to choose from: no more is found. -/
theorem fnd_mono {r : Rl} {me : ByteArray} {first first' : Int} {f f' : Fa} {l l' : List Fa} (h : ∀ k, (candF first f l k).Sublist (candF first' f' l' k)) : (fndP r me first f l).length ≤ (fndP r me first' f' l').length := by
  unfold fndP
  cases hu : uniF r.ho (nmC me) [] with
  | none => exact Nat.le_refl _
  | some env =>
    simp only
    rw [(each_perm (ordR_perm r first) (ordR_nodup r first) env _).length_eq, (each_perm (ordR_perm r first') (ordR_nodup r first') env _).length_eq]
    exact (each_sub h _ _ _).length_le
theorem rises_len {α : Type} {c : α → α → Int} (h : Ord3 c) : ∀ {k l : List α}, Rises c l → Rises c k → (∀ y, y ∈ l → y ∈ k) → l.length ≤ k.length
  | k, [], _, _, _ => by simp
  | [], x :: l, _, _, hs => by have := hs x (by simp); cases this
  | y :: k, x :: l, hl, hk, hs => by
    obtain ⟨h1, h2⟩ := List.pairwise_cons.1 hl
    obtain ⟨k1, k2⟩ := List.pairwise_cons.1 hk
    have irr : ∀ z, ¬ c z z < 0 := fun z hz => by rw [h.self] at hz; omega
    have : l.length ≤ k.length := by
      refine rises_len h h2 k2 fun z hz => ?_
      rcases List.mem_cons.1 (hs z (by simp [hz])) with e | hz'
      · exfalso
        subst e
        have hx := h1 z hz
        rcases List.mem_cons.1 (hs x (by simp)) with e | hx'
        · subst e; exact irr _ hx
        · exact irr _ (h.trans _ _ _ hx (k1 x hx'))
      · exact hz'
    simp only [List.length_cons]
    omega
/-! ### With a fact more -/
section
variable {r : Rl} {me : ByteArray} {f : Fa} {l : List Fa}
theorem cand_neg (k : Nat) : candF (-1) f l k = l := by unfold candF; rw [if_neg (by omega)]
theorem more_mem {b : List Fa} : b ∈ bodF r me (-1) f l ↔ b ∈ bodF r me (-1) f (l ++ [f]) ∧ (f ∉ b ∨ f ∈ l) := by
  rw [mem_bod, mem_bod]
  constructor
  · rintro ⟨env, h1, h2, h3⟩
    refine ⟨⟨env, h1, h2, fun i h => ?_⟩, ?_⟩
    · have := h3 i h
      rw [cand_neg] at this ⊢
      exact List.mem_append_left _ this
    · by_cases hf : f ∈ b
      · obtain ⟨i, hi, e⟩ := List.mem_iff_getElem.1 hf
        have := h3 i hi
        rw [cand_neg, e] at this
        exact .inr this
      · exact .inl hf
  · rintro ⟨⟨env, h1, h2, h3⟩, h4⟩
    refine ⟨env, h1, h2, fun i h => ?_⟩
    have := h3 i h
    rw [cand_neg] at this ⊢
    rcases List.mem_append.1 this with h5 | h5
    · exact h5
    · rw [List.mem_singleton] at h5
      rcases h4 with h4 | h4
      · exact absurd (h5 ▸ List.getElem_mem h) h4
      · rw [h5]; exact h4
theorem more_len : (bodF r me (-1) f l).length ≤ (bodF r me (-1) f (l ++ [f])).length := rises_len cmpB_ord (bod_rises _ _ _ _ _) (bod_rises _ _ _ _ _) fun y hy => (more_mem.1 hy).1
theorem more_with {b : List Fa} {k : Nat} (hb : b ∈ bodF r me (-1) f (l ++ [f])) (hk : k < b.length) (e : b[k] = f) : b ∈ bodF r me (k : Int) f (l ++ [f]) := by
  obtain ⟨env, h1, h2, h3⟩ := mem_bod.1 hb
  refine mem_bod.2 ⟨env, h1, h2, fun i h => ?_⟩
  unfold candF
  by_cases hi : i = k
  · subst hi; rw [if_pos rfl, e]; simp
  · rw [if_neg (by omega)]
    have := h3 i h
    rwa [cand_neg] at this
theorem more_fnd : (fndP r me (-1) f l).length ≤ (fndP r me (-1) f (l ++ [f])).length := fnd_mono fun k => by
  rw [cand_neg, cand_neg]; exact List.sublist_append_left _ _
theorem more_fndk (k : Int) : (fndP r me k f (l ++ [f])).length ≤ (fndP r me (-1) f (l ++ [f])).length := fnd_mono fun i => by
  rw [cand_neg]
  unfold candF
  split
  · exact List.sublist_append_right _ _
  · exact .refl _
end
end Go.Proofs.Ythdfpankebjleaa

/-
  The law PlanMore: its walk.
  Conditions: none.
-/
namespace Go.Proofs.Ythdfpankebjleaa
open Go Go.Av

theorem take_mem {α : Type} {l : List α} {x : α} {i : Nat} (h : i < l.length) [Decidable (x ∈ l.take (i + 1))] [Decidable (x ∈ l.take i)] [Decidable (l[i] = x)] : decide (x ∈ l.take (i + 1)) = (decide (x ∈ l.take i) || decide (l[i] = x)) := by
  have e : x ∈ l.take (i + 1) ↔ x ∈ l.take i ∨ l[i] = x := by
    rw [List.take_add_one, List.getElem?_eq_getElem h]
    simp only [Option.toList, List.mem_append, List.mem_singleton]
    exact ⟨fun h => h.imp _root_.id Eq.symm, fun h => h.imp _root_.id Eq.symm⟩
  by_cases h1 : x ∈ l.take i
  · rw [decide_eq_true h1, decide_eq_true (e.2 (.inl h1)), Bool.true_or]
  · rw [decide_eq_false h1, Bool.false_or]
    exact decide_eq_decide.2 (e.trans ⟨fun h => h.resolve_left h1, .inr⟩)
theorem small_less {r : Rl} {f : Fa} {l : List Fa} (h : Small r f (l ++ [f])) : Small r f l := ⟨h.1, h.2.1, by have := h.2.2.1; simp at this; omega, fun y hy => h.2.2.2 y (List.mem_append_left _ hy)⟩
theorem caC_vws {σ σ' : St} {r : Rl} {me : ByteArray} {k : Int} {f : Fa} {lv lw : AV} (h : VW σ σ' lv lw) : VWs σ σ' (caC r me k f lv) (caC r me k f lw) := by
  unfold caC Rl.cs Fa.cs
  simp only [List.cons_append, List.nil_append]
  repeat' first | exact vws_cons h vws_nil | refine vws_same ?_
/-- A case's row is let go. -/
theorem case_let {σ σ7 : St} {q p : Nat} {r : Rl} {me : ByteArray} {k : Int} {f : Fa} {lw : AV} {l : List Fa} {o : AObj} (c : Ctx σ [(q, .cells (caC r me k f lw)), (p, o)] σ7) (h : LAt 4 σ7 lw (faC l)) (hs : ∀ y x, σ y = some x → ¬ Own lw y) (hp : ¬ Own lw p) :
    ∃ σ8, SV σ7 σ8 ∧ VW σ7 σ8 (.agg (caC r me k f lw)) (.agg (caC r me k f (.sl 4 (faC l)))) ∧ Ctx σ [(q, .cells (caC r me k f (.sl 4 (faC l)))), (p, o)] σ8 := by
  have hq : ¬ Own lw q := h.not_own c.g1.1.1
  have hv : VW σ7 ((St.free σ7 lw).set q (.cells (caC r me k f (.sl 4 (faC l))))) lw (.sl 4 (faC l)) := h.vw_same fun x hx => by
    rw [set_ne fun e => by subst e; exact hq hx]; exact free_own hx
  refine ⟨_, sv_set c.g1.1.1 (show OW _ _ (.cells _) (.cells _) from caC_vws hv) fun x o' hne hx => ?_, .agg _ _ rfl (caC_vws hv).2, ⟨fun y x hy => ?_, fun pr hpr => ?_, fun pr hpr => ?_, c.nod⟩⟩
  · by_cases ho : Own lw x
    · rw [free_own ho] at hx; cases hx
    · rwa [free_ne ho] at hx
  · rw [set_ne fun e => (by have := c.f0; rw [← e, hy] at this; cases this), free_ne (hs y x hy)]
    exact c.sub y x hy
  · rcases List.mem_cons.1 hpr with rfl | hpr
    · exact c.f0
    · rw [List.mem_singleton.1 hpr]; exact c.f1
  · rcases List.mem_cons.1 hpr with rfl | hpr
    · exact set_same
    · rw [List.mem_singleton.1 hpr]
      show ((St.free σ7 lw).set q _) p = some o
      rw [set_ne c.g1.2.2, free_ne hp]
      exact c.g1.1.2
theorem planMore_at (r : Rl) (me : ByteArray) (first : Int) (f : Fa) (l : List Fa) (hr : r.Wf) (hf : f.Wf) (hl : l.length * 72 ≤ 140737488351232) (hls : ∀ y ∈ l, y.Wf) {σ : St} : AT Try.prog 6 [.agg (caC r me first f (.sl 4 (faC l)))] σ fun v σ' => v = boo true := by
  refine AT.of_body Try.func6 rfl (by decide) (by kernel_rfl) (by kernel_rfl) (Nat.le_of_ble_eq_true rfl) ?_
  have hone := fun k => caC_one r me k f (.sl 4 (faC l)) rfl
  simp only [go_sem, hone, reduceIte, Nat.reduceEqDiff, Nat.reduceAdd, Nat.reduceMul, Nat.reduceSub, Nat.reduceLT, Nat.reduceLeDiff, Int.reduceLE, Int.reduceLT, Int.reduceToNat, Int.reduceEq]
  refine Ctx.nil.alloc fun p σ1 c1 => ?_
  obtain ⟨σ2, e2, c2⟩ := c1.abs 0 rfl (.cells (caC r me (-1) f (.sl 4 (faC l))))
  simp only [go_sem, c1.g0, e2, c2.g0, reduceIte, Nat.reduceEqDiff, Nat.reduceAdd, Nat.reduceMul, Nat.reduceSub, Nat.reduceLT, Nat.reduceLeDiff, Int.reduceLE, Int.reduceLT, Int.reduceToNat, Int.reduceEq]
  refine c2.alloc fun q σ3 c3 => ?_
  obtain ⟨σ4, e4, c4⟩ := c3.abs 0 rfl (.cells (caC r me (-1) f (.sl 4 (faC l))))
  simp only [go_sem, c3.g1, e4, c4.g1, hone, reduceIte, Nat.reduceEqDiff, Nat.reduceAdd, Nat.reduceMul, Nat.reduceSub, Nat.reduceLT, Nat.reduceLeDiff, Int.reduceLE, Int.reduceLT, Int.reduceToNat, Int.reduceEq]
  refine aDraw_plan [.rd 0 false, .rd 1 false, .rd 2 true, .rd 4 false, .rd 5 true, .rd 6 false, .ef 3 [5], .ef 7 [], .rd 8 false, .ef 9 []] (by kernel_rfl) (by kernel_rfl) (by kernel_rfl) ?_
  simp only [go_sem, c4.g1, hone, reduceIte, Nat.reduceEqDiff, Nat.reduceAdd, Nat.reduceMul, Nat.reduceSub, Nat.reduceLT, Nat.reduceLeDiff, Int.reduceLE, Int.reduceLT, Int.reduceToNat, Int.reduceEq]
  refine aApp_by (ys := faC l) (by simp [src]) (by decide) (by decide) (by decide) (LAt.full.app (by rw [faC_len]; simp only [List.length_nil]; omega) fun la σ5 h1 g1 => ?_)
  rw [List.nil_append] at h1
  have G1 : Grow σ4 σ5 la := fun y o hy => g1 y o hy own_no_fsl
  have c5 := c4.more G1.sub
  simp only [go_sem, c5.g1, reduceIte, Nat.reduceEqDiff, Nat.reduceAdd, Nat.reduceMul, Nat.reduceSub, Nat.reduceLT, Nat.reduceLeDiff, Int.reduceLE, Int.reduceLT, Int.reduceToNat, Int.reduceEq]
  refine aApp_by (ys := [f.cs]) (by rfl) (by decide) (by decide) (by decide) (h1.app (by rw [faC_len]; simp only [List.length_nil, List.length_cons]; omega) fun lw σ6 h2 g2 => ?_)
  have e6 : faC l ++ [f.cs] = faC (l ++ [f]) := by simp [faC]
  rw [e6] at h2
  have G2 := G1.step g2
  have c6 := c4.more G2.sub
  obtain ⟨σ7, e7, c7⟩ := c6.abs 0 rfl (.cells (caC r me (-1) f lw))
  simp only [go_sem, c6.g1, e7, h2.one, h2.cells, c7.g1, reduceIte, Nat.reduceEqDiff, Nat.reduceAdd, Nat.reduceMul, Nat.reduceSub, Nat.reduceLT, Nat.reduceLeDiff, Int.reduceLE, Int.reduceLT, Int.reduceToNat, Int.reduceEq]
  have hq6 := (G2 _ _ c4.g1.1.1).2
  have hp6 := (G2 _ _ c4.g1.1.2).2
  have h7 : LAt 4 σ7 lw (faC (l ++ [f])) := h2.keep fun y o hy ho => by
    rw [← e7, set_ne fun e => by subst e; exact hq6 ho]; exact hy
  obtain ⟨σ8, s1, s2, c8⟩ := case_let c7 h7 (fun y x hy => (G2 y x (c4.sub y x hy)).2) hp6
  have hll : (l ++ [f]).length ≤ 140737488351232 := by simp; omega
  refine AT.pre (args' := [.agg (caC r me (-1) f (.sl 4 (faC (l ++ [f]))))]) ((found_at r me (-1) f (l ++ [f]) hr hf hll (fun y hy => ?_)).mono ?_) (by kernel_rfl) s1 (vws_cons s2 vws_nil)
  · rcases List.mem_append.1 hy with hy | hy
    · exact hls y hy
    · rw [List.mem_singleton.1 hy]; exact hf
  rintro _ σ8 ⟨rfl, o, ok, rfl, hok⟩
  cases ok with
  | false =>
    simp only [go_sem, reduceIte, Nat.reduceEqDiff, Nat.reduceAdd, Nat.reduceMul, Nat.reduceSub, Nat.reduceLT, Nat.reduceLeDiff, Int.reduceLE, Int.reduceLT, Int.reduceToNat, Int.reduceEq]
    refine live_at.mono ?_
    rintro _ σ9 ⟨rfl, rfl⟩
    simp only [go_sem, reduceIte, Nat.reduceEqDiff, Nat.reduceAdd, Nat.reduceMul, Nat.reduceSub, Nat.reduceLT, Nat.reduceLeDiff, Int.reduceLE, Int.reduceLT, Int.reduceToNat, Int.reduceEq]
    exact aRet_as (r := boo true) rfl rfl
  | true =>
    obtain ⟨hS, _, hd⟩ := hok rfl
    have hn := (doc_bod hd).2
    have hS1 := small_less hS
    have hb := (doc_bod hd).1
    obtain ⟨A, hA⟩ : ∃ A, A = bodF r me (-1) f (l ++ [f]) := ⟨_, rfl⟩
    obtain ⟨W, hW⟩ : ∃ W, W = bodF r me (-1) f l := ⟨_, rfl⟩
    have hlen : W.length ≤ A.length := by rw [hA, hW]; exact more_len
    have hAl : A.length ≤ 30002 := by rw [hA, ← hb]; exact doc_len
    have hAs : ∀ b ∈ A, SmB b := by rw [hA, ← hb]; exact frm_smB hS
    have hWA : ∀ b ∈ W, b ∈ A := fun b hb => by rw [hW] at hb; rw [hA]; exact (more_mem.1 hb).1
    simp only [go_sem, c8.g1, reduceIte, Nat.reduceEqDiff, Nat.reduceAdd, Nat.reduceMul, Nat.reduceSub, Nat.reduceLT, Nat.reduceLeDiff, Int.reduceLE, Int.reduceLT, Int.reduceToNat, Int.reduceEq]
    refine (wbodies_at r me (-1) f (l ++ [f]) hS (by omega)).mono ?_
    rintro _ σ8 ⟨rfl, rfl⟩
    simp only [go_sem, c8.g1, reduceIte, Nat.reduceEqDiff, Nat.reduceAdd, Nat.reduceMul, Nat.reduceSub, Nat.reduceLT, Nat.reduceLeDiff, Int.reduceLE, Int.reduceLT, Int.reduceToNat, Int.reduceEq]
    refine (wbodies_at r me (-1) f l hS1 (by have := more_fnd (r := r) (me := me) (f := f) (l := l); omega)).mono ?_
    rintro _ σ8 ⟨rfl, rfl⟩
    rw [← hA, ← hW]
    have dl : decide ((W.length : Int) ≤ A.length) = true := decide_eq_true (by omega)
    simp only [go_sem, reduceIte, Nat.reduceEqDiff, Nat.reduceAdd, Nat.reduceMul, Nat.reduceSub, Nat.reduceLT, Nat.reduceLeDiff, Int.reduceLE, Int.reduceLT, Int.reduceToNat, Int.reduceEq]
    refine aIf_by (fun g40 => ?_) (fun g40 => ?_)
    · simp only [go_sem, dl, reduceIte, Nat.reduceEqDiff, Nat.reduceAdd, Nat.reduceMul, Nat.reduceSub, Nat.reduceLT, Nat.reduceLeDiff, Int.reduceLE, Int.reduceLT, Int.reduceToNat, Int.reduceEq]
      refine live_at.mono ?_
      rintro _ σ9 ⟨rfl, rfl⟩
      simp only [go_sem, reduceIte, Nat.reduceEqDiff, Nat.reduceAdd, Nat.reduceMul, Nat.reduceSub, Nat.reduceLT, Nat.reduceLeDiff, Int.reduceLE, Int.reduceLT, Int.reduceToNat, Int.reduceEq]
      exact aRet_as (r := boo true) rfl rfl
    simp only [go_sem, c8.g1, reduceIte, Nat.reduceEqDiff, Nat.reduceAdd, Nat.reduceMul, Nat.reduceSub, Nat.reduceLT, Nat.reduceLeDiff, Int.reduceLE, Int.reduceLT, Int.reduceToNat, Int.reduceEq]
    refine (hasF_at l f (by have := hS1.2.2.1; omega) hS1.2.2.2 hS1.2.1).mono ?_
    rintro _ σ8 ⟨rfl, rfl⟩
    simp only [go_sem, r_block, reduceIte, Nat.reduceEqDiff, Nat.reduceAdd, Nat.reduceMul, Nat.reduceSub, Nat.reduceLT, Nat.reduceLeDiff, Int.reduceLE, Int.reduceLT, Int.reduceToNat, Int.reduceEq]
    refine ⟨fun m fr σ' => ∃ i : Nat, m = A.length - i ∧ i ≤ A.length ∧ Ctx σ [(q, .cells (caC r me (-1) f (.sl 4 (faC (l ++ [f]))))), (p, .cells (caC r me (-1) f (.sl 4 (faC l))))] σ' ∧ fr 1 = ptr p ∧ fr 3 = ptr q ∧ fr 6 = .sl 1 (boC A) ∧ fr 7 = .sl 1 (boC W) ∧ fr 8 = boo (decide (f ∈ l)) ∧ fr 9 = int i, ⟨_, 0, rfl, by omega, c8, rfl, rfl, rfl, rfl, rfl, rfl⟩, ?_⟩
    clear c1 c2 c3 c4 c5 c6 c7 c8 e2 e4 e7 h1 h2 h7 g1 g2 G1 G2 s1 s2
    rintro m fr σ9 ⟨i, rfl, hi, c, f1, f3, f6, f7, f8, f9⟩
    simp only [go_sem, f6, f9, reduceIte, Nat.reduceEqDiff, Nat.reduceAdd, Nat.reduceMul, Nat.reduceSub, Nat.reduceLT, Nat.reduceLeDiff, Int.reduceLE, Int.reduceLT, Int.reduceToNat, Int.reduceEq]
    refine aIf_by (fun hlt => ?_) (fun hlt => ?_)
    · have hiA : i < A.length := by omega
      obtain ⟨X, hX⟩ : ∃ X, X = A[i] := ⟨_, rfl⟩
      have hXA : X ∈ A := by rw [hX]; exact List.getElem_mem hiA
      have hXs := hAs X hXA
      have eA : (boC A).getD i [] = [.sl 4 (faC X)] := by rw [hX]; exact boC_get hiA
      simp only [go_sem, r_block, reduceIte, Nat.reduceEqDiff, Nat.reduceAdd, Nat.reduceMul, Nat.reduceSub, Nat.reduceLT, Nat.reduceLeDiff, Int.reduceLE, Int.reduceLT, Int.reduceToNat, Int.reduceEq]
      refine ⟨fun mm fr σ' => ∃ j : Nat, mm = W.length - j ∧ j ≤ W.length ∧ σ' = σ9 ∧ fr 1 = ptr p ∧ fr 3 = ptr q ∧ fr 6 = .sl 1 (boC A) ∧ fr 7 = .sl 1 (boC W) ∧ fr 8 = boo (decide (f ∈ l)) ∧ fr 9 = int i ∧ fr 10 = boo (decide (X ∈ W.take j)) ∧ fr 11 = int j, ⟨_, 0, rfl, by omega, rfl, f1, f3, f6, f7, f8, f9, rfl, rfl⟩, ?_⟩
      clear f1 f3 f6 f7 f8 f9 fr
      rintro mm fr σ9 ⟨j, rfl, hj, rfl, f1, f3, f6, f7, f8, f9, f10, f11⟩
      simp only [go_sem, f7, f11, reduceIte, Nat.reduceEqDiff, Nat.reduceAdd, Nat.reduceMul, Nat.reduceSub, Nat.reduceLT, Nat.reduceLeDiff, Int.reduceLE, Int.reduceLT, Int.reduceToNat, Int.reduceEq]
      refine aIf_by (fun hltj => ?_) (fun hltj => ?_)
      · have hjW : j < W.length := by omega
        have tk := take_mem (x := X) hjW
        simp only [go_sem, r_block, reduceIte, Nat.reduceEqDiff, Nat.reduceAdd, Nat.reduceMul, Nat.reduceSub, Nat.reduceLT, Nat.reduceLeDiff, Int.reduceLE, Int.reduceLT, Int.reduceToNat, Int.reduceEq]
        refine aDraw_plan [.rd 0 false, .rd 1 false, .rd 2 false, .rd 3 false, .rd 4 false, .rd 5 true, .rd 6 false, .rd 7 false, .rd 8 false, .rd 9 true, .ef 10 [], .rd 11 false, .rd 12 false, .rd 13 false] (by kernel_rfl) (by kernel_rfl) (by kernel_rfl) ?_
        by_cases h0 : X ∈ W.take j
        · have d0 := decide_eq_true h0
          rw [d0, Bool.true_or] at tk
          simp only [go_sem, r_block, f1, f3, f6, f7, f8, f9, f10, f11, d0, next64 (show j < 9223372036854775807 by omega), reduceIte, Nat.reduceEqDiff, Nat.reduceAdd, Nat.reduceMul, Nat.reduceSub, Nat.reduceLT, Nat.reduceLeDiff, Int.reduceLE, Int.reduceLT, Int.reduceToNat, Int.reduceEq]
          refine ⟨W.length - (j + 1), by omega, j + 1, ?_⟩
          rw [tk]
          (and_intros <;> first | assumption | rfl | omega)
        · have d0 := decide_eq_false h0
          rw [d0, Bool.false_or] at tk
          have hWs := hAs _ (hWA _ (List.getElem_mem hjW))
          simp only [go_sem, r_block, f1, f3, f6, f7, f8, f9, f10, f11, d0, eA, boC_get hjW, reduceIte, Nat.reduceEqDiff, Nat.reduceAdd, Nat.reduceMul, Nat.reduceSub, Nat.reduceLT, Nat.reduceLeDiff, Int.reduceLE, Int.reduceLT, Int.reduceToNat, Int.reduceEq]
          refine ⟨by omega, by omega, (rcmpB_at X W[j] hXs.1 hXs.2 hWs.1 hWs.2).mono ?_⟩
          rintro _ σ9 ⟨rfl, rfl⟩
          have ed : decide (cmpB X W[j] = 0) = decide (W[j] = X) := decide_eq_decide.2 ((cmpB_ord.zero _ _).trans eq_comm)
          simp only [go_sem, r_block, f1, f3, f6, f7, f8, f9, f10, f11, d0, next64 (show j < 9223372036854775807 by omega), reduceIte, Nat.reduceEqDiff, Nat.reduceAdd, Nat.reduceMul, Nat.reduceSub, Nat.reduceLT, Nat.reduceLeDiff, Int.reduceLE, Int.reduceLT, Int.reduceToNat, Int.reduceEq]
          refine ⟨W.length - (j + 1), by omega, j + 1, ?_⟩
          rw [tk, ← ed]
          (and_intros <;> first | assumption | rfl | omega)
      · rw [List.take_of_length_le (by omega)] at f10
        simp only [go_sem, r_block, reduceIte, Nat.reduceEqDiff, Nat.reduceAdd, Nat.reduceMul, Nat.reduceSub, Nat.reduceLT, Nat.reduceLeDiff, Int.reduceLE, Int.reduceLT, Int.reduceToNat, Int.reduceEq]
        refine ⟨fun mm fr σ' => ∃ k : Nat, mm = X.length - k ∧ k ≤ X.length ∧ Ctx σ [(q, .cells (caC r me (-1) f (.sl 4 (faC (l ++ [f]))))), (p, .cells (caC r me (-1) f (.sl 4 (faC l))))] σ' ∧ fr 1 = ptr p ∧ fr 3 = ptr q ∧ fr 6 = .sl 1 (boC A) ∧ fr 7 = .sl 1 (boC W) ∧ fr 8 = boo (decide (f ∈ l)) ∧ fr 9 = int i ∧ fr 10 = boo (decide (X ∈ W)) ∧ fr 12 = boo (decide (f ∈ X.take k)) ∧ fr 13 = int k, ⟨_, 0, rfl, by omega, c, f1, f3, f6, f7, f8, f9, f10, rfl, rfl⟩, ?_⟩
        clear f1 f3 f6 f7 f8 f9 f10 f11 fr c
        rintro mm fr σ9 ⟨k, rfl, hk, c, f1, f3, f6, f7, f8, f9, f10, f12, f13⟩
        have hXl := hXs.1
        simp only [go_sem, f6, f9, f13, eA, reduceIte, Nat.reduceEqDiff, Nat.reduceAdd, Nat.reduceMul, Nat.reduceSub, Nat.reduceLT, Nat.reduceLeDiff, Int.reduceLE, Int.reduceLT, Int.reduceToNat, Int.reduceEq]
        refine ⟨by omega, aIf_by (fun hltk => ?_) (fun hltk => ?_)⟩
        · have hkX : k < X.length := by omega
          have tk := take_mem (x := f) hkX
          simp only [go_sem, r_block, reduceIte, Nat.reduceEqDiff, Nat.reduceAdd, Nat.reduceMul, Nat.reduceSub, Nat.reduceLT, Nat.reduceLeDiff, Int.reduceLE, Int.reduceLT, Int.reduceToNat, Int.reduceEq]
          refine aDraw_plan [.rd 0 false, .rd 1 false, .rd 2 false, .rd 3 true, .rd 4 false, .rd 5 false, .rd 6 true, .rd 7 false, .rd 8 true, .ef 9 [], .rd 10 false] (by kernel_rfl) (by kernel_rfl) (by kernel_rfl) ?_
          simp only [go_sem, r_block, f1, f6, f9, f13, eA, faC_get hkX, c.g1, reduceIte, Nat.reduceEqDiff, Nat.reduceAdd, Nat.reduceMul, Nat.reduceSub, Nat.reduceLT, Nat.reduceLeDiff, Int.reduceLE, Int.reduceLT, Int.reduceToNat, Int.reduceEq]
          refine ⟨by omega, by omega, (rord_at (x := X[k]) (y := f) .cs .cs (hXs.2 _ (List.getElem_mem hkX)) hS1.2.1).mono ?_⟩
          rintro _ σ9 ⟨rfl, rfl⟩
          by_cases h0 : cmpF X[k] f = 0
          · have e := (cmpF_ord.zero _ _).1 h0
            rw [decide_eq_true e, Bool.or_true] at tk
            have d0 := decide_eq_true h0
            simp only [go_sem, r_block, d0, f3, c.g1, reduceIte, Nat.reduceEqDiff, Nat.reduceAdd, Nat.reduceMul, Nat.reduceSub, Nat.reduceLT, Nat.reduceLeDiff, Int.reduceLE, Int.reduceLT, Int.reduceToNat, Int.reduceEq]
            refine c.alloc fun t14 σ10 c2 => ?_
            obtain ⟨σ11, e11, c3⟩ := c2.abs 0 rfl (.cells (caC r me (-1) f (.sl 4 (faC (l ++ [f])))))
            obtain ⟨σ12, e12, c4⟩ := c3.abs 0 rfl (.cells (caC r me (k : Int) f (.sl 4 (faC (l ++ [f])))))
            have hone2 := fun k => caC_one r me k f (.sl 4 (faC (l ++ [f]))) rfl
            simp only [go_sem, r_block, c2.g2, e11, c3.g2, f13, e12, c4.g2, hone2, reduceIte, Nat.reduceEqDiff, Nat.reduceAdd, Nat.reduceMul, Nat.reduceSub, Nat.reduceLT, Nat.reduceLeDiff, Int.reduceLE, Int.reduceLT, Int.reduceToNat, Int.reduceEq]
            refine (wbodies_at r me (k : Int) f (l ++ [f]) hS (by have := more_fndk (r := r) (me := me) (f := f) (l := l) (k : Int); omega)).mono ?_
            rintro _ σ12 ⟨rfl, rfl⟩
            have hXD := more_with (r := r) (me := me) (f := f) (l := l) (k := k) (hA ▸ hXA) hkX e
            have hDl : (bodF r me (k : Int) f (l ++ [f])).length ≤ 1000000 := by
              have h1 := insS_len (c := cmpB) (s := []) (l := fndP r me (k : Int) f (l ++ [f]))
              have h2 := more_fndk (r := r) (me := me) (f := f) (l := l) (k : Int)
              have h3 : (bodF r me (k : Int) f (l ++ [f])).length ≤ 0 + (fndP r me (k : Int) f (l ++ [f])).length := h1
              omega
            have hDs : ∀ b ∈ bodF r me (k : Int) f (l ++ [f]), SmB b := fun b hb => by
              refine hAs b ?_
              rw [hA]
              obtain ⟨env, h1, h2, h3⟩ := mem_bod.1 hb
              refine mem_bod.2 ⟨env, h1, h2, fun i h => ?_⟩
              have := h3 i h
              rw [cand_neg]
              unfold candF at this
              split at this
              · rw [List.mem_singleton.1 this]; simp
              · exact this
            generalize bodF r me (k : Int) f (l ++ [f]) = D at hXD hDl hDs
            simp only [go_sem, r_block, reduceIte, Nat.reduceEqDiff, Nat.reduceAdd, Nat.reduceMul, Nat.reduceSub, Nat.reduceLT, Nat.reduceLeDiff, Int.reduceLE, Int.reduceLT, Int.reduceToNat, Int.reduceEq]
            refine ⟨fun mm fr σ' => ∃ m : Nat, mm = D.length - m ∧ m ≤ D.length ∧ σ' = σ12 ∧ fr 1 = ptr p ∧ fr 3 = ptr q ∧ fr 6 = .sl 1 (boC A) ∧ fr 7 = .sl 1 (boC W) ∧ fr 8 = boo (decide (f ∈ l)) ∧ fr 9 = int i ∧ fr 10 = boo (decide (X ∈ W)) ∧ fr 12 = boo true ∧ fr 13 = int k ∧ fr 15 = .sl 1 (boC D) ∧ fr 16 = boo (decide (X ∈ D.take m)) ∧ fr 17 = int m, ⟨_, 0, rfl, by omega, rfl, f1, f3, f6, f7, f8, f9, f10, rfl, f13, rfl, rfl, rfl⟩, ?_⟩
            clear f1 f3 f6 f7 f8 f9 f10 f12 f13 fr
            rintro mm fr σ12 ⟨m, rfl, hm, rfl, f1, f3, f6, f7, f8, f9, f10, f12, f13, f15, f16, f17⟩
            simp only [go_sem, f15, f17, reduceIte, Nat.reduceEqDiff, Nat.reduceAdd, Nat.reduceMul, Nat.reduceSub, Nat.reduceLT, Nat.reduceLeDiff, Int.reduceLE, Int.reduceLT, Int.reduceToNat, Int.reduceEq]
            refine aIf_by (fun hltm => ?_) (fun hltm => ?_)
            · have hmD : m < D.length := by omega
              have tk := take_mem (x := X) hmD
              simp only [go_sem, r_block, reduceIte, Nat.reduceEqDiff, Nat.reduceAdd, Nat.reduceMul, Nat.reduceSub, Nat.reduceLT, Nat.reduceLeDiff, Int.reduceLE, Int.reduceLT, Int.reduceToNat, Int.reduceEq]
              refine aDraw_plan [.rd 0 false, .rd 1 false, .rd 2 false, .rd 3 false, .rd 4 false, .rd 5 true, .rd 6 false, .rd 7 false, .rd 8 false, .rd 9 true, .ef 10 [], .rd 11 false, .rd 12 false, .rd 13 false] (by kernel_rfl) (by kernel_rfl) (by kernel_rfl) ?_
              by_cases h0 : X ∈ D.take m
              · have d0 := decide_eq_true h0
                rw [d0, Bool.true_or] at tk
                simp only [go_sem, r_block, f1, f3, f6, f7, f8, f9, f10, f12, f13, f15, f16, f17, d0, next64 (show m < 9223372036854775807 by omega), reduceIte, Nat.reduceEqDiff, Nat.reduceAdd, Nat.reduceMul, Nat.reduceSub, Nat.reduceLT, Nat.reduceLeDiff, Int.reduceLE, Int.reduceLT, Int.reduceToNat, Int.reduceEq]
                refine ⟨D.length - (m + 1), by omega, m + 1, ?_⟩
                rw [tk]
                (and_intros <;> first | assumption | rfl | omega)
              · have d0 := decide_eq_false h0
                rw [d0, Bool.false_or] at tk
                have hDs := hDs _ (List.getElem_mem hmD)
                simp only [go_sem, r_block, f1, f3, f6, f7, f8, f9, f10, f12, f13, f15, f16, f17, d0, eA, boC_get hmD, reduceIte, Nat.reduceEqDiff, Nat.reduceAdd, Nat.reduceMul, Nat.reduceSub, Nat.reduceLT, Nat.reduceLeDiff, Int.reduceLE, Int.reduceLT, Int.reduceToNat, Int.reduceEq]
                refine ⟨by omega, by omega, (rcmpB_at D[m] X hDs.1 hDs.2 hXs.1 hXs.2).mono ?_⟩
                rintro _ σ12 ⟨rfl, rfl⟩
                have ed : decide (cmpB D[m] X = 0) = decide (D[m] = X) := decide_eq_decide.2 (cmpB_ord.zero _ _)
                simp only [go_sem, r_block, f1, f3, f6, f7, f8, f9, f10, f12, f13, f15, f16, f17, d0, next64 (show m < 9223372036854775807 by omega), reduceIte, Nat.reduceEqDiff, Nat.reduceAdd, Nat.reduceMul, Nat.reduceSub, Nat.reduceLT, Nat.reduceLeDiff, Int.reduceLE, Int.reduceLT, Int.reduceToNat, Int.reduceEq]
                refine ⟨D.length - (m + 1), by omega, m + 1, ?_⟩
                rw [tk, ← ed]
                (and_intros <;> first | assumption | rfl | omega)
            · rw [List.take_of_length_le (by omega), decide_eq_true hXD] at f16
              simp only [go_sem, r_block, f16, f1, f3, f6, f7, f8, f9, f10, f12, f13, next64 (show k < 9223372036854775807 by omega), reduceIte, Nat.reduceEqDiff, Nat.reduceAdd, Nat.reduceMul, Nat.reduceSub, Nat.reduceLT, Nat.reduceLeDiff, Int.reduceLE, Int.reduceLT, Int.reduceToNat, Int.reduceEq]
              refine ⟨X.length - (k + 1), by omega, k + 1, rfl, by omega, c4.tl, ?_⟩
              rw [tk]
              (and_intros <;> first | assumption | rfl | omega)
          · have d0 := decide_eq_false h0
            rw [decide_eq_false (fun e => h0 ((cmpF_ord.zero _ _).2 e)), Bool.or_false] at tk
            simp only [go_sem, r_block, d0, f1, f3, f6, f7, f8, f9, f10, f12, f13, next64 (show k < 9223372036854775807 by omega), reduceIte, Nat.reduceEqDiff, Nat.reduceAdd, Nat.reduceMul, Nat.reduceSub, Nat.reduceLT, Nat.reduceLeDiff, Int.reduceLE, Int.reduceLT, Int.reduceToNat, Int.reduceEq]
            refine ⟨X.length - (k + 1), by omega, k + 1, rfl, by omega, c, ?_⟩
            rw [tk]
            (and_intros <;> first | assumption | rfl | omega)
        · rw [List.take_of_length_le (by omega)] at f12
          have hmem : (X ∈ W) ↔ (f ∉ X ∨ f ∈ l) := by
            rw [hW, more_mem, ← hA]
            exact ⟨fun h => h.2, fun h => ⟨hXA, h⟩⟩
          by_cases hu : f ∈ X
          · have d1 := decide_eq_true hu
            have d2 : decide (X ∈ W) = decide (f ∈ l) := decide_eq_decide.2 (by rw [hmem]; exact ⟨fun h => h.resolve_left fun h => h hu, .inr⟩)
            have d3 : decide (¬ decide (f ∈ l) = decide (f ∈ l)) = false := decide_eq_false fun h => h rfl
            simp only [go_sem, r_block, f1, f3, f6, f7, f8, f9, f10, f12, d1, d2, d3, next64 (show i < 9223372036854775807 by omega), reduceIte, Nat.reduceEqDiff, Nat.reduceAdd, Nat.reduceMul, Nat.reduceSub, Nat.reduceLT, Nat.reduceLeDiff, Int.reduceLE, Int.reduceLT, Int.reduceToNat, Int.reduceEq]
            exact ⟨A.length - (i + 1), by omega, i + 1, rfl, by omega, c, by (and_intros <;> first | assumption | rfl | omega)⟩
          · have d1 := decide_eq_false hu
            have d2 : decide (X ∈ W) = true := decide_eq_true (hmem.2 (.inl hu))
            have d3 : decide (¬ true = true) = false := rfl
            simp only [go_sem, r_block, f1, f3, f6, f7, f8, f9, f10, f12, d1, d2, d3, next64 (show i < 9223372036854775807 by omega), reduceIte, Nat.reduceEqDiff, Nat.reduceAdd, Nat.reduceMul, Nat.reduceSub, Nat.reduceLT, Nat.reduceLeDiff, Int.reduceLE, Int.reduceLT, Int.reduceToNat, Int.reduceEq]
            exact ⟨A.length - (i + 1), by omega, i + 1, rfl, by omega, c, by (and_intros <;> first | assumption | rfl | omega)⟩
    · simp only [go_sem, r_block, f6, f7, dl, reduceIte, Nat.reduceEqDiff, Nat.reduceAdd, Nat.reduceMul, Nat.reduceSub, Nat.reduceLT, Nat.reduceLeDiff, Int.reduceLE, Int.reduceLT, Int.reduceToNat, Int.reduceEq]
      refine live_at.mono ?_
      rintro _ σ10 ⟨rfl, rfl⟩
      simp only [go_sem, r_block, reduceIte, Nat.reduceEqDiff, Nat.reduceAdd, Nat.reduceMul, Nat.reduceSub, Nat.reduceLT, Nat.reduceLeDiff, Int.reduceLE, Int.reduceLT, Int.reduceToNat, Int.reduceEq]
      exact aRet_as (r := boo true) rfl rfl
end Go.Proofs.Ythdfpankebjleaa
