/-
  The program logic, part 19: a value seen as a weaker tree; tracked blocks forgotten, rows frozen, their contents seen as weaker trees.
  Conditions: none (a library of definitions and lemmas).
-/
import Derived.Test.YthdfpankebjleaaAvList
set_option linter.unusedVariables false
set_option linter.unusedSimpArgs false
namespace Go.Av
open Go Go.RowKit

/-- Seen as a weaker tree, where of what σ tracks σ' is tracked yet: the rows that are not are frozen. -/
inductive VW (σ σ' : St) : AV → AV → Prop
  | refl (a : AV) : VW σ σ' a a
  | nil (q : Nat) : VW σ σ' (.v (.slice none 0 0)) (.sl q [])
  | full (q : Nat) (es es' : List (List AV)) (hl : es'.length = es.length) (hk : ∀ i, i < es.length → (es'.getD i []).length = (es.getD i []).length)
      (h : ∀ i j, i < es.length → j < (es.getD i []).length → VW σ σ' ((es.getD i []).getD j (.v undef)) ((es'.getD i []).getD j (.v undef))) : VW σ σ' (.fsl q es) (.sl q es')
  | part (q : Nat) (es es' : List (List AV)) (hl : es'.length = es.length) (hk : ∀ i, i < es.length → (es'.getD i []).length = (es.getD i []).length)
      (h : ∀ i j, i < es.length → j < (es.getD i []).length → VW σ σ' ((es.getD i []).getD j (.v undef)) ((es'.getD i []).getD j (.v undef))) : VW σ σ' (.sl q es) (.sl q es')
  | rowp (b q : Nat) (es es' : List (List AV)) (frz : Bool) (cap n c : Nat) (hb : σ b = some (.rows q es frz cap)) (hb' : σ' b = none) (hn : n ≤ es.length) (hc : n ≤ c) (hl : es'.length = n) (hk : ∀ i, i < n → (es'.getD i []).length = (es.getD i []).length)
      (h : ∀ i j, i < n → j < (es.getD i []).length → VW σ σ' ((es.getD i []).getD j (.v undef)) ((es'.getD i []).getD j (.v undef))) : VW σ σ' (.v (.slice (some ⟨b, 0, none⟩) n c)) (.sl q es')
  | agg (cs cs' : List AV) (hl : cs'.length = cs.length) (h : ∀ j, j < cs.length → VW σ σ' (cs.getD j (.v undef)) (cs'.getD j (.v undef))) : VW σ σ' (.agg cs) (.agg cs')
  | tup (cs cs' : List AV) (hl : cs'.length = cs.length) (h : ∀ j, j < cs.length → VW σ σ' (cs.getD j (.v undef)) (cs'.getD j (.v undef))) : VW σ σ' (.tup cs) (.tup cs')

theorem VW.row {σ σ' : St} (b q : Nat) (es es' : List (List AV)) (frz : Bool) (cap n c : Nat) (hb : σ b = some (.rows q es frz cap)) (hb' : σ' b = none) (hn : n = es.length) (hc : n ≤ c) (hl : es'.length = es.length) (hk : ∀ i, i < es.length → (es'.getD i []).length = (es.getD i []).length)
    (h : ∀ i j, i < es.length → j < (es.getD i []).length → VW σ σ' ((es.getD i []).getD j (.v undef)) ((es'.getD i []).getD j (.v undef))) : VW σ σ' (.v (.slice (some ⟨b, 0, none⟩) n c)) (.sl q es') :=
  .rowp b q es es' frz cap n c hb hb' (by omega) hc (by omega) (fun i hi => hk i (by omega)) fun i j hi hj => h i j (by omega) hj
theorem VW.one {σ σ' : St} {a a' : AV} (h : VW σ σ' a a') (h1 : a.one = true) : a'.one = true := by
  cases h <;> first | exact h1 | rfl | cases h1

/-- The cells, one by one. -/
def VWs (σ σ' : St) (cs cs' : List AV) : Prop := cs'.length = cs.length ∧ ∀ j, j < cs.length → VW σ σ' (cs.getD j (.v undef)) (cs'.getD j (.v undef))
/-- A map's entries. -/
def VWm (σ σ' : St) : List (Value × AV) → List (Value × AV) → Prop
  | [], [] => True
  | (x, v) :: l, (x', v') :: l' => x' = x ∧ VW σ σ' v v' ∧ VWm σ σ' l l'
  | _, _ => False
/-- A tracked block, its contents seen as weaker trees. -/
def OW (σ σ' : St) : AObj → AObj → Prop
  | .cells cs, .cells cs' => VWs σ σ' cs cs'
  | .rows q es frz cap, .rows q' es' frz' cap' => q' = q ∧ frz' = frz ∧ cap' = cap ∧ es'.length = es.length ∧ ∀ i, i < es.length → VWs σ σ' (es.getD i []) (es'.getD i [])
  | .map kv, .map kv' => VWm σ σ' kv kv'
  | .loop fr n ps x y st pend, o' => o' = .loop fr n ps x y st pend
  | _, _ => False
/-- Less is tracked. -/
def SV (σ σ' : St) : Prop := ∀ b o', σ' b = some o' → ∃ o, σ b = some o ∧ OW σ σ' o o'

theorem vws_refl {σ σ' : St} (cs : List AV) : VWs σ σ' cs cs := ⟨rfl, fun j _ => .refl _⟩
theorem vws_nil {σ σ' : St} : VWs σ σ' [] [] := vws_refl []
theorem vws_cons {σ σ' : St} {a a' : AV} {l l' : List AV} (h : VW σ σ' a a') (hl : VWs σ σ' l l') : VWs σ σ' (a :: l) (a' :: l') :=
  ⟨by simp [hl.1], fun j hj => by
    cases j with
    | zero => exact h
    | succ j => exact hl.2 j (by simpa using hj)⟩
theorem vws_same {σ σ' : St} {a : AV} {l l' : List AV} (hl : VWs σ σ' l l') : VWs σ σ' (a :: l) (a :: l') := vws_cons (.refl a) hl
theorem vwm_refl {σ σ' : St} : ∀ (kv : List (Value × AV)), VWm σ σ' kv kv
  | [] => trivial
  | (x, v) :: l => ⟨rfl, .refl v, vwm_refl l⟩
theorem ow_refl {σ σ' : St} (o : AObj) : OW σ σ' o o := by
  cases o with
  | cells cs => exact vws_refl cs
  | rows q es frz cap => exact ⟨rfl, rfl, rfl, rfl, fun i _ => vws_refl _⟩
  | map kv => exact vwm_refl kv
  | loop fr n ps x y st pend => exact rfl
theorem sv_of {σ σ' : St} (h : ∀ x o', σ' x = some o' → σ x = some o' ∨ ∃ o, σ x = some o ∧ OW σ σ' o o') : SV σ σ' := fun x o' hx => by
  rcases h x o' hx with h | h
  · exact ⟨o', h, ow_refl o'⟩
  · exact h
/-- One block is seen as less, and blocks are dropped. -/
theorem sv_set {σ σ' : St} {b : Nat} {o o' : AObj} (h1 : σ b = some o) (h2 : OW σ (σ'.set b o') o o') (h3 : ∀ x p, x ≠ b → σ' x = some p → σ x = some p) : SV σ (σ'.set b o') :=
  sv_of fun x p hx => by
    by_cases hxb : x = b
    · subst hxb
      rw [set_same] at hx
      injection hx with hx
      subst hx
      exact .inr ⟨o, h1, h2⟩
    · rw [set_ne hxb] at hx
      exact .inl (h3 x p hxb hx)

/-- The end of a function whose result lies in a block of its own. -/
theorem aRet_cell {P : Program} {Q : AV → St → Prop} {fr : Fr} {σ : St} {t tt b : Nat} {i : TK} {cs : List AV} (σ' : St) (r' : AV) (hfr : fr t = .v (.pointer (some ⟨b, 0, none⟩))) (hb : σ b = some (.cells cs)) (hi : tk P tt = some i) (hag : i.ag = true) (hsz : i.sz = cs.length)
    (hv : View σ (.agg cs) σ' r') (hq : Q r' σ') : aRet P Q [.cell t tt] fr σ :=
  ⟨.agg cs, by simp [aResult, aResL, aRes1, aResC, hfr, hi, hag, hb, hsz, oneR], r', σ', hv, hq⟩

/-- The rows that are tracked no more are frozen. -/
def frozBy (F : Froz) (σ σ' : St) : Froz := fun b => match σ' b, σ b with
  | none, some (.rows q es _ _) => es.length * q
  | _, _ => F b

section
variable {F : Froz} {w : World} {σ σ' : St}

theorem frozBy_le (hs : Rel F w σ) (b : Nat) : F b ≤ frozBy F σ σ' b := by
  unfold frozBy
  split
  · rename_i q es frz cap h1 h2
    obtain ⟨c, e, m, g1, g2, g3, g4, g5, g6, g7⟩ := hs.obj b _ h2
    rw [g6]
    split <;> omega
  · exact Nat.le_refl _
theorem frozBy_keeps (hs : Rel F w σ) : Keeps F w (frozBy F σ σ') w := ⟨frozBy_le hs, fun _ _ _ => rfl⟩
theorem frozBy_some {b : Nat} {o : AObj} (h : σ' b = some o) : frozBy F σ σ' b = F b := by
  unfold frozBy
  rw [h]

theorem vw_ok (hs : Rel F w σ) {a a' : AV} (h : VW σ σ' a a') : ∀ x, RV F w a x → RV (frozBy F σ σ') w a' x := by
  have hkp : Keeps F w (frozBy F σ σ') w := frozBy_keeps hs
  induction h with
  | refl a => exact fun x hx => hx.mono hkp
  | nil q =>
    intro x hx
    rw [hx.eq]
    exact .sl0 _ _ _
  | full q es es' hl hk h ih =>
    intro x hx
    cases hx with
    | fsl0 _ a =>
      have : es' = [] := List.eq_nil_of_length_eq_zero (by simpa using hl)
      subst this
      exact .sl0 _ _ _
    | fsl _ _ b o c n hn hkk hF hc hr =>
      have hq : ∀ i, i < es.length → (es.getD i []).length = q ∧ (es.getD i []).all AV.one = true := fun i hi => by
        rw [List.getD_eq_getElem?_getD, List.getElem?_eq_getElem hi]
        exact hkk _ (List.getElem_mem hi)
      refine .sl q es' b o c n n (by omega) ?_ (Nat.le_refl _) (by rw [hl]; exact Nat.le_trans hF (hkp.le b)) (fun j hj => hc j (by rw [hl] at hj; exact hj)) (fun i j hi hj => ?_)
      · intro e he
        obtain ⟨i, hi, rfl⟩ := List.mem_iff_getElem.1 he
        have hi' : i < es.length := by omega
        have e1 : es'[i] = es'.getD i [] := by simp [List.getD_eq_getElem?_getD, hi]
        rw [e1]
        refine ⟨(hk i hi').trans (hq i hi').1, List.all_eq_true.2 fun y hy => ?_⟩
        obtain ⟨j, hj, rfl⟩ := List.mem_iff_getElem.1 hy
        have hj' : j < (es.getD i []).length := by rw [← hk i hi']; exact hj
        have := (h i j hi' hj').one (by
          rw [List.getD_eq_getElem?_getD, List.getElem?_eq_getElem hj']
          exact List.all_eq_true.1 (hq i hi').2 _ (List.getElem_mem hj'))
        rw [List.getD_eq_getElem?_getD, List.getElem?_eq_getElem hj] at this
        exact this
      · rw [hl] at hi
        exact ih i j hi (by rw [(hq i hi).1]; exact hj) _ (hr i j hi hj)
  | part q es es' hl hk h ih =>
    intro x hx
    cases hx with
    | sl0 _ a cap =>
      have : es' = [] := List.eq_nil_of_length_eq_zero (by simpa using hl)
      subst this
      exact .sl0 _ _ _
    | sl _ _ b o c n cap hn hkk hcap hF hc hr =>
      have hq : ∀ i, i < es.length → (es.getD i []).length = q ∧ (es.getD i []).all AV.one = true := fun i hi => by
        rw [List.getD_eq_getElem?_getD, List.getElem?_eq_getElem hi]
        exact hkk _ (List.getElem_mem hi)
      refine .sl q es' b o c n cap (by omega) ?_ hcap (by rw [hl]; exact Nat.le_trans hF (hkp.le b)) (fun j hj => hc j (by rw [hl] at hj; exact hj)) (fun i j hi hj => ?_)
      · intro e he
        obtain ⟨i, hi, rfl⟩ := List.mem_iff_getElem.1 he
        have hi' : i < es.length := by omega
        have e1 : es'[i] = es'.getD i [] := by simp [List.getD_eq_getElem?_getD, hi]
        rw [e1]
        refine ⟨(hk i hi').trans (hq i hi').1, List.all_eq_true.2 fun y hy => ?_⟩
        obtain ⟨j, hj, rfl⟩ := List.mem_iff_getElem.1 hy
        have hj' : j < (es.getD i []).length := by rw [← hk i hi']; exact hj
        have := (h i j hi' hj').one (by
          rw [List.getD_eq_getElem?_getD, List.getElem?_eq_getElem hj']
          exact List.all_eq_true.1 (hq i hi').2 _ (List.getElem_mem hj'))
        rw [List.getD_eq_getElem?_getD, List.getElem?_eq_getElem hj] at this
        exact this
      · rw [hl] at hi
        exact ih i j hi (by rw [(hq i hi).1]; exact hj) _ (hr i j hi hj)
  | rowp b q es es' frz cap n cc hb hb' hn hcc hl hk h ih =>
    intro x hx
    rw [hx.eq]
    obtain ⟨c, e, m, g1, g2, g3, g4, g5, g6, g7⟩ := hs.obj b _ hb
    have hq : ∀ i, i < es.length → (es.getD i []).length = q ∧ (es.getD i []).all AV.one = true := fun i hi => by
      rw [List.getD_eq_getElem?_getD, List.getElem?_eq_getElem hi]
      exact g4 _ (List.getElem_mem hi)
    have hle : es.length * q ≤ cap * q := Nat.mul_le_mul_right _ g3
    have hnl : n * q ≤ es.length * q := Nat.mul_le_mul_right _ hn
    have hF : frozBy F σ σ' b = es.length * q := by unfold frozBy; rw [hb', hb]
    refine .sl q es' b 0 (fun j => c.getD j undef) n cc (by omega) ?_ hcc (by rw [hl, hF]; omega) (fun j hj => ?_) (fun i j hi hj => ?_)
    · intro e he
      obtain ⟨i, hi, rfl⟩ := List.mem_iff_getElem.1 he
      have hi' : i < n := by omega
      have e1 : es'[i] = es'.getD i [] := by simp [List.getD_eq_getElem?_getD, hi]
      rw [e1]
      refine ⟨(hk i hi').trans (hq i (by omega)).1, List.all_eq_true.2 fun y hy => ?_⟩
      obtain ⟨j, hj, rfl⟩ := List.mem_iff_getElem.1 hy
      have hj' : j < (es.getD i []).length := by rw [← hk i hi']; exact hj
      have := (h i j hi' hj').one (by
        rw [List.getD_eq_getElem?_getD, List.getElem?_eq_getElem hj']
        exact List.all_eq_true.1 (hq i (by omega)).2 _ (List.getElem_mem hj'))
      rw [List.getD_eq_getElem?_getD, List.getElem?_eq_getElem hj] at this
      exact this
    · rw [hl] at hj
      have hlt : j < c.size := by omega
      simp [World.cell?, g1, hlt]
    · rw [hl] at hi
      exact ih i j hi (by rw [(hq i (by omega)).1]; exact hj) _ (g7 i j (by omega) hj)
  | agg cs cs' hl h ih =>
    intro x hx
    cases hx with
    | agg _ vs hl' h' => exact .agg cs' vs (by omega) fun j hj => ih j (by omega) _ (h' j (by omega))
  | tup cs cs' hl h ih =>
    intro x hx
    cases hx with
    | tup _ vs hl' h' => exact .tup cs' vs (by omega) fun j hj => ih j (by omega) _ (h' j (by omega))

theorem vws_one {cs cs' : List AV} (h : VWs σ σ' cs cs') (h1 : cs.all AV.one = true) : cs'.all AV.one = true := List.all_eq_true.2 fun y hy => by
  obtain ⟨j, hj, rfl⟩ := List.mem_iff_getElem.1 hy
  have hj' : j < cs.length := by rw [← h.1]; exact hj
  have := (h.2 j hj').one (by
    rw [List.getD_eq_getElem?_getD, List.getElem?_eq_getElem hj']
    exact List.all_eq_true.1 h1 _ (List.getElem_mem hj'))
  simpa [List.getD_eq_getElem?_getD, hj] using this

theorem vwm_ok (hs : Rel F w σ) : ∀ {kv kv' : List (Value × AV)} {es : List MapEntry}, VWm σ σ' kv kv' → KVs F w kv es → KVs (frozBy F σ σ') w kv' es
  | [], [], [], _, _ => trivial
  | (x, v) :: l, (x', v') :: l', e :: es, h, g => ⟨by rw [h.1]; exact g.1, vw_ok hs h.2.1 _ g.2.1, vwm_ok hs h.2.2 g.2.2⟩
  | [], _ :: _, _, h, _ => h.elim
  | _ :: _, [], _, h, _ => h.elim
  | [], [], _ :: _, _, g => g.elim
  | _ :: _, _ :: _, [], _, g => g.elim
/-- **What is tracked, and a value, seen as less.** -/
theorem view_of {a a' : AV} (hS : SV σ σ') (ha : VW σ σ' a a') : View σ a σ' a' := by
  intro F w x hs hv
  have hkp : Keeps F w (frozBy F σ σ') w := frozBy_keeps hs
  refine ⟨frozBy F σ σ', ⟨hkp, rfl, rfl, rfl, Nat.le_refl _, fun b _ hb => ⟨rfl, ?_, ?_⟩⟩, ⟨fun b o' hb => ?_, fun b hb => ?_⟩, vw_ok hs ha x hv⟩
  · cases h' : σ' b with
    | none => rfl
    | some o =>
      obtain ⟨o, ho, _⟩ := hS b o h'
      rw [hb] at ho
      cases ho
  · unfold frozBy
    rw [hb]
    split
    · rename_i h; cases h
    · rfl
  · obtain ⟨o, ho, how⟩ := hS b o' hb
    have hh := hs.obj b o ho
    have hFb : frozBy F σ σ' b = F b := frozBy_some hb
    cases o with
    | cells cs =>
      cases o' with
      | cells cs' =>
        obtain ⟨c, e, m, g1, g2, g3, g4, g5, g6⟩ := hh
        exact ⟨c, e, m, g1, by rw [g2, how.1], g3, hFb.trans g4, vws_one how g5, fun j hj => vw_ok hs (how.2 j (by rw [← how.1]; exact hj)) _ (g6 j (by rw [← how.1]; exact hj))⟩
      | _ => exact how.elim
    | rows q es frz cap =>
      cases o' with
      | rows q' es' frz' cap' =>
        obtain ⟨rfl, rfl, rfl, hl, hw⟩ := how
        obtain ⟨c, e, m, g1, g2, g3, g4, g5, g6, g7⟩ := hh
        have hq : ∀ i, i < es.length → (es.getD i []).length = q' ∧ (es.getD i []).all AV.one = true := fun i hi => by
          rw [List.getD_eq_getElem?_getD, List.getElem?_eq_getElem hi]
          exact g4 _ (List.getElem_mem hi)
        refine ⟨c, e, m, g1, g2, by omega, fun e he => ?_, g5, by rw [hFb, g6, hl], fun i j hi hj => ?_⟩
        · obtain ⟨i, hi, rfl⟩ := List.mem_iff_getElem.1 he
          have hi' : i < es.length := by omega
          have e1 : es'[i] = es'.getD i [] := by simp [List.getD_eq_getElem?_getD, hi]
          rw [e1]
          exact ⟨(hw i hi').1.trans (hq i hi').1, vws_one (hw i hi') (hq i hi').2⟩
        · rw [hl] at hi
          exact vw_ok hs ((hw i hi).2 j (by rw [(hq i hi).1]; exact hj)) _ (g7 i j hi hj)
      | _ => exact how.elim
    | map kv =>
      cases o' with
      | map kv' =>
        obtain ⟨es, clk, g1, g2, g3⟩ := hh
        exact ⟨es, clk, g1, hFb.trans g2, vwm_ok hs how g3⟩
      | _ => exact how.elim
    | loop fr n ps x y st pend =>
      have how : o' = .loop fr n ps x y st pend := how
      subst how
      have := hh.mono hkp rfl hFb
      exact this
  · unfold frozBy
    split
    · rename_i q es frz cap h1 h2
      have := hs.lt_size h2
      omega
    · exact hs.lt b hb
end

/-! ### A slice that a walk makes -/
/-- What was tracked is tracked yet, and is not the row of the slice. -/
def Grow (σ0 σ : St) (lv : AV) : Prop := ∀ y p, σ0 y = some p → σ y = some p ∧ ¬ Own lv y
section
variable {q : Nat} {σ0 σ σ' : St} {lv lv' : AV} {es es' : List (List AV)}
theorem Grow.nil : Grow σ σ (.v (.slice none 0 0)) := fun y p h => ⟨h, fun ⟨n, c, e⟩ => by cases e⟩
theorem Grow.sub (h : Grow σ0 σ lv) : ∀ y p, σ0 y = some p → σ y = some p := fun y p hy => (h y p hy).1
/-- A new block beside it. -/
theorem Grow.new (h : Grow σ0 σ lv) {c : Nat} {o : AObj} (hc : σ c = none) : Grow σ0 (σ.set c o) lv := fun y p hy => ⟨set_sub hc (fun _ _ h => h) y p (h y p hy).1, (h y p hy).2⟩
theorem Grow.step (h : Grow σ0 σ lv) (hs : ∀ x o, σ x = some o → ¬ Own lv x → σ' x = some o ∧ ¬ Own lv' x) : Grow σ0 σ' lv' := fun y p hy => hs y p (h y p hy).1 (h y p hy).2
theorem Grow.own (h : Grow σ0 σ lv) {x : Nat} (hx : Own lv x) : σ0 x = none := by
  cases h' : σ0 x with
  | none => rfl
  | some p => exact absurd hx (h x p h').2
theorem LAt.new (h : LAt q σ lv es) {c : Nat} {o : AObj} (hc : σ c = Option.none) : LAt q (σ.set c o) lv es := h.keep fun x p hx _ => set_sub hc (fun _ _ h => h) x p hx
/-- Seen as a slice of frozen elements. -/
theorem LAt.vw (h : LAt q σ lv es) (hd : ∀ x, Own lv x → σ' x = Option.none) (hl : es'.length = es.length) (hk : ∀ i, i < es.length → VWs σ σ' (es.getD i []) (es'.getD i [])) : VW σ σ' lv (.sl q es') := by
  rcases h with ⟨rfl, rfl⟩ | rfl | ⟨b, cap, rfl, hc, hb⟩
  · have : es' = [] := List.eq_nil_of_length_eq_zero (by simpa using hl)
    subst this
    exact .nil q
  · exact .full q es es' hl (fun i hi => (hk i hi).1) fun i j hi hj => (hk i hi).2 j hj
  · exact .row b q es es' false cap _ _ hb (hd b ⟨_, _, rfl⟩) rfl hc hl (fun i hi => (hk i hi).1) fun i j hi hj => (hk i hi).2 j hj
theorem LAt.vw_same (h : LAt q σ lv es) (hd : ∀ x, Own lv x → σ' x = Option.none) : VW σ σ' lv (.sl q es) := h.vw hd rfl fun i _ => vws_refl _
end

/-- Arguments that are seen as weaker trees. -/
theorem frozBy_self (F : Froz) (σ : St) : frozBy F σ σ = F := by
  funext b
  unfold frozBy
  cases σ b <;> rfl
theorem vws_ok {F : Froz} {w : World} {σ : St} {cs cs' : List AV} {vs : List Value} (hs : Rel F w σ) (h : VWs σ σ cs cs') (hv : RVs F w cs vs) : RVs F w cs' vs :=
  ⟨hv.1.trans h.1.symm, fun j hj => by
    have hj' : j < cs.length := by rw [← h.1]; exact hj
    have := vw_ok hs (h.2 j hj') _ (hv.2 j hj')
    rwa [frozBy_self] at this⟩
theorem AT.weak {P : Program} {f : FuncId} {args args' : List AV} {σ : St} {Q : AV → St → Prop} (h : AT P f args' σ Q) (hw : VWs σ σ args args') : AT P f args σ Q := by
  rcases h with ⟨h1, h2⟩ | ⟨h1, h2⟩
  · exact .inl ⟨h1, fun F w vs hs hv => h2 F w vs hs (vws_ok hs hw hv)⟩
  · refine .inr ⟨h1, ?_⟩
    unfold aClone at h2
    split at h2
    · rename_i t r
      match args, hw with
      | [], hw => exact absurd hw.1 (by simp)
      | _ :: _ :: _, hw => exact absurd hw.1 (by simp)
      | [a], hw =>
        have := hw.2 0 (by simp)
        simp only [List.getD_cons_zero] at this
        cases this
        exact h2
    · exact h2.elim
/-- Behind a call, what is tracked may be seen in another way. -/
theorem AT.post {P : Program} {f : FuncId} {args : List AV} {σ : St} {Q Q' : AV → St → Prop} (h : AT P f args σ Q) (hn : isClone P f = false) (hq : ∀ r σ', Q r σ' → ∃ r2 σ2, View σ' r σ2 r2 ∧ Q' r2 σ2) : AT P f args σ Q' := by
  rcases h with ⟨h1, h2⟩ | ⟨h1, h2⟩
  · refine .inl ⟨h1, fun F w vs hs hv => (h2 F w vs hs hv).mono fun e w' ⟨x, F', σ', r, g1, g2, g3, g4, g5⟩ => ?_⟩
    obtain ⟨r2, σ2, hv, hq2⟩ := hq r σ' g5
    obtain ⟨F2, k1, k2, k3⟩ := hv F' w' x g3 g4
    exact ⟨x, F2, σ2, r2, g1, g2.trans k1, k2, k3, hq2⟩
  · rw [hn] at h1; cases h1
end Go.Av
