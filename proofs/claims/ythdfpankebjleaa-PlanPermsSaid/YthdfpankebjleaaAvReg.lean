/-
  The program logic, part 15: one walk of one order serves every order in which a region's operations may be carried out.
  Conditions: computed from the region (`planOk`); at each effect the reads that may as well come behind it read the same.
-/
import Derived.Test.YthdfpankebjleaaAvDet
set_option linter.unusedVariables false
set_option linter.unusedSimpArgs false
namespace Go.Av
open Go Go.RowKit

/-! ### Frames -/
theorem ev_put {fr : Fr} {d : Option Nat} {v : AV} {x : Operand} (h : ∀ t, d = some t → x ≠ .tmp t) : (fr.put d v).ev x = fr.ev x := by
  cases d with
  | none => rfl
  | some t =>
    cases x with
    | tmp s =>
      have : s ≠ t := fun e => h t rfl (by rw [e])
      simp [Fr.put, Fr.up, Fr.ev, this]
    | _ => rfl
theorem put_comm {fr : Fr} {d d' : Option Nat} {v v' : AV} (h : ∀ t, d = some t → d' ≠ some t) : (fr.put d v).put d' v' = (fr.put d' v').put d v := by
  cases d with
  | none => rfl
  | some t =>
    cases d' with
    | none => rfl
    | some t' =>
      have : t ≠ t' := fun e => h t rfl (by rw [e])
      funext x
      simp only [Fr.put, Fr.up]
      by_cases h1 : x = t'
      · subst h1; simp [Ne.symm this]
      · by_cases h2 : x = t
        · subst h2; simp [h1]
        · simp [h1, h2]

theorem evs_congr {e e' : Operand → AV} : ∀ (l : List (Nat × Operand)), (∀ p ∈ l, e p.2 = e' p.2) → evs e l = evs e' l
  | [], _ => rfl
  | p :: l, h => by
    have := evs_congr l fun q hq => h q (by simp [hq])
    simp only [evs, List.map_cons] at this ⊢
    rw [h p (by simp), this]
theorem exacts_congr {e e' : Operand → AV} : ∀ (l : List Operand), (∀ p ∈ l, e p = e' p) → exacts e l = exacts e' l
  | [], _ => rfl
  | p :: l, h => by
    simp only [exacts]
    rw [h p (by simp), exacts_congr l fun q hq => h q (by simp [hq])]
theorem map_congr' {α β : Type} {e e' : α → β} : ∀ (l : List α), (∀ p ∈ l, e p = e' p) → l.map e = l.map e'
  | [], _ => rfl
  | p :: l, h => by rw [List.map_cons, List.map_cons, h p (by simp), map_congr' l fun q hq => h q (by simp [hq])]
theorem omap_congr {α β : Type} {e e' : α → β} (o : Option α) (h : ∀ p, o = some p → e p = e' p) : o.map e = o.map e' := by
  cases o with
  | none => rfl
  | some p => rw [Option.map_some, Option.map_some, h p rfl]

/-- Its operands alone are looked at. -/
theorem aOp_congr {P : Program} {o : Op} {fr fr' : Fr} {σ : St} {k : AV → St → Prop} (h : ∀ x ∈ o.operands, fr.ev x = fr'.ev x) : aOp P o fr σ k = aOp P o fr' σ k := by
  have hh := fun x => h x
  cases o with
  | move x => simp only [aOp, h x (by simp [Op.operands])]
  | assign x => simp only [aOp, h x (by simp [Op.operands])]
  | pick c x y => simp only [aOp, h c (by simp [Op.operands]), h x (by simp [Op.operands]), h y (by simp [Op.operands])]
  | box e x => simp only [aOp, h x (by simp [Op.operands])]
  | build t ps =>
    simp only [aOp]
    rw [evs_congr ps.toList fun p hp => h p.2 (by simp only [Op.operands, List.mem_toArray]; exact List.mem_map.2 ⟨p, hp, rfl⟩)]
  | buildSlice t n ps =>
    simp only [aOp]
    rw [evs_congr ps.toList fun p hp => h p.2 (by simp only [Op.operands, List.mem_toArray]; exact List.mem_map.2 ⟨p, hp, rfl⟩)]
  | load t x => simp only [aOp, h x (by simp [Op.operands])]
  | store t x y => simp only [aOp, h x (by simp [Op.operands]), h y (by simp [Op.operands])]
  | nilCheck x => simp only [aOp, h x (by simp [Op.operands])]
  | binOp op t x y ty => simp only [aOp, h x (by simp [Op.operands]), h y (by simp [Op.operands])]
  | unOp op t x => simp only [aOp, h x (by simp [Op.operands])]
  | convert s d x => simp only [aOp, h x (by simp [Op.operands])]
  | makeFunc fn l m =>
    simp only [aOp, aFunc]
    rw [exacts_congr l.toList fun p hp => h p (by simp [Op.operands]; left; simpa using hp), exacts_congr m.toList fun p hp => h p (by simp [Op.operands]; right; simpa using hp)]
  | slice t x lo hi mx =>
    simp only [aOp]
    rw [h x (by simp [Op.operands]), omap_congr lo fun p hp => h p (by simp [Op.operands, hp]), omap_congr hi fun p hp => h p (by simp [Op.operands, hp]), omap_congr mx fun p hp => h p (by simp [Op.operands, hp])]
  | fieldAddr s x f => simp only [aOp, h x (by simp [Op.operands])]
  | field s x f => simp only [aOp, h x (by simp [Op.operands])]
  | indexAddr t x ix => simp only [aOp, h x (by simp [Op.operands]), h ix (by simp [Op.operands])]
  | index t x ix => simp only [aOp, h x (by simp [Op.operands]), h ix (by simp [Op.operands])]
  | extract x j => simp only [aOp, h x (by simp [Op.operands])]
  | call c =>
    obtain ⟨callee, args, ts⟩ := c
    have ha : args.toList.map fr.ev = args.toList.map fr'.ev := map_congr' _ fun p hp => h p (by simp [Op.operands, Call.operands]; right; simpa using hp)
    have hb : ∀ p ∈ args.toList, fr.ev p = fr'.ev p := fun p hp => h p (by simp [Op.operands, Call.operands]; right; simpa using hp)
    simp only [aOp, aCallOp]
    cases callee with
    | value y =>
      cases y with
      | func f => simp only [ha]
      | tmp t =>
        have := h (.tmp t) (by simp [Op.operands, Call.operands])
        simp only [Fr.ev] at this
        simp only [ha, this]
      | _ => rfl
    | invoke r m => rfl
    | builtin b =>
      cases b
      case len =>
        simp only
        split
        · rename_i x t hx ht
          rw [hb x (by rw [hx]; simp)]
        · rfl
      case append =>
        simp only
        split
        · rename_i s x t1 t2 hx ht
          rw [hb x (by rw [hx]; simp), hb s (by rw [hx]; simp)]
        · rfl
      all_goals simp only [ha]
  | alloc e => rfl
  | _ => exact aMore_congr (P := P) (σ := σ) (k := k) h

/-! ### More is handed on -/
theorem mon_store {i : Option TK} {σ : St} {p x : AV} : Mon fun k => aStore i σ p x fun σ' => k (.v undef) σ' := by
  intro k k' hk h
  unfold aStore at h ⊢
  cases i with
  | none => exact h
  | some i =>
    refine ⟨h.1, h.2.1, ?_⟩
    have h := h.2.2
    split at h
    · split at h
      · rename_i hb; simp only [hb]; exact ⟨h.1, hk _ _ h.2⟩
      · exact h.elim
    · split at h
      · rename_i hb; simp only [hb]; exact ⟨h.1, h.2.1, h.2.2.1, hk _ _ h.2.2.2⟩
      · exact h.elim
    · exact h.elim
theorem mon_appTo {q eby : Nat} {ys : List (List AV)} {σ : St} {s : AV} : Mon (aAppTo q eby ys σ s) := by
  intro k k' hk h
  unfold aAppTo at h ⊢
  split at h
  · exact ⟨fun e => hk _ _ (h.1 e), fun e => ⟨(h.2 e).1, fun b cap hb hc => hk _ _ ((h.2 e).2 b cap hb hc)⟩⟩
  · exact ⟨h.1, fun e => hk _ _ (h.2.1 e), fun e => ⟨(h.2.2 e).1, fun b cap hb hc => hk _ _ ((h.2.2 e).2 b cap hb hc)⟩⟩
  · rcases h with ⟨h1, h2, es, h3, h4, h5⟩ | ⟨hp, h⟩ | ⟨hp, h⟩
    · exact .inl ⟨h1, h2, es, h3, h4, fun b' c' hb' hc' => hk _ _ (h5 b' c' hb' hc')⟩
    · refine .inr (.inl ⟨hp, ?_⟩)
      split at h
      · exact ⟨h.1, h.2.1, h.2.2.1, h.2.2.2.1, fun b' c' hb' hc' => hk _ _ (h.2.2.2.2 b' c' hb' hc')⟩
      · exact h.elim
    · refine .inr (.inr ⟨hp, ?_⟩)
      split at h
      · exact ⟨h.1, h.2.1, h.2.2.1, h.2.2.2.1, h.2.2.2.2.1, hk _ _ h.2.2.2.2.2⟩
      · exact h.elim
  · exact h.elim
theorem mon_app {i : Option TK} {σ : St} {s x : AV} : Mon (aApp i σ s x) := by
  intro k k' hk h
  unfold aApp at h ⊢
  cases i with
  | none => exact h
  | some i =>
    simp only at h ⊢
    split at h
    · obtain ⟨h1, h2, h3, ys, h4, h5⟩ := h
      exact ⟨h1, h2, h3, ys, h4, mon_appTo k k' hk h5⟩
    · exact h.elim
theorem mon_conv {i j : Option TK} {σ : St} {x : AV} : Mon (aConv i j σ x) := by
  intro k k' hk h
  cases i with
  | none => exact h
  | some i =>
    cases j with
    | none => exact h
    | some j =>
      simp only [aConv] at h ⊢
      split at h
      · exact hk _ _ h
      · exact hk _ _ h
      · exact fun b cap hb hc => hk _ _ (h b cap hb hc)
      · obtain ⟨es, h1, h2, h3⟩ := h
        exact ⟨es, h1, h2, hk _ _ h3⟩
      · exact h.elim
theorem mon_mapput {P : Program} {i : Option TK} {σ : St} {m x v : AV} : Mon fun k => aMapPut P i σ m x v fun σ' => k (.v undef) σ' := by
  intro k k' hk h
  unfold aMapPut at h ⊢
  split at h
  · split at h
    · split at h
      · split at h
        · exact ⟨h.1, h.2.1, hk _ _ h.2.2⟩
        · exact h.elim
      · exact h.elim
    · exact h.elim
  · exact h.elim
theorem mon_mapdel {P : Program} {i : Option TK} {σ : St} {m x : AV} : Mon (aMapDel P i σ m x) := by
  intro k k' hk h
  unfold aMapDel at h ⊢
  split at h
  · split at h
    · split at h
      · split at h
        · exact ⟨h.1, h.2.1, hk _ _ h.2.2⟩
        · exact h.elim
      · exact h.elim
    · exact h.elim
  · exact h.elim
theorem mon_bi {P : Program} {b : Builtin} {args : List AV} {ts : List TypeId} {σ : St} : Mon (aBI P b args ts σ) := by
  intro k k' hk h
  unfold aBI at h ⊢
  split at h
  · split at h
    · exact mon_mapdel k k' hk h
    · exact h.elim
  · split at h
    · exact det_min.mon k k' hk h
    · exact h.elim
  · split at h
    · exact det_max.mon k k' hk h
    · exact h.elim
  · split at h
    · unfold aClear at h ⊢
      split at h
      · exact h.elim
      · split at h
        · split at h
          · exact hk _ _ h
          · rename_i b p n _
            by_cases hn : n = 0
            · rw [if_pos hn] at h ⊢
              exact hk _ _ h
            · rw [if_neg hn] at h ⊢
              split at h
              · exact ⟨h.1, h.2.1, h.2.2.1, h.2.2.2.1, h.2.2.2.2.1, hk _ _ h.2.2.2.2.2⟩
              · exact h.elim
          · exact h.elim
        · exact h.elim
    · exact h.elim
  · exact h.elim
theorem mon_more {P : Program} {o : Op} {fr : Fr} {σ : St} : Mon (aMore P o fr σ) := by
  intro k k' hk h
  unfold aMore at h ⊢
  split at h
  · unfold aMkSl at h ⊢
    split at h
    · split at h
      · split at h
        · exact ⟨h.1, h.2.1, h.2.2.1, h.2.2.2.1, h.2.2.2.2.1, h.2.2.2.2.2.1, fun b hb => hk _ _ (h.2.2.2.2.2.2 b hb)⟩
        · exact h.elim
      · exact h.elim
    · exact h.elim
  · unfold aDefer at h ⊢
    split at h
    · split at h
      · exact ⟨h.1, h.2.1, hk _ _ h.2.2⟩
      · exact h.elim
    · exact h.elim
  · exact fun b hb => hk _ _ (h b hb)
  · exact det_look.mon k k' hk h
  · exact mon_mapput k k' hk h
  · exact det_mki.mon k k' hk h
  · exact det_tya.mon k k' hk h
  · exact h.elim
theorem mon_callV {P : Program} {x : AV} {args : List AV} {σ : St} : Mon (aCallV P x args σ) := by
  intro k k' hk h
  unfold aCallV at h ⊢
  split at h
  · exact ⟨h.1, h.2.1, h.2.2.mono hk⟩
  · exact h.mono hk
  · exact h.elim
theorem aOp_mon {P : Program} {o : Op} {fr : Fr} {σ : St} : Mon (aOp P o fr σ) := by
  have hm := mon_more (P := P) (o := o) (fr := fr) (σ := σ)
  cases o with
  | move x => exact fun k k' hk h => hk _ _ h
  | assign x => exact fun k k' hk h => hk _ _ h
  | pick c x y => exact det_pick.mon
  | alloc e =>
    intro k k' hk h
    simp only [aOp, aAlloc] at h ⊢
    split at h
    · exact fun b hb => hk _ _ (h b hb)
    · exact h.elim
  | box e x => exact fun k k' hk h => ⟨h.1, fun b hb => hk _ _ (h.2 b hb)⟩
  | build t ps => exact det_build.mon
  | buildSlice t n ps => exact det_buildS.mon
  | load t x => exact det_load.mon
  | store t x y => exact mon_store
  | nilCheck x => exact det_nil.mon
  | binOp op t x y ty => exact fun k k' hk h => mono_bin (fun v => hk v σ) h
  | unOp op t x => exact det_un.mon
  | convert s d x => exact mon_conv
  | makeFunc fn l m => exact det_func.mon
  | slice t x lo hi mx => exact det_sli.mon
  | fieldAddr s x f => exact det_fadr.mon
  | field s x f => exact det_fld.mon
  | indexAddr t x ix => exact (det_iadr (σ := σ)).mon
  | index t x ix => exact det_idx.mon
  | extract x j => exact det_ext.mon
  | call c =>
    obtain ⟨callee, args, ts⟩ := c
    intro k k' hk h
    simp only [aOp, aCallOp] at h ⊢
    cases callee with
    | value y =>
      cases y with
      | func f => exact AT.mono h hk
      | tmp t => exact mon_callV k k' hk h
      | _ => exact h.elim
    | invoke r m => exact h.elim
    | builtin b =>
      cases b <;> simp only at h ⊢
      case len =>
        split at h
        · exact det_len.mon k k' hk h
        · exact h.elim
      case append =>
        split at h
        · exact ⟨h.1, mon_app k k' hk h.2⟩
        · exact h.elim
      all_goals exact mon_bi k k' hk h
  | _ => exact fun k k' hk h => hm k k' hk h

/-! ### Reads -/
/-- 0: hands on a value, whatever is tracked; 1: a value that hangs on what is tracked; 2: anything else. -/
def cls (P : Program) : Op → Nat
  | .move _ | .assign _ | .pick .. | .build .. | .buildSlice .. | .nilCheck _ | .unOp .. | .makeFunc .. | .fieldAddr .. | .field .. | .indexAddr .. | .index .. | .extract .. => 0
  | .load .. | .slice .. | .lookup .. => 1
  | .makeInterface .. => 0
  | .typeAssert _ _ _ ok => if ok then 2 else 0
  | .binOp _ t _ _ _ => if isSl P t then 2 else 0
  | .call c => match c.callee with
    | .builtin .len | .builtin .min | .builtin .max => 0
    | _ => 2
  | .convert s d _ => match tk P s, tk P d with
    | some i, some j => match i.td, j.td with
      | .int _, .int _ => 0
      | .str, .str => 0
      | .sl q _ _ byt, .str => if q = 1 ∧ byt = true then 1 else 2
      | _, _ => 2
    | _, _ => 2
  | _ => 2

/-- Of a read: it hands on v. -/
def Yl (P : Program) (o : Op) (fr : Fr) (σ : St) (v : AV) : Prop := ∀ k : AV → St → Prop, k v σ → aOp P o fr σ k

theorem Det.yl {T : (AV → Prop) → Prop} (h : Det T) {σ : St} {k : AV → St → Prop} (ht : T fun v => k v σ) : ∃ v, k v σ ∧ ∀ k' : AV → St → Prop, k' v σ → T fun v => k' v σ := by
  obtain ⟨v, h1, h2⟩ := h _ ht
  exact ⟨v, h1, fun k' hk => h2 _ hk⟩
theorem aOp_read {P : Program} {o : Op} {fr : Fr} {σ : St} {k : AV → St → Prop} (hc : cls P o ≠ 2) (h : aOp P o fr σ k) : ∃ v, k v σ ∧ Yl P o fr σ v := by
  cases o with
  | move x => exact ⟨_, h, fun k' hk => hk⟩
  | assign x => exact ⟨_, h, fun k' hk => hk⟩
  | pick c x y => exact det_pick.yl h
  | build t ps => exact det_build.yl h
  | buildSlice t n ps => exact det_buildS.yl h
  | load t x => exact det_load.yl h
  | nilCheck x => exact det_nil.yl h
  | binOp op t x y ty =>
    have hsl : isSl P t = false := by
      simp only [cls] at hc
      cases hq : isSl P t with
      | false => rfl
      | true => rw [hq] at hc; exact absurd rfl hc
    exact (det_bin hsl).yl h
  | unOp op t x => exact det_un.yl h
  | makeFunc fn l m => exact det_func.yl h
  | slice t x lo hi mx => exact det_sli.yl h
  | fieldAddr s x f => exact det_fadr.yl h
  | field s x f => exact det_fld.yl h
  | indexAddr t x ix => exact (det_iadr (σ := σ)).yl h
  | index t x ix => exact det_idx.yl h
  | extract x j => exact det_ext.yl h
  | convert s d x =>
    unfold Yl
    simp only [aOp] at h ⊢
    simp only [cls] at hc
    cases hi : tk P s with
    | none => rw [hi] at h; exact h.elim
    | some i =>
      cases hj : tk P d with
      | none => rw [hi, hj] at h; exact h.elim
      | some j =>
        obtain ⟨ag, sz, zr, td⟩ := i
        obtain ⟨ag', sz', zr', td'⟩ := j
        rw [hi, hj] at h
        rw [hi, hj] at hc
        cases td <;> cases td' <;> try (exact absurd rfl hc)
        · generalize fr.ev x = y at h ⊢
          cases y with
          | v y => cases y with
            | int ik m => exact ⟨_, h, fun k' hk => hk⟩
            | _ => exact False.elim h
          | _ => exact False.elim h
        · generalize fr.ev x = y at h ⊢
          cases y with
          | v y => cases y with
            | string s => exact ⟨_, h, fun k' hk => hk⟩
            | _ => exact False.elim h
          | _ => exact False.elim h
        · rename_i q eby ez byt
          obtain ⟨rfl, rfl⟩ : q = 1 ∧ byt = true := by
            have hc2 : (if q = 1 ∧ byt = true then 1 else 2) ≠ 2 := hc
            split at hc2
            · assumption
            · exact absurd rfl hc2
          obtain ⟨es, h1, h2, h3⟩ := h
          exact ⟨_, h3, fun k' hk => ⟨es, h1, h2, hk⟩⟩
  | call c =>
    obtain ⟨callee, args, ts⟩ := c
    unfold Yl
    simp only [aOp, aCallOp] at h ⊢
    simp only [cls] at hc
    split at hc
    · simp only at h ⊢
      split at h
      · exact det_len.yl h
      · exact h.elim
    · simp only [aBI] at h ⊢
      split at h
      · exact det_min.yl h
      · exact h.elim
    · simp only [aBI] at h ⊢
      split at h
      · exact det_max.yl h
      · exact h.elim
    · exact absurd rfl hc
  | lookup t m x ok =>
    unfold Yl
    simp only [aOp, aMore] at h ⊢
    exact det_look.yl h
  | makeInterface t x =>
    unfold Yl
    simp only [aOp, aMore] at h ⊢
    exact det_mki.yl h
  | typeAssert x t u ok =>
    cases ok with
    | true => exact absurd rfl hc
    | false =>
      unfold Yl
      simp only [aOp, aMore] at h ⊢
      exact det_tya.yl h
  | _ => exact absurd rfl hc

/-- What hands on a value whatever is tracked. -/
theorem Yl.any {P : Program} {o : Op} {fr : Fr} {σ : St} {v : AV} (hc : cls P o = 0) (h : Yl P o fr σ v) (σ' : St) : Yl P o fr σ' v := by
  have tr : ∀ (T : (AV → Prop) → Prop), (∀ k : AV → St → Prop, k v σ → T fun v => k v σ) → ∀ k : AV → St → Prop, k v σ' → T fun v => k v σ' := fun T h k hk => h (fun v _ => k v σ') hk
  cases o with
  | move x => exact tr (fun K => K (fr.ev x)) h
  | assign x => exact tr (fun K => K (fr.ev x)) h
  | pick c x y => exact tr (aPick (fr.ev c) (fr.ev x) (fr.ev y)) h
  | build t ps => exact tr (aBuild (tk P t) (evs fr.ev ps.toList)) h
  | buildSlice t n ps => exact tr (aBuildS (tk P t) n (evs fr.ev ps.toList)) h
  | nilCheck x => exact tr (aNil (fr.ev x)) h
  | binOp op t x y ty => exact tr (aBin P op t (fr.ev x) (fr.ev y)) h
  | unOp op t x => exact tr (aUn op (fr.ev x)) h
  | makeFunc fn l m => exact tr (aFunc fn fr.ev l.toList m.toList) h
  | fieldAddr s x f => exact tr (aFadr (tk P s) f (fr.ev x)) h
  | field s x f => exact tr (aFld (tk P s) f (fr.ev x)) h
  | indexAddr t x ix => exact tr (aIadr (tk P t) σ (fr.ev x) (fr.ev ix)) h
  | index t x ix => exact tr (aIdx (tk P t) (fr.ev x) (fr.ev ix)) h
  | extract x j => exact tr (aExt (fr.ev x) j) h
  | convert s d x =>
    unfold Yl at h ⊢
    simp only [aOp] at h ⊢
    simp only [cls] at hc
    cases hi : tk P s with
    | none => rw [hi] at hc; simp at hc
    | some i =>
      cases hj : tk P d with
      | none => rw [hi, hj] at hc; simp at hc
      | some j =>
        obtain ⟨ag, sz, zr, td⟩ := i
        obtain ⟨ag', sz', zr', td'⟩ := j
        rw [hi, hj] at h
        rw [hi, hj] at hc
        cases td <;> cases td' <;> try (cases hc; done)
        · generalize fr.ev x = y at h ⊢
          cases y with
          | v y => cases y with
            | int ik m => exact tr (fun K => K _) h
            | _ => exact False.elim (h (fun _ _ => True) trivial)
          | _ => exact False.elim (h (fun _ _ => True) trivial)
        · generalize fr.ev x = y at h ⊢
          cases y with
          | v y => cases y with
            | string s => exact tr (fun K => K _) h
            | _ => exact False.elim (h (fun _ _ => True) trivial)
          | _ => exact False.elim (h (fun _ _ => True) trivial)
        · rename_i q eby ez byt
          have hc2 : (if q = 1 ∧ byt = true then 1 else 2) = 0 := hc
          split at hc2 <;> cases hc2
  | call c =>
    obtain ⟨callee, args, ts⟩ := c
    unfold Yl at h ⊢
    simp only [aOp, aCallOp] at h ⊢
    simp only [cls] at hc
    split at hc
    · simp only at h ⊢
      split at h
      · rename_i x t hx ht
        exact tr (aLen (tk P t) (fr.ev x)) h
      · exact False.elim (h (fun _ _ => True) trivial)
    · simp only [aBI] at h ⊢
      split at h
      · exact tr (aMin _ _) h
      · exact False.elim (h (fun _ _ => True) trivial)
    · simp only [aBI] at h ⊢
      split at h
      · exact tr (aMax _ _) h
      · exact False.elim (h (fun _ _ => True) trivial)
    · cases hc
  | makeInterface t x =>
    unfold Yl at h ⊢
    simp only [aOp, aMore] at h ⊢
    exact tr (aMkI P t (fr.ev x)) h
  | typeAssert x t u ok =>
    cases ok with
    | true => cases hc
    | false =>
      unfold Yl at h ⊢
      simp only [aOp, aMore] at h ⊢
      exact tr (aTyA P u (fr.ev x)) h
  | _ => cases hc
end Go.Av
