/-
  The program logic, part 11: regions, branches, blocks, loops, functions.
  Conditions: none (a library of definitions and lemmas over any program).
-/
import Derived.Test.YtpdbmnogfanpmaaAvCtl
import Derived.Scope
set_option linter.unusedVariables false
set_option linter.unusedSimpArgs false
namespace Go.Av
open Go Go.RowKit

/-! ### Regions -/
/-- A yes-or-no decides. -/
def aIf (b : Bool) (A B : Prop) : Prop := if b = true then A else B
def aGd (ds : List (Option Nat)) (fr : Fr) (g : Option (Nat × Bool)) (A B : Prop) : Prop :=
  match g with
  | none => A
  | some (j, want) => match ds.getD j none with
    | some d => match fr d with
      | .v (.bool b) => if want then aIf b A B else aIf b B A
      | _ => False
    | none => False

def aOps (P : Program) (ds : List (Option Nat)) : List Oper → (Fr → St → Prop) → Fr → St → Prop
  | [], K, fr, σ => K fr σ
  | o :: r, K, fr, σ => aGd ds fr o.guard (aOp P o.op fr σ fun v σ' => aOps P ds r K (fr.put o.dst v) σ') (aOps P ds r K (fr.put o.dst (.v undef)) σ)

/-- The slots that a region writes, one an operation. -/
def dsts (ops : Array Oper) : List (Option Nat) := ops.toList.map (·.dst)

/-- The operations by their numbers, in an order. -/
def aOrd (P : Program) (ops : Array Oper) : List Nat → (Fr → St → Prop) → Fr → St → Prop
  | [], K, fr, σ => K fr σ
  | i :: r, K, fr, σ => match ops[i]? with
    | none => aOrd P ops r K fr σ
    | some o => aGd (dsts ops) fr o.guard (aOp P o.op fr σ fun v σ' => aOrd P ops r K (fr.put o.dst v) σ') (aOrd P ops r K (fr.put o.dst (.v undef)) σ)

/-- In whatever order a region's operations are carried out. -/
def aDraw (P : Program) (ops : Array Oper) (K : Fr → St → Prop) (fr : Fr) (σ : St) : Prop :=
  ∀ t, aOrd P ops (Region.schedule (P.follows .mixedOrders) ops t) K fr σ

inductive AEx where
  | normal
  | exit (id : Nat)
  | goto (l : Nat)
  | ret

abbrev AK := AEx → Fr → St → Prop

def AK.then (A : Fr → St → Prop) (K : AK) : AK
  | .normal, fr, σ => A fr σ
  | e, fr, σ => K e fr σ
def AK.block (id : Nat) (K : AK) : AK
  | .exit j, fr, σ => if j = id then K .normal fr σ else K (.exit j) fr σ
  | e, fr, σ => K e fr σ
def AK.noGoto (K : AK) : AK
  | .goto _, _, _ => False
  | e, fr, σ => K e fr σ

/-- A loop: what holds at each round's head, by a parameter that goes down. -/
def aLoop (body : AK → Fr → St → Prop) (K : AK) (fr : Fr) (σ : St) : Prop :=
  ∃ (I : Nat → Fr → St → Prop), (∃ m, I m fr σ) ∧ ∀ m fr σ, I m fr σ → body (AK.then (fun fr' σ' => ∃ m', m' < m ∧ I m' fr' σ') K) fr σ

def aCond (x : AV) (A B : Prop) : Prop :=
  match x with
  | .v (.bool b) => aIf b A B
  | _ => False

def aCode (P : Program) : Code → AK → Fr → St → Prop
  | .skip, K, fr, σ => K .normal fr σ
  | .region _ ops false, K, fr, σ => aOps P (dsts ops) ops.toList (K .normal) fr σ
  | .region _ ops true, K, fr, σ => aDraw P ops (K .normal) fr σ
  | .seq x y, K, fr, σ => aCode P x (AK.then (aCode P y K) K) fr σ
  | .cond c x y, K, fr, σ => aCond (fr.ev c) (aCode P x K fr σ) (aCode P y K fr σ)
  | .block id x, K, fr, σ => aCode P x (AK.block id K) fr σ
  | .loop x, K, fr, σ => aLoop (aCode P x) K fr σ
  | .exit id, K, fr, σ => K (.exit id) fr σ
  | .scope x, K, fr, σ => aCode P x (AK.noGoto K) fr σ
  | .ret, K, fr, σ => K .ret fr σ
  | .label _, K, fr, σ => K .normal fr σ
  | _, _, _, _ => False

/-- Slots and operands lie in the frame. -/
def okCode (n : Nat) : Code → Bool
  | .region _ ops _ => ops.all (okOper n ops)
  | .seq x y => okCode n x && okCode n y
  | .cond c x y => opdIn n c && okCode n x && okCode n y
  | .block _ x | .loop x | .scope x => okCode n x
  | _ => true

section
variable {P : Program} {n : Nat}

/-- From where σ was tracked, in (F, w): the frame and what is tracked now, of which K holds. -/
def Now (F0 : Froz) (w0 : World) (σ0 : St) (n : Nat) (K : Fr → St → Prop) (a : Act) (w : World) : Prop :=
  ∃ F fr σ, Ext F0 w0 σ0 F w σ ∧ Rel F w σ ∧ FrRel F w n fr a ∧ K fr σ
def NowE (F0 : Froz) (w0 : World) (σ0 : St) (n : Nat) (K : AK) : Exit → Act → World → Prop
  | .normal, a, w => Now F0 w0 σ0 n (K .normal) a w
  | .exit id, a, w => Now F0 w0 σ0 n (K (.exit id)) a w
  | .goto l, a, w => Now F0 w0 σ0 n (K (.goto l)) a w
  | .ret, a, w => Now F0 w0 σ0 n (K .ret) a w
  | _, _, _ => False

theorem wanted_of {F : Froz} {w : World} {fr : Fr} {a : Act} {ops : Array Oper} {o : Oper} {A B : Prop} (hok : okOper n ops o = true) (hf : FrRel F w n fr a) (h : aGd (dsts ops) fr o.guard A B) :
    (Region.wanted o (yielded ops a.tmps) = true ∧ A) ∨ (Region.wanted o (yielded ops a.tmps) = false ∧ B) := by
  unfold aGd at h
  cases hg : o.guard with
  | none => rw [hg] at h; exact .inl ⟨by simp [Region.wanted, hg], h⟩
  | some q =>
    obtain ⟨j, want⟩ := q
    rw [hg] at h
    simp only at h
    have hds : (dsts ops).getD j none = (ops[j]?).bind (·.dst) := by
      simp only [dsts, List.getD_eq_getElem?_getD, List.getElem?_map, Array.getElem?_toList]
      cases ops[j]? <;> rfl
    cases hd : (ops[j]?).bind (·.dst) with
    | none => rw [hds, hd] at h; exact h.elim
    | some d =>
      rw [hds, hd] at h
      simp only at h
      split at h
      · rename_i b hb
        have hdn : d < n := by
          simp only [okOper, Bool.and_eq_true, hg, hd] at hok
          simpa using hok.2
        have hv := hf.slot d hdn
        rw [hb] at hv
        have he := hv.eq
        have hlt : d < a.tmps.size := by rw [hf.size]; exact hdn
        have hy : yielded ops a.tmps j = some b := by
          simp only [yielded, hd, Option.bind_some, Array.getElem?_eq_getElem hlt]
          have : a.tmps.getD d undef = a.tmps[d] := by simp [hlt]
          rw [this] at he
          rw [he]
        have hw : Region.wanted o (yielded ops a.tmps) = (b == want) := by
          simp [Region.wanted, hg, hy]
        rw [hw]
        cases b <;> cases want <;> simp [aIf] at h ⊢ <;> exact h
      · exact h.elim

theorem aOrd_sound (ops : Array Oper) (hok : ∀ o ∈ ops.toList, okOper n ops o = true) : ∀ (l : List Nat) (K : Fr → St → Prop) (fr : Fr) (σ : St), aOrd P ops l K fr σ → ∀ F w a (Q : Exit → Act → World → Prop), Rel F w σ → FrRel F w n fr a →
    (∀ a' w', Now F w σ n K a' w' → Q .normal a' w') → wpOps P ops Q l a w
  | [], K, fr, σ, h, F, w, a, Q, hs, hf, hk => hk a w ⟨F, fr, σ, .refl F w σ, hs, hf, h⟩
  | i :: r, K, fr, σ, h, F, w, a, Q, hs, hf, hk => by
    unfold wpOps
    simp only [aOrd] at h
    cases hi : ops[i]? with
    | none =>
      rw [hi] at h
      exact aOrd_sound ops hok r K fr σ h F w a Q hs hf hk
    | some o =>
      rw [hi] at h
      simp only at h ⊢
      have hoo : okOper n ops o = true := hok o (by have := Array.mem_of_getElem? hi; simpa using this)
      rcases wanted_of hoo hf h with ⟨hw, h⟩ | ⟨hw, h⟩
      · rw [if_pos hw]
        refine .inl (aOp_sound hoo hf hs h _ Q fun F' w' x v σ' h1 h2 h3 h4 => ?_)
        exact aOrd_sound ops hok r K _ σ' h4 F' w' _ Q h2 ((hf.mono h1.keeps).put o.dst (okOper_dst hoo) h3) fun a'' w'' ⟨F'', fr'', σ'', g1, g2, g3, g4⟩ => hk a'' w'' ⟨F'', fr'', σ'', h1.trans g1, g2, g3, g4⟩
      · rw [if_neg (by simp [hw])]
        exact aOrd_sound ops hok r K _ σ h F w _ Q hs (hf.put o.dst (okOper_dst hoo) (.v undef)) hk

theorem aOps_ord (ops : Array Oper) : ∀ (l : List Oper) (k : Nat), (∀ j, l[j]? = ops[k + j]?) → aOrd P ops (List.range' k l.length) = aOps P (dsts ops) l
  | [], k, _ => rfl
  | o :: l, k, hl => by
    have h0 : ops[k]? = some o := by simpa using (hl 0).symm
    have ih := aOps_ord ops l (k + 1) (fun j => by have := hl (j + 1); simpa [Nat.add_assoc, Nat.add_comm 1 j] using this)
    funext K fr σ
    simp only [List.length_cons, List.range'_succ, aOrd, h0, aOps, ih]

theorem region_sound {id : Nat} {ops : Array Oper} {d : Bool} (hok : ops.all (okOper n ops) = true) {K : AK} {F : Froz} {w : World} {fr : Fr} {σ : St} {a : Act} (hs : Rel F w σ) (hf : FrRel F w n fr a)
    (h : aCode P (.region id ops d) K fr σ) : (Code.region id ops d).wp P (NowE F w σ n K) a w := by
  have hok' : ∀ o ∈ ops.toList, okOper n ops o = true := fun o ho => Array.all_eq_true_iff_forall_mem.1 hok o (by simpa using ho)
  cases d with
  | false =>
    refine wp_region ?_
    simp only [aCode] at h
    have e := aOps_ord (P := P) ops ops.toList 0 (by simp)
    rw [← List.range_eq_range', Array.length_toList] at e
    rw [← e] at h
    exact aOrd_sound ops hok' _ _ fr σ h F w a _ hs hf fun a' w' h => h
  | true =>
    refine wp_region_draw fun t => ?_
    have hkp := Keeps.drew F w
    refine aOrd_sound ops hok' _ _ fr σ (h t) F w.drew a _ hs.drew (hf.mono hkp) fun a' w' ⟨F', fr', σ', g1, g2, g3, g4⟩ => ?_
    exact ⟨F', fr', σ', (Ext.drew (.refl F w σ)).trans g1, g2, g3, g4⟩

theorem now_mono {F0 F : Froz} {w0 w : World} {σ0 σ : St} {K K' : Fr → St → Prop} (he : Ext F0 w0 σ0 F w σ) (hk : ∀ fr σ, K fr σ → K' fr σ) {a : Act} {w' : World} (h : Now F w σ n K a w') : Now F0 w0 σ0 n K' a w' := by
  obtain ⟨F', fr', σ', g1, g2, g3, g4⟩ := h
  exact ⟨F', fr', σ', he.trans g1, g2, g3, hk _ _ g4⟩
theorem nowE_mono {F0 F : Froz} {w0 w : World} {σ0 σ : St} {K : AK} (he : Ext F0 w0 σ0 F w σ) {e : Exit} {a : Act} {w' : World} (h : NowE F w σ n K e a w') : NowE F0 w0 σ0 n K e a w' := by
  cases e <;> first | exact now_mono he (fun _ _ h => h) h | exact h

/-- The least number of which something holds. -/
theorem least (p : Nat → Prop) (h : ∃ m, p m) : ∃ m, p m ∧ ∀ m', p m' → m ≤ m' := by
  obtain ⟨m, hm⟩ := h
  induction m using Nat.strongRecOn with
  | _ m ih =>
    by_cases hx : ∃ m', m' < m ∧ p m'
    · obtain ⟨m', h1, h2⟩ := hx
      exact ih m' h1 h2
    · refine ⟨m, hm, fun m' h' => ?_⟩
      rcases Nat.lt_or_ge m' m with h1 | h1
      · exact absurd ⟨m', h1, h'⟩ hx
      · exact h1

theorem wp_loop_by {c : Code} {Q : Exit → Act → World → Prop} {a : Act} {w : World} (I : Nat → Act → World → Prop) (h₀ : ∃ m, I m a w) (round : ∀ m a w, I m a w → c.wp P (Exit.then (fun a' w' => ∃ m', m' < m ∧ I m' a' w') Q) a w) : (Code.loop c).wp P Q a w := by
  classical
  let μ : Act → World → Nat := fun a w => if h : ∃ m, I m a w then Classical.choose (least _ h) else 0
  have hμ : ∀ a w, (∃ m, I m a w) → I (μ a w) a w ∧ ∀ m', I m' a w → μ a w ≤ m' := fun a w h => by
    have := Classical.choose_spec (least _ h)
    simp only [μ, dif_pos h]
    exact this
  refine wp_loop (fun a w => ∃ m, I m a w) μ h₀ fun a w hI => ?_
  obtain ⟨h1, h2⟩ := hμ a w hI
  refine wp_mono (round _ a w h1) fun e a' w' hq => ?_
  cases e with
  | normal =>
    obtain ⟨m', hm, hI'⟩ := hq
    exact ⟨⟨m', hI'⟩, Nat.lt_of_le_of_lt ((hμ a' w' ⟨m', hI'⟩).2 m' hI') hm⟩
  | _ => exact hq

theorem aCode_sound : ∀ (c : Code), okCode n c = true → ∀ (K : AK) (fr : Fr) (σ : St), aCode P c K fr σ → ∀ F w a, Rel F w σ → FrRel F w n fr a → c.wp P (NowE F w σ n K) a w
  | .skip, _, K, fr, σ, h, F, w, a, hs, hf => wp_skip ⟨F, fr, σ, .refl F w σ, hs, hf, h⟩
  | .label _, _, K, fr, σ, h, F, w, a, hs, hf => wp_label ⟨F, fr, σ, .refl F w σ, hs, hf, h⟩
  | .exit _, _, K, fr, σ, h, F, w, a, hs, hf => wp_exit ⟨F, fr, σ, .refl F w σ, hs, hf, h⟩
  | .ret, _, K, fr, σ, h, F, w, a, hs, hf => wp_ret ⟨F, fr, σ, .refl F w σ, hs, hf, h⟩
  | .region _ ops d, hok, K, fr, σ, h, F, w, a, hs, hf => region_sound hok hs hf h
  | .seq x y, hok, K, fr, σ, h, F, w, a, hs, hf => by
    simp only [okCode, Bool.and_eq_true] at hok
    refine wp_seq (wp_mono (aCode_sound x hok.1 _ fr σ h F w a hs hf) fun e a' w' hq => ?_)
    cases e with
    | normal =>
      obtain ⟨F', fr', σ', g1, g2, g3, g4⟩ := hq
      exact wp_mono (aCode_sound y hok.2 K fr' σ' g4 F' w' a' g2 g3) fun e a'' w'' h => nowE_mono g1 h
    | exit id => exact hq
    | goto l => exact hq
    | ret => exact hq
    | panic _ => exact hq
    | outgrown => exact hq
  | .cond c x y, hok, K, fr, σ, h, F, w, a, hs, hf => by
    simp only [okCode, Bool.and_eq_true] at hok
    simp only [aCode] at h
    have hv := hf.ev c hok.1.1
    revert h hv
    generalize fr.ev c = q
    intro h hv
    unfold aCond at h
    split at h
    · rename_i b
      have e := hv.eq
      cases b with
      | true => exact wp_cond_true e (aCode_sound x hok.1.2 K fr σ (by simpa [aIf] using h) F w a hs hf)
      | false => exact wp_cond_false e (aCode_sound y hok.2 K fr σ (by simpa [aIf] using h) F w a hs hf)
    · exact h.elim
  | .block id x, hok, K, fr, σ, h, F, w, a, hs, hf => by
    refine wp_block (wp_mono (aCode_sound x hok _ fr σ h F w a hs hf) fun e a' w' hq => ?_)
    cases e with
    | exit j =>
      obtain ⟨F', fr', σ', g1, g2, g3, g4⟩ := hq
      simp only [AK.block] at g4
      simp only [Exit.inBlock]
      split
      · rename_i hj; rw [if_pos hj] at g4; exact ⟨F', fr', σ', g1, g2, g3, g4⟩
      · rename_i hj; rw [if_neg hj] at g4; exact ⟨F', fr', σ', g1, g2, g3, g4⟩
    | normal => exact hq
    | goto l => exact hq
    | ret => exact hq
    | panic _ => exact hq
    | outgrown => exact hq
  | .scope x, hok, K, fr, σ, h, F, w, a, hs, hf => by
    refine wp_scope_straight (wp_mono (aCode_sound x hok _ fr σ h F w a hs hf) fun e a' w' hq => ?_)
    cases e with
    | goto l => obtain ⟨F', fr', σ', g1, g2, g3, g4⟩ := hq; exact g4.elim
    | normal => exact hq
    | exit j => exact hq
    | ret => exact hq
    | panic _ => exact hq
    | outgrown => exact hq
  | .loop x, hok, K, fr, σ, h, F, w, a, hs, hf => by
    obtain ⟨I, ⟨m, h0⟩, hr⟩ := h
    refine wp_loop_by (fun m a' w' => ∃ F' fr' σ', Ext F w σ F' w' σ' ∧ Rel F' w' σ' ∧ FrRel F' w' n fr' a' ∧ I m fr' σ') ⟨m, F, fr, σ, .refl F w σ, hs, hf, h0⟩ fun m a' w' ⟨F', fr', σ', g1, g2, g3, g4⟩ => ?_
    refine wp_mono (aCode_sound x hok _ fr' σ' (hr m fr' σ' g4) F' w' a' g2 g3) fun e a'' w'' hq => ?_
    cases e with
    | normal =>
      obtain ⟨F'', fr'', σ'', k1, k2, k3, m', hm, hI⟩ := hq
      exact ⟨m', hm, F'', fr'', σ'', g1.trans k1, k2, k3, hI⟩
    | exit id => exact now_mono g1 (fun _ _ h => h) hq
    | goto l => exact now_mono g1 (fun _ _ h => h) hq
    | ret => exact now_mono g1 (fun _ _ h => h) hq
    | panic _ => exact hq
    | outgrown => exact hq
  | .rangeFunc .., _, K, fr, σ, h, F, w, a, hs, hf => h.elim
  | .goto _, _, K, fr, σ, h, F, w, a, hs, hf => h.elim
  | .refuse _, _, K, fr, σ, h, F, w, a, hs, hf => h.elim
end

/-! ### Functions -/
/-- The frame at the beginning. -/
def enterFr (args : List AV) : Fr := fun t => args.getD t (.v undef)

def tmpOf : ResultVar → Nat
  | .tmp t => t
  | .cell t _ => t
/-- What a result's variable in memory holds. -/
def aResC (i : Option TK) (σ : St) (p : AV) : Option AV :=
  match i with
  | some i => match p with
    | .v (.pointer (some ⟨b, 0, none⟩)) => match σ b with
      | some (.cells cs) => if i.ag then (if i.sz ≤ cs.length then some (.agg (cs.take i.sz)) else none) else (if 0 < cs.length then some (cs.getD 0 (.v undef)) else none)
      | _ => none
    | _ => none
  | none => none
def aRes1 (P : Program) (fr : Fr) (σ : St) : ResultVar → Option AV
  | .tmp t => some (fr t)
  | .cell b t => aResC (tk P t) σ (fr b)
def aResL (P : Program) (fr : Fr) (σ : St) : List ResultVar → Option (List AV)
  | [] => some []
  | q :: l => match aRes1 P fr σ q with
    | some x => match aResL P fr σ l with
      | some xs => some (x :: xs)
      | none => none
    | none => none
def oneR : List AV → AV
  | [x] => x
  | l => .tup l
/-- What is handed back: a slot's value; or several. -/
def aResult (P : Program) (fr : Fr) (σ : St) (l : List ResultVar) : Option AV :=
  match aResL P fr σ l with
  | some l => some (oneR l)
  | none => none

/-- What is tracked may be forgotten; a value may be seen as a weaker tree; what is tracked may be frozen. -/
def View (σ : St) (r : AV) (σ' : St) (r' : AV) : Prop :=
  ∀ F w x, Rel F w σ → RV F w r x → ∃ F', Ext F w σ F' w σ' ∧ Rel F' w σ' ∧ RV F' w r' x
theorem View.refl (σ : St) (r : AV) : View σ r σ r := fun F w x hs hv => ⟨F, .refl F w σ, hs, hv⟩

/-- At the end of a function. -/
def aRet (P : Program) (Q : AV → St → Prop) (res : List ResultVar) (fr : Fr) (σ : St) : Prop :=
  ∃ r, aResult P fr σ res = some r ∧ ∃ r' σ', View σ r σ' r' ∧ Q r' σ'
def AK.fn (P : Program) (Q : AV → St → Prop) (res : List ResultVar) : AK
  | .normal, fr, σ => aRet P Q res fr σ
  | .ret, fr, σ => aRet P Q res fr σ
  | _, _, _ => False

def oneOf : List Value → Value
  | [x] => x
  | l => .tuple l.toArray
theorem oneOf_eq (l : List Value) : (if h : l.toArray.size = 1 then l.toArray[0] else .tuple l.toArray) = oneOf l := by
  match l with
  | [] => rfl
  | [x] => rfl
  | x :: y :: r => rw [dif_neg (by simp)]; rfl

theorem res1_ok {F : Froz} {w : World} {n : Nat} {fr : Fr} {a : Act} {P : Program} {σ : St} (hs : Rel F w σ) (hf : FrRel F w n fr a) {q : ResultVar} (hn : tmpOf q < n) {r : AV} (h : aRes1 P fr σ q = some r) :
    ∃ x, (match q with
        | ResultVar.tmp t => (pure (a.tmps.getD t undef) : Sem Value)
        | ResultVar.cell b t => do loadVar t (← asAddr (a.tmps.getD b undef))).run P w = .ok x w ∧ RV F w r x := by
  cases q with
  | tmp t =>
    injection h with h
    subst h
    exact ⟨_, rfl, hf.slot t hn⟩
  | cell b t =>
    simp only [aRes1] at h
    have hv := hf.slot b hn
    cases ht : tk P t with
    | none => rw [ht] at h; cases h
    | some i =>
      rw [ht] at h
      unfold aResC at h
      simp only at h
      split at h
      · rename_i b' hfr
        rw [hfr] at hv
        have e := hv.eq
        split at h
        · rename_i cs hb
          obtain ⟨c, e', m, g1, g2, g3, g4, g4', g5⟩ := hs.obj b' _ hb
          have hcell : ∀ j, j < cs.length → w.cell? ⟨b', 0 + j, none⟩ = some (c.getD j undef) := fun j hj => by
            simp [World.cell?, g1, Array.getD_eq_getD_getElem?, g2, hj]
          have hag : i.ag = true → 0 + i.sz ≤ cs.length := fun hg => by
            rw [if_pos hg] at h
            split at h
            · omega
            · cases h
          have hna : i.ag = false → 0 < cs.length := fun hg => by
            rw [if_neg (by simp [hg])] at h
            split at h
            · assumption
            · cases h
          obtain ⟨y, hy, hyv⟩ := run_load_of ht (o := 0) hcell g5 hag hna
          refine ⟨y, ?_, ?_⟩
          · simp only [e]
            simpa [Instr.loadAt, Instr.sureAddr, asAddr] using hy
          · cases hg : i.ag with
            | true =>
              rw [if_pos hg] at h
              rw [hg, if_pos rfl] at hyv
              split at h
              · injection h with h; subst h; simpa using hyv
              · cases h
            | false =>
              rw [if_neg (by simp [hg])] at h
              rw [hg, if_neg (by simp)] at hyv
              split at h
              · injection h with h; subst h; exact hyv
              · cases h
        · cases h
      · cases h
theorem resL_ok {F : Froz} {w : World} {n : Nat} {fr : Fr} {a : Act} {P : Program} {σ : St} (hs : Rel F w σ) (hf : FrRel F w n fr a) : ∀ (l : List ResultVar), (∀ q ∈ l, tmpOf q < n) → ∀ rs, aResL P fr σ l = some rs →
    ∃ xs, Sem.run P (l.mapM fun
        | ResultVar.tmp t => (pure (a.tmps.getD t undef) : Sem Value)
        | ResultVar.cell b t => do loadVar t (← asAddr (a.tmps.getD b undef))) w = .ok xs w ∧ RVs F w rs xs
  | [], _, rs, h => by
    injection h with h
    subst h
    exact ⟨[], by simp, rfl, fun j hj => by simp at hj⟩
  | q :: l, hn, rs, h => by
    simp only [aResL] at h
    split at h
    · rename_i x hx
      split at h
      · rename_i xs hxs
        injection h with h
        subst h
        obtain ⟨y, hy, hyv⟩ := res1_ok hs hf (hn q (by simp)) hx
        obtain ⟨ys, hys, hysv⟩ := resL_ok hs hf l (fun q hq => hn q (by simp [hq])) xs hxs
        refine ⟨y :: ys, ?_, by simp [hysv.1], fun j hj => ?_⟩
        · simp only [List.mapM_cons, Sem.run_bind, hy, Result.andThen_ok, hys, Sem.run_pure]
        · cases j with
          | zero => simpa using hyv
          | succ j => simpa using hysv.2 j (by simpa using hj)
      · cases h
    · cases h
theorem results_ok {F : Froz} {w : World} {n : Nat} {fr : Fr} {a : Act} {P : Program} {fn : Func} {σ : St} (hs : Rel F w σ) (hf : FrRel F w n fr a) (hn : ∀ q ∈ fn.results.toList, tmpOf q < n) {r : AV} (h : aResult P fr σ fn.results.toList = some r) :
    ∃ x, (results fn a.tmps).run P w = .ok x w ∧ RV F w r x := by
  unfold aResult at h
  split at h
  · rename_i rs hrs
    injection h with h
    subst h
    obtain ⟨xs, hx, hv⟩ := resL_ok hs hf _ hn rs hrs
    refine ⟨oneOf xs, ?_, ?_⟩
    · unfold results
      rw [Array.mapM_eq_mapM_toList, map_eq_pure_bind, Sem.run_bind, Sem.run_bind]
      refine (congrArg (fun q => Result.andThen (Result.andThen q _) _) hx).trans ?_
      simp only [Result.andThen_ok, Sem.run_pure, oneOf_eq]
    · match rs, xs, hv with
      | [], [], hv => exact .tup _ _ (by simp) (fun j hj => by simp at hj)
      | [r], [x], hv => exact hv.2 0 (by simp)
      | r :: r' :: rs, x :: x' :: xs, hv => exact .tup _ _ (by simpa using hv.1) (fun j hj => by simpa using hv.2 j hj)
      | [], _ :: _, hv => exact absurd hv.1 (by simp)
      | [_], [], hv => exact absurd hv.1 (by simp)
      | [_], _ :: _ :: _, hv => exact absurd hv.1 (by simp)
      | _ :: _ :: _, [], hv => exact absurd hv.1 (by simp)
      | _ :: _ :: _, [_], hv => exact absurd hv.1 (by simp)
  · cases h

/-- A function keeps what its body keeps. -/
theorem AT.of_body {P : Program} {f : FuncId} {fn : Func} {c : Code} {args : List AV} {σ : St} {Q : AV → St → Prop} (hf : P.funcs[f]? = some fn) (hb : fn.body = some c) (hname : fn.name ≠ "runtime.NumGoroutine")
    (hok : okCode fn.ntmps c = true) (hres : fn.results.toList.all (fun q => decide (tmpOf q < fn.ntmps)) = true) (hargs : args.length ≤ fn.ntmps) (h : aCode P c (AK.fn P Q fn.results.toList) (enterFr args) σ) : AT P f args σ Q := by
  refine .inl ⟨by simp [callable, hf, hb, hname], fun F w vs hs hv => ?_⟩
  refine calls_of_wp hf hb ?_
  have hfr : FrRel F w fn.ntmps (enterFr args) { tmps := vs.toArray ++ Array.replicate (fn.ntmps - vs.toArray.size) undef, defers := [] } := by
    refine ⟨by simp; have := hv.1; omega, rfl, fun t ht => ?_⟩
    by_cases hlt : t < args.length
    · have := hv.2 t hlt
      have e : (vs.toArray ++ Array.replicate (fn.ntmps - vs.toArray.size) undef).getD t undef = vs.getD t undef := by
        simp only [Array.getD_eq_getD_getElem?, List.getD_eq_getElem?_getD]
        rw [Array.getElem?_append_left (by simp; rw [hv.1]; exact hlt)]
        simp
      show RV F w (args.getD t (.v undef)) _
      rw [e]
      exact this
    · have e : (vs.toArray ++ Array.replicate (fn.ntmps - vs.toArray.size) undef).getD t undef = undef := by
        simp only [Array.getD_eq_getD_getElem?]
        rw [Array.getElem?_append_right (by simp; rw [hv.1]; omega)]
        simp only [Array.getElem?_replicate]
        split <;> rfl
      have e2 : enterFr args t = .v undef := by
        unfold enterFr
        rw [List.getD_eq_getElem?_getD, List.getElem?_eq_none (by omega)]
        rfl
      rw [e, e2]
      exact .v _
  refine wp_mono (aCode_sound c hok _ _ σ h F w _ hs hfr) fun e a' w' hq => ?_
  have fin : ∀ K, Now F w σ fn.ntmps K a' w' → (∀ fr σ', K fr σ' → aRet P Q fn.results.toList fr σ') → a'.defers = [] ∧ ∃ v, (results fn a'.tmps).run P w' = .ok v w' ∧ ∃ x F' σ' r, Ending.returned v = .returned x ∧ Ext F w σ F' w' σ' ∧ Rel F' w' σ' ∧ RV F' w' r x ∧ Q r σ' := fun K ⟨F', fr', σ', g1, g2, g3, g4⟩ hK => by
    obtain ⟨r, hr, r', σ'', hview, hq⟩ := hK _ _ g4
    obtain ⟨x, hx, hxr⟩ := results_ok (P := P) g2 g3 (fun q hq => by
      have := List.all_eq_true.1 hres _ hq
      simpa using this) hr
    obtain ⟨F'', k1, k2, k3⟩ := hview F' w' x g2 hxr
    exact ⟨g3.defers, x, hx, x, F'', σ'', r', rfl, g1.trans k1, k2, k3, hq⟩
  cases e with
  | normal => exact fin _ hq fun _ _ h => h
  | ret => exact fin _ hq fun _ _ h => h
  | exit id => obtain ⟨_, _, _, _, _, _, h⟩ := hq; exact h.elim
  | goto l => obtain ⟨_, _, _, _, _, _, h⟩ := hq; exact h.elim
  | panic _ => exact hq.elim
  | outgrown => exact hq.elim
end Go.Av
