/-
  The program logic, part 11: regions, branches, blocks, loops, functions.
  Conditions: none (a library of definitions and lemmas over any program).
-/
import Derived.Test.YthdfpankebjleaaAvCtl
import Derived.Scope
set_option linter.unusedVariables false
set_option linter.unusedSimpArgs false
namespace Go.Av
open Go Go.RowKit

/-! ### Regions -/
/-- A yes-or-no decides. -/
def aIf (b : Bool) (A B : Prop) : Prop := if b = true then A else B
def aGd (ds : List (Option Nat)) (fr : Fr) (g : Option (Nat × Bool)) (A B : Prop) : Prop :=
  match g with
  | none => A
  | some (j, want) => match ds.getD j none with
    | some d => match fr d with
      | .v (.bool b) => if want then aIf b A B else aIf b B A
      | .v _ => B
      | _ => False
    | none => False

def aOps (P : Program) (ds : List (Option Nat)) : List Oper → (Fr → St → Prop) → Fr → St → Prop
  | [], K, fr, σ => K fr σ
  | o :: r, K, fr, σ => aGd ds fr o.guard (aOp P o.op fr σ fun v σ' => aOps P ds r K (fr.put o.dst v) σ') (aOps P ds r K (fr.put o.dst (.v undef)) σ)

/-- The slots that a region writes, one an operation. -/
def dsts (ops : Array Oper) : List (Option Nat) := ops.toList.map (·.dst)

/-- The operations by their numbers, in an order. -/
def aOrd (P : Program) (ops : Array Oper) : List Nat → (Fr → St → Prop) → Fr → St → Prop
  | [], K, fr, σ => K fr σ
  | i :: r, K, fr, σ => match ops[i]? with
    | none => aOrd P ops r K fr σ
    | some o => aGd (dsts ops) fr o.guard (aOp P o.op fr σ fun v σ' => aOrd P ops r K (fr.put o.dst v) σ') (aOrd P ops r K (fr.put o.dst (.v undef)) σ)

/-- In whatever order a region's operations are carried out. -/
def aDraw (P : Program) (ops : Array Oper) (K : Fr → St → Prop) (fr : Fr) (σ : St) : Prop :=
  ∀ t, aOrd P ops (Region.schedule (P.follows .mixedOrders) ops t) K fr σ

inductive AEx where
  | normal
  | exit (id : Nat)
  | goto (l : Nat)
  | ret

abbrev AK := AEx → Fr → St → Prop

def AK.then (A : Fr → St → Prop) (K : AK) : AK
  | .normal, fr, σ => A fr σ
  | e, fr, σ => K e fr σ
def AK.block (id : Nat) (K : AK) : AK
  | .exit j, fr, σ => if j = id then K .normal fr σ else K (.exit j) fr σ
  | e, fr, σ => K e fr σ
def AK.noGoto (K : AK) : AK
  | .goto _, _, _ => False
  | e, fr, σ => K e fr σ

/-- A loop: what holds at each round's head, by a parameter that goes down. -/
def aLoop (body : AK → Fr → St → Prop) (K : AK) (fr : Fr) (σ : St) : Prop :=
  ∃ (I : Nat → Fr → St → Prop), (∃ m, I m fr σ) ∧ ∀ m fr σ, I m fr σ → body (AK.then (fun fr' σ' => ∃ m', m' < m ∧ I m' fr' σ') K) fr σ

def aCond (x : AV) (A B : Prop) : Prop :=
  match x with
  | .v (.bool b) => aIf b A B
  | _ => False

/-- Behind a loop over a function, of whose record l is the block: on behind it; or where a round has left it. -/
def aPend (pend : Option Code) (K : AK) (fr : Fr) (σ : St) : Prop :=
  match pend with
  | none => K .normal fr σ
  | some .ret => K .ret fr σ
  | some (.exit id) => K (.exit id) fr σ
  | _ => False
def aAfter (l : Nat) (K : AK) (fr : Fr) (σ : St) : Prop :=
  match σ l with
  | some (.loop _ _ _ _ _ st pend) => st ≠ .busy ∧ aPend pend K fr (σ.del l)
  | _ => False
/-- A loop over a function: it is called with what hands values to the loop's rounds. -/
def aRange (P : Program) (g : AV) (ps : List Nat) (assign body : Code) (K : AK) (fr : Fr) (σ : St) : Prop :=
  match g with
  | .v (.func (.func f) first captured) => ∀ n l, σ l = none → (∀ x o, σ x = some o → x ≠ l) → AT P f (first.toList.map .v ++ [.v (.func (.yield l) #[] #[])] ++ captured.toList.map .v) (σ.set l (.loop fr n ps assign body .ready none)) fun _ σ' => aAfter l K fr σ'
  | _ => False
def aCode (P : Program) : Code → AK → Fr → St → Prop
  | .skip, K, fr, σ => K .normal fr σ
  | .region _ ops false, K, fr, σ => aOps P (dsts ops) ops.toList (K .normal) fr σ
  | .region _ ops true, K, fr, σ => aDraw P ops (K .normal) fr σ
  | .seq x y, K, fr, σ => aCode P x (AK.then (aCode P y K) K) fr σ
  | .cond c x y, K, fr, σ => aCond (fr.ev c) (aCode P x K fr σ) (aCode P y K fr σ)
  | .block id x, K, fr, σ => aCode P x (AK.block id K) fr σ
  | .loop x, K, fr, σ => aLoop (aCode P x) K fr σ
  | .exit id, K, fr, σ => K (.exit id) fr σ
  | .scope x, K, fr, σ => aCode P x (AK.noGoto K) fr σ
  | .ret, K, fr, σ => K .ret fr σ
  | .label _, K, fr, σ => K .normal fr σ
  | .rangeFunc g ps assign body, K, fr, σ => aRange P (fr.ev g) ps.toList assign body K fr σ
  | _, _, _, _ => False

section
variable {P : Program} {n : Nat}

/-- What an activation has to do at its end: shut the blocks of the loops over functions that it went through (each lies behind B and is not tracked); call functions that do nothing. -/
def Marks (P : Program) (B : Nat) (w : World) (σ : St) : List Deferred → Prop
  | [] => True
  | d :: ds => ((∃ b, d.target = .collected b ∧ B ≤ b ∧ w.heap[b]? = some (.deferred (some [])) ∧ σ b = none ∧ ∀ d' ∈ ds, d'.target ≠ .collected b) ∨ IdleD P d) ∧ Marks P B w σ ds
theorem Marks.mono {B : Nat} {F F' : Froz} {w w' : World} {σ σ' : St} (he : Ext F w σ F' w' σ') : ∀ {ds : List Deferred}, Marks P B w σ ds → Marks P B w' σ' ds
  | [], _ => trivial
  | d :: ds, ⟨.inl ⟨b, h1, h2, h3, h4, h5⟩, h⟩ => by
    obtain ⟨g1, g2, _⟩ := he.old b (Array.getElem?_eq_some_iff.1 h3).1 h4
    exact ⟨.inl ⟨b, h1, h2, g1.trans h3, g2, h5⟩, h.mono he⟩
  | d :: ds, ⟨.inr hi, h⟩ => ⟨.inr hi, h.mono he⟩
theorem Marks.put {B : Nat} {w : World} {σ : St} {l : Nat} {o o' : Obj} (hl : w.heap[l]? = some o) (ho : o ≠ .deferred (some [])) : ∀ {ds : List Deferred}, Marks P B w σ ds → Marks P B (w.putObj l o') (σ.del l) ds
  | [], _ => trivial
  | d :: ds, ⟨.inl ⟨b, h1, h2, h3, h4, h5⟩, h⟩ => by
    have hne : b ≠ l := fun e => by subst e; rw [hl] at h3; injection h3 with h3; exact ho h3
    exact ⟨.inl ⟨b, h1, h2, (World.putObj_heap_other hne).trans h3, by simp [St.del, hne, h4], h5⟩, h.put hl ho⟩
  | d :: ds, ⟨.inr hi, h⟩ => ⟨.inr hi, h.put hl ho⟩
theorem Marks.lt {B : Nat} {w : World} {σ : St} : ∀ {ds : List Deferred}, Marks P B w σ ds → ∀ d ∈ ds, ∀ b, d.target = .collected b → b < w.heap.size
  | [], _, d, hd, _, _ => by cases hd
  | d0 :: ds, ⟨h0, h⟩, d, hd, b', he => by
    rcases List.mem_cons.1 hd with rfl | hd
    · rcases h0 with ⟨b, h1, h2, h3, h4, h5⟩ | ⟨fv, cap, f, args, h1, _⟩
      · rw [h1] at he
        injection he with he
        subst he
        exact (Array.getElem?_eq_some_iff.1 h3).1
      · rw [h1] at he; cases he
    · exact h.lt d hd b' he
theorem Marks.app {B : Nat} {w : World} {σ : St} {ds : List Deferred} (h : Marks P B w σ ds) : ∀ {l : List Deferred}, (∀ d ∈ l, IdleD P d) → Marks P B w σ (l ++ ds)
  | [], _ => h
  | d :: l, hl => ⟨.inr (hl d (by simp)), h.app fun d hd => hl d (by simp [hd])⟩
theorem put_defers (a : Act) (d : Option Nat) (x : Value) : (a.put d x).defers = a.defers := by cases d <;> rfl

theorem FrRel.defers {F : Froz} {w : World} {n : Nat} {fr : Fr} {a : Act} (h : FrRel F w n fr a) (l : List Deferred) : FrRel F w n fr { a with defers := l } := ⟨h.size, h.slot⟩
/-- From where σ was tracked, in (F, w): the frame and what is tracked now, of which K holds. -/
def Now (P : Program) (F0 : Froz) (w0 : World) (σ0 : St) (n B : Nat) (K : Fr → St → Prop) (a : Act) (w : World) : Prop :=
  ∃ F fr σ, Ext F0 w0 σ0 F w σ ∧ Rel F w σ ∧ FrRel F w n fr a ∧ Marks P B w σ a.defers ∧ K fr σ
def NowE (P : Program) (F0 : Froz) (w0 : World) (σ0 : St) (n B : Nat) (K : AK) : Exit → Act → World → Prop
  | .normal, a, w => Now P F0 w0 σ0 n B (K .normal) a w
  | .exit id, a, w => Now P F0 w0 σ0 n B (K (.exit id)) a w
  | .goto l, a, w => Now P F0 w0 σ0 n B (K (.goto l)) a w
  | .ret, a, w => Now P F0 w0 σ0 n B (K .ret) a w
  | _, _, _ => False

theorem wanted_of {F : Froz} {w : World} {fr : Fr} {a : Act} {ops : Array Oper} {o : Oper} {A B : Prop} (hok : okOper n ops o = true) (hf : FrRel F w n fr a) (h : aGd (dsts ops) fr o.guard A B) :
    (Region.wanted o (yielded ops a.tmps) = true ∧ A) ∨ (Region.wanted o (yielded ops a.tmps) = false ∧ B) := by
  unfold aGd at h
  cases hg : o.guard with
  | none => rw [hg] at h; exact .inl ⟨by simp [Region.wanted, hg], h⟩
  | some q =>
    obtain ⟨j, want⟩ := q
    rw [hg] at h
    simp only at h
    have hds : (dsts ops).getD j none = (ops[j]?).bind (·.dst) := by
      simp only [dsts, List.getD_eq_getElem?_getD, List.getElem?_map, Array.getElem?_toList]
      cases ops[j]? <;> rfl
    cases hd : (ops[j]?).bind (·.dst) with
    | none => rw [hds, hd] at h; exact h.elim
    | some d =>
      rw [hds, hd] at h
      simp only at h
      split at h
      · rename_i b hb
        have hdn : d < n := by
          simp only [okOper, Bool.and_eq_true, hg, hd] at hok
          simpa using hok.2
        have hv := hf.slot d hdn
        rw [hb] at hv
        have he := hv.eq
        have hlt : d < a.tmps.size := by rw [hf.size]; exact hdn
        have hy : yielded ops a.tmps j = some b := by
          simp only [yielded, hd, Option.bind_some, Array.getElem?_eq_getElem hlt]
          have : a.tmps.getD d undef = a.tmps[d] := by simp [hlt]
          rw [this] at he
          rw [he]
        have hw : Region.wanted o (yielded ops a.tmps) = (b == want) := by
          simp [Region.wanted, hg, hy]
        rw [hw]
        cases b <;> cases want <;> simp [aIf] at h ⊢ <;> exact h
      · rename_i y hnb hb
        have hdn : d < n := by
          simp only [okOper, Bool.and_eq_true, hg, hd] at hok
          simpa using hok.2
        have hv := hf.slot d hdn
        rw [hb] at hv
        have he := hv.eq
        have hlt : d < a.tmps.size := by rw [hf.size]; exact hdn
        have hy : yielded ops a.tmps j = none := by
          simp only [yielded, hd, Option.bind_some, Array.getElem?_eq_getElem hlt]
          have : a.tmps.getD d undef = a.tmps[d] := by simp [hlt]
          rw [this] at he
          rw [he]
          cases y <;> first | rfl | exact absurd rfl (hnb _)
        exact .inr ⟨by simp [Region.wanted, hg, hy], h⟩
      · exact h.elim

theorem aOrd_sound (ro : Option Nat) (B : Nat) (ops : Array Oper) (hro : ro = none ∨ ∀ o ∈ ops.toList, notDefer o.op = true) (hok : ∀ o ∈ ops.toList, okOper n ops o = true) : ∀ (l : List Nat) (K : Fr → St → Prop) (fr : Fr) (σ : St), aOrd P ops l K fr σ → ∀ F w a (Q : Exit → Act → World → Prop), Rel F w σ → FrRel F w n fr a → Marks P B w σ a.defers →
    (∀ a' w', Now P F w σ n B K a' w' → Q .normal a' w') → wpOpsIn (wd ro) 0 P ops Q l a w
  | [], K, fr, σ, h, F, w, a, Q, hs, hf, hm, hk => hk a w ⟨F, fr, σ, .refl F w σ, hs, hf, hm, h⟩
  | i :: r, K, fr, σ, h, F, w, a, Q, hs, hf, hm, hk => by
    unfold wpOpsIn
    simp only [aOrd] at h
    cases hi : ops[i]? with
    | none =>
      rw [hi] at h
      exact aOrd_sound ro B ops hro hok r K fr σ h F w a Q hs hf hm hk
    | some o =>
      rw [hi] at h
      simp only at h ⊢
      have hoo : okOper n ops o = true := hok o (by have := Array.mem_of_getElem? hi; simpa using this)
      rcases wanted_of hoo hf h with ⟨hw, h⟩ | ⟨hw, h⟩
      · rw [if_pos hw]
        refine aOp_sound hoo hf hs h ro _ Q (hro.imp_right fun h => h o (by have := Array.mem_of_getElem? hi; simpa using this)) fun F' w' x v σ' ds h1 h2 h3 h4 h5 => ?_
        exact aOrd_sound ro B ops hro hok r K _ σ' h4 F' w' _ Q h2 (((hf.mono h1.keeps).put o.dst (okOper_dst hoo) h3).defers _) ((hm.mono h1).app h5) fun a'' w'' ⟨F'', fr'', σ'', g1, g2, g3, g4, g5⟩ => hk a'' w'' ⟨F'', fr'', σ'', h1.trans g1, g2, g3, g4, g5⟩
      · rw [if_neg (by simp [hw])]
        exact ⟨fun _ _ => trivial, aOrd_sound ro B ops hro hok r K _ σ h F w _ Q hs (hf.put o.dst (okOper_dst hoo) (.v undef)) (by rw [put_defers]; exact hm) hk⟩

theorem aOps_ord (ops : Array Oper) : ∀ (l : List Oper) (k : Nat), (∀ j, l[j]? = ops[k + j]?) → aOrd P ops (List.range' k l.length) = aOps P (dsts ops) l
  | [], k, _ => rfl
  | o :: l, k, hl => by
    have h0 : ops[k]? = some o := by simpa using (hl 0).symm
    have ih := aOps_ord ops l (k + 1) (fun j => by have := hl (j + 1); simpa [Nat.add_assoc, Nat.add_comm 1 j] using this)
    funext K fr σ
    simp only [List.length_cons, List.range'_succ, aOrd, h0, aOps, ih]

theorem region_sound (ro : Option Nat) (B : Nat) {id : Nat} {ops : Array Oper} {d : Bool} (hro : ro = none ∨ flat (.region id ops d) = true) (hok : ops.all (okOper n ops) = true) {K : AK} {F : Froz} {w : World} {fr : Fr} {σ : St} {a : Act} (hs : Rel F w σ) (hf : FrRel F w n fr a) (hm : Marks P B w σ a.defers)
    (h : aCode P (.region id ops d) K fr σ) : (Code.region id ops d).wpIn (wd ro) 0 P (NowE P F w σ n B K) a w := by
  have hok' : ∀ o ∈ ops.toList, okOper n ops o = true := fun o ho => Array.all_eq_true_iff_forall_mem.1 hok o (by simpa using ho)
  have hro' : ro = none ∨ ∀ o ∈ ops.toList, notDefer o.op = true := hro.imp_right fun h => List.all_eq_true.1 h
  cases d with
  | false =>
    refine wpIn_region ?_
    simp only [aCode] at h
    have e := aOps_ord (P := P) ops ops.toList 0 (by simp)
    rw [← List.range_eq_range', Array.length_toList] at e
    rw [← e] at h
    exact aOrd_sound ro B ops hro' hok' _ _ fr σ h F w a _ hs hf hm fun a' w' h => h
  | true =>
    refine wpIn_region_draw fun t => ?_
    have hkp := Keeps.drew F w
    have he : Ext F w σ F w.drew σ := Ext.drew (.refl F w σ)
    refine aOrd_sound ro B ops hro' hok' _ _ fr σ (h t) F w.drew a _ hs.drew (hf.mono hkp) (hm.mono he) fun a' w' ⟨F', fr', σ', g1, g2, g3, g4, g5⟩ => ?_
    exact ⟨F', fr', σ', he.trans g1, g2, g3, g4, g5⟩

theorem now_mono {B : Nat} {F0 F : Froz} {w0 w : World} {σ0 σ : St} {K K' : Fr → St → Prop} (he : Ext F0 w0 σ0 F w σ) (hk : ∀ fr σ, K fr σ → K' fr σ) {a : Act} {w' : World} (h : Now P F w σ n B K a w') : Now P F0 w0 σ0 n B K' a w' := by
  obtain ⟨F', fr', σ', g1, g2, g3, g4, g5⟩ := h
  exact ⟨F', fr', σ', he.trans g1, g2, g3, g4, hk _ _ g5⟩
theorem nowE_mono {B : Nat} {F0 F : Froz} {w0 w : World} {σ0 σ : St} {K : AK} (he : Ext F0 w0 σ0 F w σ) {e : Exit} {a : Act} {w' : World} (h : NowE P F w σ n B K e a w') : NowE P F0 w0 σ0 n B K e a w' := by
  cases e <;> first | exact now_mono he (fun _ _ h => h) h | exact h

/-- The least number of which something holds. -/
theorem least (p : Nat → Prop) (h : ∃ m, p m) : ∃ m, p m ∧ ∀ m', p m' → m ≤ m' := by
  obtain ⟨m, hm⟩ := h
  induction m using Nat.strongRecOn with
  | _ m ih =>
    by_cases hx : ∃ m', m' < m ∧ p m'
    · obtain ⟨m', h1, h2⟩ := hx
      exact ih m' h1 h2
    · refine ⟨m, hm, fun m' h' => ?_⟩
      rcases Nat.lt_or_ge m' m with h1 | h1
      · exact absurd ⟨m', h1, h'⟩ hx
      · exact h1

theorem wp_loop_by {fe : Fence} {c : Code} {Q : Exit → Act → World → Prop} {a : Act} {w : World} (I : Nat → Act → World → Prop) (h₀ : ∃ m, I m a w) (round : ∀ m a w, I m a w → c.wpIn fe 0 P (Exit.then (fun a' w' => ∃ m', m' < m ∧ I m' a' w') Q) a w) : (Code.loop c).wpIn fe 0 P Q a w := by
  classical
  let μ : Act → World → Nat := fun a w => if h : ∃ m, I m a w then Classical.choose (least _ h) else 0
  have hμ : ∀ a w, (∃ m, I m a w) → I (μ a w) a w ∧ ∀ m', I m' a w → μ a w ≤ m' := fun a w h => by
    have := Classical.choose_spec (least _ h)
    simp only [μ, dif_pos h]
    exact this
  refine wpIn_loop (fun a w => ∃ m, I m a w) μ h₀ fun a w hI => ?_
  obtain ⟨h1, h2⟩ := hμ a w hI
  refine wpIn_mono (round _ a w h1) fun e a' w' hq => ?_
  cases e with
  | normal =>
    obtain ⟨m', hm, hI'⟩ := hq
    exact ⟨⟨m', hI'⟩, Nat.lt_of_le_of_lt ((hμ a' w' ⟨m', hI'⟩).2 m' hI') hm⟩
  | _ => exact hq

/-- A block of another kind becomes another one. -/
theorem putObj_keeps {F : Froz} {w : World} {b : Nat} {o o' : Obj} (hb : w.heap[b]? = some o) (h1 : ∀ c e m, o ≠ .cells c e m) (h2 : ∀ c e m, o' ≠ .cells c e m) : Keeps F w F (w.putObj b o') :=
  ⟨fun _ => Nat.le_refl _, fun x off _ => by
    by_cases hx : x = b
    · subst hx
      have e1 : (w.putObj x o').heap[x]? = some o' := World.putObj_heap_same (Array.getElem?_eq_some_iff.1 hb).1
      simp only [World.cell?, hb, e1]
      have k : ∀ (o : Obj), (∀ c e m, o ≠ .cells c e m) → (match some o with | some (.cells c _ _) => (if (none : Option Nat).isSome then none else c[off]?) | _ => none) = (none : Option Value) := fun o h => by
        cases o with
        | cells c e m => exact absurd rfl (h c e m)
        | _ => rfl
      exact (k o' h2).trans (k o h1).symm
    · simp only [World.cell?, World.putObj_heap_other hx]⟩
/-- .. one that is not tracked. -/
theorem shut_ok {F0 F : Froz} {w0 w : World} {σ0 σ : St} (he : Ext F0 w0 σ0 F w σ) (hs : Rel F w σ) {b : Nat} {o o' : Obj} (hb : w.heap[b]? = some o) (h1 : ∀ c e m, o ≠ .cells c e m) (h2 : ∀ c e m, o' ≠ .cells c e m) (hn : σ b = none) (hB : w0.heap.size ≤ b) :
    Ext F0 w0 σ0 F (w.putObj b o') σ ∧ Rel F (w.putObj b o') σ := by
  have hk := putObj_keeps (F := F) hb h1 h2
  refine ⟨⟨he.keeps.trans hk, he.os, he.tape, he.output, by rw [World.putObj_size]; exact he.size, fun x hx hxn => ?_⟩, ⟨fun x t hx => ?_, fun x hx => hs.lt x (by rw [World.putObj_size] at hx; exact hx)⟩⟩
  · obtain ⟨g1, g2, g3⟩ := he.old x hx hxn
    exact ⟨(World.putObj_heap_other (by omega)).trans g1, g2, g3⟩
  · have hne : x ≠ b := fun e => by subst e; rw [hn] at hx; cases hx
    exact (hs.obj x t hx).mono hk (World.putObj_heap_other hne) rfl

theorem aCode_sound (ro : Option Nat) (B : Nat) : ∀ (c : Code), (ro = none ∨ flat c = true) → okCode n c = true → ∀ (K : AK) (fr : Fr) (σ : St), aCode P c K fr σ → ∀ F w a, Rel F w σ → FrRel F w n fr a → Marks P B w σ a.defers → B ≤ w.heap.size → c.wpIn (wd ro) 0 P (NowE P F w σ n B K) a w
  | .skip, _, _, K, fr, σ, h, F, w, a, hs, hf, hm, hB => wpIn_skip ⟨F, fr, σ, .refl F w σ, hs, hf, hm, h⟩
  | .label _, _, _, K, fr, σ, h, F, w, a, hs, hf, hm, hB => wpIn_label ⟨F, fr, σ, .refl F w σ, hs, hf, hm, h⟩
  | .exit _, _, _, K, fr, σ, h, F, w, a, hs, hf, hm, hB => wpIn_exit ⟨F, fr, σ, .refl F w σ, hs, hf, hm, h⟩
  | .ret, _, _, K, fr, σ, h, F, w, a, hs, hf, hm, hB => wpIn_ret ⟨F, fr, σ, .refl F w σ, hs, hf, hm, h⟩
  | .region _ ops d, hro, hok, K, fr, σ, h, F, w, a, hs, hf, hm, hB => region_sound ro B hro hok hs hf hm h
  | .seq x y, hfl, hok, K, fr, σ, h, F, w, a, hs, hf, hm, hB => by
    simp only [okCode, Bool.and_eq_true] at hok
    simp only [flat, Bool.and_eq_true] at hfl
    refine wpIn_seq (wpIn_mono (aCode_sound ro B x (hfl.imp_right And.left) hok.1 _ fr σ h F w a hs hf hm hB) fun e a' w' hq => ?_)
    cases e with
    | normal =>
      obtain ⟨F', fr', σ', g1, g2, g3, g4, g5⟩ := hq
      exact wpIn_mono (aCode_sound ro B y (hfl.imp_right And.right) hok.2 K fr' σ' g5 F' w' a' g2 g3 g4 (Nat.le_trans hB g1.size)) fun e a'' w'' h => nowE_mono g1 h
    | exit id => exact hq
    | goto l => exact hq
    | ret => exact hq
    | panic _ => exact hq
    | outgrown => exact hq
  | .cond c x y, hfl, hok, K, fr, σ, h, F, w, a, hs, hf, hm, hB => by
    simp only [okCode, Bool.and_eq_true] at hok
    simp only [flat, Bool.and_eq_true] at hfl
    simp only [aCode] at h
    have hv := hf.ev c hok.1.1
    revert h hv
    generalize fr.ev c = q
    intro h hv
    unfold aCond at h
    split at h
    · rename_i b
      have e := hv.eq
      cases b with
      | true => exact wpIn_cond_true e (aCode_sound ro B x (hfl.imp_right And.left) hok.1.2 K fr σ (by simpa [aIf] using h) F w a hs hf hm hB)
      | false => exact wpIn_cond_false e (aCode_sound ro B y (hfl.imp_right And.right) hok.2 K fr σ (by simpa [aIf] using h) F w a hs hf hm hB)
    · exact h.elim
  | .block id x, hfl, hok, K, fr, σ, h, F, w, a, hs, hf, hm, hB => by
    refine wpIn_block (wpIn_mono (aCode_sound ro B x hfl hok _ fr σ h F w a hs hf hm hB) fun e a' w' hq => ?_)
    cases e with
    | exit j =>
      obtain ⟨F', fr', σ', g1, g2, g3, g4, g5⟩ := hq
      simp only [AK.block] at g5
      simp only [Exit.inBlock]
      split
      · rename_i hj; rw [if_pos hj] at g5; exact ⟨F', fr', σ', g1, g2, g3, g4, g5⟩
      · rename_i hj; rw [if_neg hj] at g5; exact ⟨F', fr', σ', g1, g2, g3, g4, g5⟩
    | normal => exact hq
    | goto l => exact hq
    | ret => exact hq
    | panic _ => exact hq
    | outgrown => exact hq
  | .scope x, hfl, hok, K, fr, σ, h, F, w, a, hs, hf, hm, hB => by
    rcases hfl with rfl | hfl
    · refine (wpIn_wide (n := 0)).2 (wp_scope_straight ((wpIn_wide (n := 0)).1 (wpIn_mono (aCode_sound none B x (.inl rfl) hok _ fr σ h F w a hs hf hm hB) fun e a' w' hq => ?_)))
      cases e with
      | goto l => obtain ⟨F', fr', σ', g1, g2, g3, g4, g5⟩ := hq; exact g5.elim
      | normal => exact hq
      | exit j => exact hq
      | ret => exact hq
      | panic _ => exact hq
      | outgrown => exact hq
    · cases hfl
  | .loop x, hfl, hok, K, fr, σ, h, F, w, a, hs, hf, hm, hB => by
    obtain ⟨I, ⟨m, h0⟩, hr⟩ := h
    refine wp_loop_by (fun m a' w' => ∃ F' fr' σ', Ext F w σ F' w' σ' ∧ Rel F' w' σ' ∧ FrRel F' w' n fr' a' ∧ Marks P B w' σ' a'.defers ∧ I m fr' σ') ⟨m, F, fr, σ, .refl F w σ, hs, hf, hm, h0⟩ fun m a' w' ⟨F', fr', σ', g1, g2, g3, g4, g5⟩ => ?_
    refine wpIn_mono (aCode_sound ro B x hfl hok _ fr' σ' (hr m fr' σ' g5) F' w' a' g2 g3 g4 (Nat.le_trans hB g1.size)) fun e a'' w'' hq => ?_
    cases e with
    | normal =>
      obtain ⟨F'', fr'', σ'', k1, k2, k3, k4, m', hm, hI⟩ := hq
      exact ⟨m', hm, F'', fr'', σ'', g1.trans k1, k2, k3, k4, hI⟩
    | exit id => exact now_mono g1 (fun _ _ h => h) hq
    | goto l => exact now_mono g1 (fun _ _ h => h) hq
    | ret => exact now_mono g1 (fun _ _ h => h) hq
    | panic _ => exact hq
    | outgrown => exact hq
  | .rangeFunc g ps assign body, hfl, hok, K, fr, σ, h, F, w, a, hs, hf, hm, hB => by
    rcases hfl with rfl | hfl
    · simp only [okCode, Bool.and_eq_true] at hok
      obtain ⟨⟨⟨ok1, ok2⟩, ok3⟩, ok4⟩ := hok
      have hgv := hf.ev g ok1
      simp only [aCode, aRange] at h
      split at h
      case h_2 => exact h.elim
      rename_i f first captured hgq
      rw [hgq] at hgv
      refine wpIn_rangeFunc fun fn _ => ?_
      -- the two new blocks
      let w1 := w.alloc (.deferred (some []))
      let rec0 : Loop := { state := .ready, pending := none, fn, tmps := a.tmps, params := ps, assign, body, defers := w.heap.size }
      let w2 := w1.alloc (.loop rec0)
      have hsz1 : w1.heap.size = w.heap.size + 1 := by simp [w1]
      have e1 : Ext F w σ F w1 σ := ⟨Keeps.alloc hs _, rfl, rfl, rfl, by omega, fun b hb hn => ⟨Below.heap_alloc w _ b hb, hn, rfl⟩⟩
      have r1 : Rel F w1 σ := ⟨fun b o hb => (hs.obj b o hb).mono (Keeps.alloc hs _) (Below.heap_alloc w _ b (hs.lt_size hb)) rfl, fun b hb => hs.lt b (by omega)⟩
      have hln : σ w1.heap.size = none := fresh_none r1 (Nat.le_refl _)
      have hd0 : w1.heap[w.heap.size]? = some (.deferred (some [])) := heap_alloc_new w _
      have hdn : σ w.heap.size = none := fresh_none hs (Nat.le_refl _)
      have hhold : Holds F w2 w1.heap.size (.loop fr n ps.toList assign body .ready none) :=
        ⟨rec0, heap_alloc_new w1 _, r1.lt _ (Nat.le_refl _), rfl, rfl, rfl, rfl, rfl, hf.size, ⟨ok3, ok4, fun t ht => by have := Array.all_eq_true_iff_forall_mem.1 ok2 t (by simpa using ht); simpa using this⟩, fun t ht => ((hf.slot t ht).mono e1.keeps).mono (Keeps.alloc r1 _)⟩
      obtain ⟨r2, e2⟩ := rel_alloc r1 (.loop rec0) _ hhold
      have e12 := e1.trans e2
      have hm' : Marks P B w2 (σ.set w1.heap.size (.loop fr n ps.toList assign body .ready none)) ([{ target := Target.collected w.heap.size, args := #[] }] ++ a.defers) := by
        refine ⟨.inl ⟨w.heap.size, rfl, hB, ?_, ?_, ?_⟩, hm.mono e12⟩
        · exact (Below.heap_alloc w1 _ w.heap.size (by omega)).trans hd0
        · simp only [St.set]; rw [if_neg (by omega)]; exact hdn
        · intro d' hd' he
          have := hm.lt d' hd' _ he
          omega
      have hcall := h n w1.heap.size hln (fun x o hx e => by subst e; rw [hln] at hx; cases hx)
      have hent := run_enterLoop_outer (P := P) (w := w) fn a.tmps ps assign body
      rw [show w.heap.size + 1 = w1.heap.size from hsz1.symm] at hent
      rcases hcall with ⟨hc, hcall⟩ | ⟨_, hcl⟩
      · have hge := hgv.eq
        obtain ⟨yv, hyv⟩ : ∃ yv : Value, yv = .func (.yield w1.heap.size) #[] #[] := ⟨_, rfl⟩
        rw [← hyv] at hcall
        have hargs : RVs F w2 (first.toList.map .v ++ [.v yv] ++ captured.toList.map .v) (first.toList ++ [yv] ++ captured.toList) :=
          ((RVs.ofVals F w2 _).append (RVs.ofVals F w2 [yv])).append (RVs.ofVals F w2 _)
        have hcf : (callFunc f (first ++ #[yv] ++ captured)).run P w2 = .ok (.enter f (first ++ #[yv] ++ captured)) w2 := by
          unfold callable at hc
          split at hc
          · rename_i fn hfn
            simp only [Bool.and_eq_true] at hc
            have k1 : ¬ fn.name = "runtime.NumGoroutine" := by
              have := hc.2
              simpa [bne] using this
            have k2 : ¬ fn.body = none := by intro e; simp [e] at hc
            simp [callFunc, hfn, k1, k2]
          · cases hc
        refine ⟨w1.heap.size, [{ target := .collected w.heap.size, args := #[] }], w2, { target := .fn (.func f) captured, args := first ++ #[yv] }, w2, f, first ++ #[yv] ++ captured, w2, hent, ?_, fun _ _ => trivial, hcf, (fun h => by cases h), ?_⟩
        · simp only [resolve, hge, Deferred.ofValue, Sem.run_bind, Sem.run_pure, Result.andThen_ok]
          rw [hyv]
          simp [Act.eval]
        · have hcl := hcall F w2 _ r2 hargs
          rw [show (first.toList ++ [yv] ++ captured.toList).toArray = first ++ #[yv] ++ captured by apply Array.ext'; simp] at hcl
          refine (callsIn_wide (n := 0)).2 (hcl.mono ?_)
          rintro e w3 ⟨x, F', σ', r, rfl, k1, k2, k3, k4⟩
          unfold aAfter at k4
          split at k4
          · rename_i fr' n' ps' as' bo' st pend hl
            obtain ⟨hst, hpe⟩ := k4
            obtain ⟨r, q1, q2, q3, q4, q5, q6, q7, q8, q9, q10⟩ := k2.obj _ _ hl
            have hb : r.state ≠ .busy := by rw [q6]; exact hst
            have hrun := run_endLoop (P := P) q1 hb
            have e3 : Ext F w σ F' w3 (σ'.del w1.heap.size) := (e12.trans k1).trans (Ext.del F' w3 σ' _)
            obtain ⟨e4, r4⟩ := shut_ok (o' := .loop { r with state := .exhausted }) e3 (k2.del _) q1 (fun _ _ _ h => by cases h) (fun _ _ _ h => by cases h) (by simp [St.del]) (by omega)
            have m4 := (hm'.mono k1).put (o' := .loop { r with state := .exhausted }) q1 (fun h => by cases h)
            have f4 : FrRel F' (w3.putObj w1.heap.size (.loop { r with state := .exhausted })) n fr { a with defers := [{ target := Target.collected w.heap.size, args := #[] }] ++ a.defers } := ⟨hf.size, fun t ht => (hf.slot t ht).mono e4.keeps⟩
            revert hrun e4 r4 m4 f4
            generalize w3.putObj w1.heap.size (.loop { r with state := .exhausted }) = w4
            intro hrun e4 r4 m4 f4
            rw [q7] at hrun
            refine ⟨pend, w4, hrun, ?_⟩
            unfold aPend at hpe
            split at hpe
            · exact ⟨F', fr, _, e4, r4, f4, m4, hpe⟩
            · exact wpIn_ret ⟨F', fr, _, e4, r4, f4, m4, hpe⟩
            · exact wpIn_exit ⟨F', fr, _, e4, r4, f4, m4, hpe⟩
            · exact hpe.elim
          · exact k4.elim
      · unfold aClone at hcl
        split at hcl
        · rename_i t r heq
          have : AV.v (.func (.yield w1.heap.size) #[] #[]) ∈ (first.toList.map AV.v ++ [.v (.func (.yield w1.heap.size) #[] #[])] ++ captured.toList.map AV.v) := by simp
          rw [heq] at this
          simp at this
        · exact hcl.elim
    · cases hfl
  | .goto _, _, _, K, fr, σ, h, F, w, a, hs, hf, hm, hB => h.elim
  | .refuse _, _, _, K, fr, σ, h, F, w, a, hs, hf, hm, hB => h.elim
end

/-! ### Functions -/
/-- The frame at the beginning. -/
def enterFr (args : List AV) : Fr := fun t => args.getD t (.v undef)

def tmpOf : ResultVar → Nat
  | .tmp t => t
  | .cell t _ => t
/-- What a result's variable in memory holds. -/
def aResC (i : Option TK) (σ : St) (p : AV) : Option AV :=
  match i with
  | some i => match p with
    | .v (.pointer (some ⟨b, 0, none⟩)) => match σ b with
      | some (.cells cs) => if i.ag then (if i.sz ≤ cs.length then some (.agg (cs.take i.sz)) else none) else (if 0 < cs.length then some (cs.getD 0 (.v undef)) else none)
      | _ => none
    | _ => none
  | none => none
def aRes1 (P : Program) (fr : Fr) (σ : St) : ResultVar → Option AV
  | .tmp t => some (fr t)
  | .cell b t => aResC (tk P t) σ (fr b)
def aResL (P : Program) (fr : Fr) (σ : St) : List ResultVar → Option (List AV)
  | [] => some []
  | q :: l => match aRes1 P fr σ q with
    | some x => match aResL P fr σ l with
      | some xs => some (x :: xs)
      | none => none
    | none => none
def oneR : List AV → AV
  | [x] => x
  | l => .tup l
/-- What is handed back: a slot's value; or several. -/
def aResult (P : Program) (fr : Fr) (σ : St) (l : List ResultVar) : Option AV :=
  match aResL P fr σ l with
  | some l => some (oneR l)
  | none => none

/-- What is tracked may be forgotten; a value may be seen as a weaker tree; what is tracked may be frozen. -/
def View (σ : St) (r : AV) (σ' : St) (r' : AV) : Prop :=
  ∀ F w x, Rel F w σ → RV F w r x → ∃ F', Ext F w σ F' w σ' ∧ Rel F' w σ' ∧ RV F' w r' x
theorem View.refl (σ : St) (r : AV) : View σ r σ r := fun F w x hs hv => ⟨F, .refl F w σ, hs, hv⟩

/-- At the end of a function. -/
def aRet (P : Program) (Q : AV → St → Prop) (res : List ResultVar) (fr : Fr) (σ : St) : Prop :=
  ∃ r, aResult P fr σ res = some r ∧ ∃ r' σ', View σ r σ' r' ∧ Q r' σ'
def AK.fn (P : Program) (Q : AV → St → Prop) (res : List ResultVar) : AK
  | .normal, fr, σ => aRet P Q res fr σ
  | .ret, fr, σ => aRet P Q res fr σ
  | _, _, _ => False

def oneOf : List Value → Value
  | [x] => x
  | l => .tuple l.toArray
theorem oneOf_eq (l : List Value) : (if h : l.toArray.size = 1 then l.toArray[0] else .tuple l.toArray) = oneOf l := by
  match l with
  | [] => rfl
  | [x] => rfl
  | x :: y :: r => rw [dif_neg (by simp)]; rfl

theorem res1_ok {F : Froz} {w : World} {n : Nat} {fr : Fr} {a : Act} {P : Program} {σ : St} (hs : Rel F w σ) (hf : FrRel F w n fr a) {q : ResultVar} (hn : tmpOf q < n) {r : AV} (h : aRes1 P fr σ q = some r) :
    ∃ x, (match q with
        | ResultVar.tmp t => (pure (a.tmps.getD t undef) : Sem Value)
        | ResultVar.cell b t => do loadVar t (← asAddr (a.tmps.getD b undef))).run P w = .ok x w ∧ RV F w r x := by
  cases q with
  | tmp t =>
    injection h with h
    subst h
    exact ⟨_, rfl, hf.slot t hn⟩
  | cell b t =>
    simp only [aRes1] at h
    have hv := hf.slot b hn
    cases ht : tk P t with
    | none => rw [ht] at h; cases h
    | some i =>
      rw [ht] at h
      unfold aResC at h
      simp only at h
      split at h
      · rename_i b' hfr
        rw [hfr] at hv
        have e := hv.eq
        split at h
        · rename_i cs hb
          obtain ⟨c, e', m, g1, g2, g3, g4, g4', g5⟩ := hs.obj b' _ hb
          have hcell : ∀ j, j < cs.length → w.cell? ⟨b', 0 + j, none⟩ = some (c.getD j undef) := fun j hj => by
            simp [World.cell?, g1, Array.getD_eq_getD_getElem?, g2, hj]
          have hag : i.ag = true → 0 + i.sz ≤ cs.length := fun hg => by
            rw [if_pos hg] at h
            split at h
            · omega
            · cases h
          have hna : i.ag = false → 0 < cs.length := fun hg => by
            rw [if_neg (by simp [hg])] at h
            split at h
            · assumption
            · cases h
          obtain ⟨y, hy, hyv⟩ := run_load_of ht (o := 0) hcell g5 hag hna
          refine ⟨y, ?_, ?_⟩
          · simp only [e]
            simpa [Instr.loadAt, Instr.sureAddr, asAddr] using hy
          · cases hg : i.ag with
            | true =>
              rw [if_pos hg] at h
              rw [hg, if_pos rfl] at hyv
              split at h
              · injection h with h; subst h; simpa using hyv
              · cases h
            | false =>
              rw [if_neg (by simp [hg])] at h
              rw [hg, if_neg (by simp)] at hyv
              split at h
              · injection h with h; subst h; exact hyv
              · cases h
        · cases h
      · cases h
theorem resL_ok {F : Froz} {w : World} {n : Nat} {fr : Fr} {a : Act} {P : Program} {σ : St} (hs : Rel F w σ) (hf : FrRel F w n fr a) : ∀ (l : List ResultVar), (∀ q ∈ l, tmpOf q < n) → ∀ rs, aResL P fr σ l = some rs →
    ∃ xs, Sem.run P (l.mapM fun
        | ResultVar.tmp t => (pure (a.tmps.getD t undef) : Sem Value)
        | ResultVar.cell b t => do loadVar t (← asAddr (a.tmps.getD b undef))) w = .ok xs w ∧ RVs F w rs xs
  | [], _, rs, h => by
    injection h with h
    subst h
    exact ⟨[], by simp, rfl, fun j hj => by simp at hj⟩
  | q :: l, hn, rs, h => by
    simp only [aResL] at h
    split at h
    · rename_i x hx
      split at h
      · rename_i xs hxs
        injection h with h
        subst h
        obtain ⟨y, hy, hyv⟩ := res1_ok hs hf (hn q (by simp)) hx
        obtain ⟨ys, hys, hysv⟩ := resL_ok hs hf l (fun q hq => hn q (by simp [hq])) xs hxs
        refine ⟨y :: ys, ?_, by simp [hysv.1], fun j hj => ?_⟩
        · simp only [List.mapM_cons, Sem.run_bind, hy, Result.andThen_ok, hys, Sem.run_pure]
        · cases j with
          | zero => simpa using hyv
          | succ j => simpa using hysv.2 j (by simpa using hj)
      · cases h
    · cases h
theorem results_ok {F : Froz} {w : World} {n : Nat} {fr : Fr} {a : Act} {P : Program} {fn : Func} {σ : St} (hs : Rel F w σ) (hf : FrRel F w n fr a) (hn : ∀ q ∈ fn.results.toList, tmpOf q < n) {r : AV} (h : aResult P fr σ fn.results.toList = some r) :
    ∃ x, (results fn a.tmps).run P w = .ok x w ∧ RV F w r x := by
  unfold aResult at h
  split at h
  · rename_i rs hrs
    injection h with h
    subst h
    obtain ⟨xs, hx, hv⟩ := resL_ok hs hf _ hn rs hrs
    refine ⟨oneOf xs, ?_, ?_⟩
    · unfold results
      rw [Array.mapM_eq_mapM_toList, map_eq_pure_bind, Sem.run_bind, Sem.run_bind]
      refine (congrArg (fun q => Result.andThen (Result.andThen q _) _) hx).trans ?_
      simp only [Result.andThen_ok, Sem.run_pure, oneOf_eq]
    · match rs, xs, hv with
      | [], [], hv => exact .tup _ _ (by simp) (fun j hj => by simp at hj)
      | [r], [x], hv => exact hv.2 0 (by simp)
      | r :: r' :: rs, x :: x' :: xs, hv => exact .tup _ _ (by simpa using hv.1) (fun j hj => by simpa using hv.2 j hj)
      | [], _ :: _, hv => exact absurd hv.1 (by simp)
      | [_], [], hv => exact absurd hv.1 (by simp)
      | [_], _ :: _ :: _, hv => exact absurd hv.1 (by simp)
      | _ :: _ :: _, [], hv => exact absurd hv.1 (by simp)
      | _ :: _ :: _, [_], hv => exact absurd hv.1 (by simp)
  · cases h

/-- A function keeps what its body keeps. -/
theorem AT.of_body {P : Program} {f : FuncId} {fn : Func} {c : Code} {args : List AV} {σ : St} {Q : AV → St → Prop} (hf : P.funcs[f]? = some fn) (hb : fn.body = some c) (hname : fn.name ≠ "runtime.NumGoroutine")
    (hok : okCode fn.ntmps c = true) (hres : fn.results.toList.all (fun q => decide (tmpOf q < fn.ntmps)) = true) (hargs : args.length ≤ fn.ntmps) (h : aCode P c (AK.fn P Q fn.results.toList) (enterFr args) σ) : AT P f args σ Q := by
  refine .inl ⟨by simp [callable, hf, hb, hname], fun F w vs hs hv => ?_⟩
  refine callsIn_wide.1 (callsIn_of_wp_marks (n := 0) hf hb trivial ?_)
  have hfr : FrRel F w fn.ntmps (enterFr args) { tmps := vs.toArray ++ Array.replicate (fn.ntmps - vs.toArray.size) undef, defers := [] } := by
    refine ⟨by simp; have := hv.1; omega, fun t ht => ?_⟩
    by_cases hlt : t < args.length
    · have := hv.2 t hlt
      have e : (vs.toArray ++ Array.replicate (fn.ntmps - vs.toArray.size) undef).getD t undef = vs.getD t undef := by
        simp only [Array.getD_eq_getD_getElem?, List.getD_eq_getElem?_getD]
        rw [Array.getElem?_append_left (by simp; rw [hv.1]; exact hlt)]
        simp
      show RV F w (args.getD t (.v undef)) _
      rw [e]
      exact this
    · have e : (vs.toArray ++ Array.replicate (fn.ntmps - vs.toArray.size) undef).getD t undef = undef := by
        simp only [Array.getD_eq_getD_getElem?]
        rw [Array.getElem?_append_right (by simp; rw [hv.1]; omega)]
        simp only [Array.getElem?_replicate]
        split <;> rfl
      have e2 : enterFr args t = .v undef := by
        unfold enterFr
        rw [List.getD_eq_getElem?_getD, List.getElem?_eq_none (by omega)]
        rfl
      rw [e, e2]
      exact .v _
  refine wpIn_mono (aCode_sound none w.heap.size c (.inl rfl) hok _ _ σ h F w _ hs hfr trivial (Nat.le_refl _)) fun e a' w' hq => ?_
  have fin : ∀ (ds : List Deferred) (K : Fr → St → Prop) (w' : World) (tmps : Array Value), (∃ F' fr' σ', Ext F w σ F' w' σ' ∧ Rel F' w' σ' ∧ FrRel F' w' fn.ntmps fr' { tmps, defers := [] } ∧ Marks P w.heap.size w' σ' ds ∧ K fr' σ') → (∀ fr σ', K fr σ' → aRet P Q fn.results.toList fr σ') →
      LeavesInM Fence.wide 0 P fn tmps (fun e w' => ∃ x F' σ' r, e = .returned x ∧ Ext F w σ F' w' σ' ∧ Rel F' w' σ' ∧ RV F' w' r x ∧ Q r σ') ds .returning w' := by
    intro ds
    induction ds with
    | nil =>
      rintro K w' tmps ⟨F', fr', σ', g1, g2, g3, g4, g5⟩ hK
      obtain ⟨r, hr, r', σ'', hview, hq⟩ := hK _ _ g5
      obtain ⟨x, hx, hxr⟩ := results_ok (P := P) g2 g3 (fun q hq => by
        have := List.all_eq_true.1 hres _ hq
        simpa using this) hr
      obtain ⟨F'', k1, k2, k3⟩ := hview F' w' x g2 hxr
      exact ⟨x, hx, x, F'', σ'', r', rfl, g1.trans k1, k2, k3, hq⟩
    | cons d ds ih =>
      rintro K w' tmps ⟨F', fr', σ', g1, g2, g3, ⟨hd, g4⟩, g5⟩ hK
      rcases hd with ⟨b, h1, h2, h3, h4, h5⟩ | ⟨fv, cap, f, args, h1, h2, h3⟩
      rotate_left
      · refine ⟨by simp, .inr ⟨(fun h => by cases h), fv, cap, f, args, h1, h2 w', fun _ _ => trivial, (h3 w').mono ?_⟩⟩
        rintro e u' w2 ⟨⟨v, rfl⟩, rfl, rfl⟩
        exact ih K w2 tmps ⟨F', fr', σ', g1, g2, g3, g4, g5⟩ hK
      refine ⟨by simp, .inl ⟨b, w'.putObj b (.deferred none), h1, run_takeDeferred h3, ?_⟩⟩
      obtain ⟨e4, r4⟩ := shut_ok (o' := .deferred none) g1 g2 h3 (fun _ _ _ h => by cases h) (fun _ _ _ h => by cases h) h4 h2
      have hkk := putObj_keeps (F := F') (o' := .deferred none) h3 (fun _ _ _ h => by cases h) (fun _ _ _ h => by cases h)
      refine ih K _ tmps ⟨F', fr', σ', e4, r4, g3.mono hkk, ?_, g5⟩ hK
      clear ih
      induction ds with
      | nil => trivial
      | cons d' ds ih2 =>
        obtain ⟨hd', k6⟩ := g4
        refine ⟨?_, ih2 k6 (fun d hd => h5 d (by simp [hd]))⟩
        rcases hd' with ⟨b', k1, k2, k3, k4, k5⟩ | hi
        · have hne : b' ≠ b := fun e => by subst e; exact h5 d' (by simp) k1
          exact .inl ⟨b', k1, k2, (World.putObj_heap_other hne).trans k3, k4, k5⟩
        · exact .inr hi
  have fin' : ∀ K, Now P F w σ fn.ntmps w.heap.size K a' w' → (∀ fr σ', K fr σ' → aRet P Q fn.results.toList fr σ') → LeavesInM Fence.wide 0 P fn a'.tmps (fun e w' => ∃ x F' σ' r, e = .returned x ∧ Ext F w σ F' w' σ' ∧ Rel F' w' σ' ∧ RV F' w' r x ∧ Q r σ') a'.defers .returning w' := fun K ⟨F', fr', σ', g1, g2, g3, g4, g5⟩ hK =>
    fin a'.defers K w' a'.tmps ⟨F', fr', σ', g1, g2, ⟨g3.size, g3.slot⟩, g4, g5⟩ hK
  cases e with
  | normal => exact fin' _ hq fun _ _ h => h
  | ret => exact fin' _ hq fun _ _ h => h
  | exit id => obtain ⟨_, _, _, _, _, _, _, h⟩ := hq; exact h.elim
  | goto l => obtain ⟨_, _, _, _, _, _, _, h⟩ := hq; exact h.elim
  | panic _ => exact hq.elim
  | outgrown => exact hq.elim

/-! ### A round -/
def parFr (fr : Fr) : List Nat → List AV → Fr
  | p :: ps, a :: as => parFr (fr.up p a) ps as
  | _, _ => fr
/-- What is asked at a round's end. -/
def AK.round (l : Nat) (fr : Fr) (n : Nat) (ps : List Nat) (assign body : Code) (k : AV → St → Prop) : AK
  | .normal, _, σ => (∃ p, σ l = some (.loop fr n ps assign body .busy p)) ∧ k (.v (.bool true)) (σ.set l (.loop fr n ps assign body .ready none))
  | .ret, _, σ => (∃ p, σ l = some (.loop fr n ps assign body .busy p)) ∧ k (.v (.bool false)) (σ.set l (.loop fr n ps assign body .done (some .ret)))
  | .exit id, _, σ => (∃ p, σ l = some (.loop fr n ps assign body .busy p)) ∧ k (.v (.bool false)) (σ.set l (.loop fr n ps assign body .done (some (.exit id))))
  | .goto _, _, _ => False
def AK.begun (P : Program) (l : Nat) (fr : Fr) (n : Nat) (ps : List Nat) (assign body : Code) (k : AV → St → Prop) : AK
  | .normal, fr1, σ1 => σ1 l = some (.loop fr n ps assign body .ready none) ∧ aCode P body (AK.round l fr n ps assign body k) fr1 (σ1.set l (.loop fr n ps assign body .busy none))
  | _, _, _ => False

theorem parFr_ok {F : Froz} {w : World} : ∀ (ps : List Nat) (as : List AV) (vs : List Value) (fr : Fr) (tmps : Array Value), (∀ t ∈ ps, t < tmps.size) → (∀ t, t < tmps.size → RV F w (fr t) (tmps.getD t undef)) → RVs F w as vs →
    ((ps.zip vs).foldl (fun tmps (q : Nat × Value) => tmps.setIfInBounds q.1 q.2) tmps).size = tmps.size ∧ ∀ t, t < tmps.size → RV F w (parFr fr ps as t) (((ps.zip vs).foldl (fun tmps (q : Nat × Value) => tmps.setIfInBounds q.1 q.2) tmps).getD t undef)
  | [], as, vs, fr, tmps, _, h, _ => by cases as <;> exact ⟨rfl, h⟩
  | p :: ps, [], vs, fr, tmps, _, h, hv => by
    have : vs = [] := List.eq_nil_of_length_eq_zero hv.1
    subst this
    exact ⟨rfl, h⟩
  | p :: ps, a :: as, [], fr, tmps, _, h, hv => absurd hv.1 (by simp)
  | p :: ps, a :: as, v :: vs, fr, tmps, hp, h, hv => by
    have hpt := hp p (by simp)
    have hs : (tmps.setIfInBounds p v).size = tmps.size := by simp
    have := parFr_ok ps as vs (fr.up p a) (tmps.setIfInBounds p v) (fun t ht => by rw [hs]; exact hp t (by simp [ht])) (fun t ht => by
      rw [hs] at ht
      simp only [Fr.up]
      by_cases htp : t = p
      · subst htp
        rw [if_pos rfl]
        have h0 := hv.2 0 (by simp)
        simp [hpt]
        exact h0
      · rw [if_neg htp]
        have := h t ht
        simp only [Array.getD_eq_getD_getElem?, Array.getElem?_setIfInBounds] at this ⊢
        rw [if_neg (by omega)]
        exact this) ⟨by simpa using hv.1, fun j hj => by simpa using hv.2 (j + 1) (by simpa using hj)⟩
    rw [hs] at this
    exact this

/-- **A round, from the walk of its body.** -/
theorem yield_by {P : Program} {l n : Nat} {args : List AV} {σ : St} {k : AV → St → Prop} {fr : Fr} {ps : List Nat} {assign body : Code} {pend : Option Code} (hl : σ l = some (.loop fr n ps assign body .ready pend)) (hn : args.length = ps.length) (hfl : (flat assign && flat body) = true)
    (h : aCode P assign (AK.begun P l fr n ps assign body k) (parFr fr ps args) σ) : YC P l args σ k := by
  intro F w vs hs hv
  simp only [Bool.and_eq_true] at hfl
  obtain ⟨r, q1, q2, q3, q4, q5, q6, q7, q8, ⟨q9, q10, q11⟩, q12⟩ := hs.obj _ _ hl
  have hlt := hs.lt_size hl
  have hpar := parFr_ok ps args vs fr r.tmps (fun t ht => by rw [q8]; exact q11 t ht) (fun t ht => q12 t (by rw [← q8]; exact ht)) hv
  refine ⟨_, _, _, _, run_yield q1 (by
    have e1 : r.params.size = ps.length := by rw [← q3]; simp
    have := hv.1
    simp only [List.size_toArray]
    omega), ?_⟩
  have etm : ((r.params.zip vs.toArray).foldl (fun tmps (q : Nat × Value) => tmps.setIfInBounds q.1 q.2) r.tmps) = (ps.zip vs).foldl (fun tmps (q : Nat × Value) => tmps.setIfInBounds q.1 q.2) r.tmps := by
    rw [← q3, ← Array.foldl_toList, Array.toList_zip]
  refine roundIn_of_wpIn trivial ?_
  rw [q4, q5]
  have hfr : FrRel F w n (parFr fr ps args) { tmps := (r.params.zip vs.toArray).foldl (fun tmps (q : Nat × Value) => tmps.setIfInBounds q.1 q.2) r.tmps, defers := [] } :=
    ⟨by rw [etm]; exact hpar.1.trans q8, fun t ht => by rw [etm]; exact hpar.2 t (by rw [q8]; exact ht)⟩
  refine wpIn_mono (aCode_sound (some l) 0 assign (.inr hfl.1) q9 _ _ σ h F w _ hs hfr trivial (Nat.zero_le _)) fun e a1 w1 hq => ?_
  cases e with
  | normal =>
    obtain ⟨F1, fr1, σ1, g1, g2, g3, g4, hl1, hb⟩ := hq
    obtain ⟨r1, k1, k2, k3, k4, k5, k6, k7, k8, k9, k10⟩ := g2.obj _ _ hl1
    have hlt1 := g2.lt_size hl1
    refine ⟨_, run_beginRound k1 k6, ?_⟩
    obtain ⟨rb, eb⟩ := set_ext g2 hl1 k2 (.loop { r1 with state := .busy }) (.loop fr n ps assign body .busy none) fun hk =>
      ⟨{ r1 with state := .busy }, World.putObj_heap_same hlt1, k2, k3, k4, k5, rfl, k7, k8, k9, fun t ht => (k10 t ht).mono hk⟩
    have end_ok : ∀ (jump : Option Code) (F2 : Froz) (w2 : World) (σ2 : St) (fr2 : Fr), Ext F1 { w1 with heap := w1.heap.setIfInBounds l (.loop { r1 with state := .busy }) } (σ1.set l (.loop fr n ps assign body .busy none)) F2 w2 σ2 → Rel F2 w2 σ2 → (∃ p, σ2 l = some (.loop fr n ps assign body .busy p)) →
        k (.v (.bool jump.isNone)) (σ2.set l (.loop fr n ps assign body (if jump.isNone then .ready else .done) jump)) →
        ∃ v w', (Instr.endRound l jump).run P w2 = .ok v w' ∧ ∃ x F' σ' r, Ending.returned v = .returned x ∧ Ext F w σ F' w' σ' ∧ Rel F' w' σ' ∧ RV F' w' r x ∧ k r σ' := by
      rintro jump F2 w2 σ2 fr2 e2 r2 ⟨p2, hl2⟩ hk2
      obtain ⟨r3, m1, m2, m3, m4, m5, m6, m7, m8, m9, m10⟩ := r2.obj _ _ hl2
      have hlt2 := r2.lt_size hl2
      obtain ⟨rc, ec⟩ := set_ext r2 hl2 m2 (.loop { r3 with state := if jump.isNone then .ready else .done, pending := jump }) (.loop fr n ps assign body (if jump.isNone then .ready else .done) jump) fun hk =>
        ⟨{ r3 with state := if jump.isNone then .ready else .done, pending := jump }, World.putObj_heap_same hlt2, m2, m3, m4, m5, rfl, rfl, m8, m9, fun t ht => (m10 t ht).mono hk⟩
      exact ⟨_, _, run_endRound jump m1, _, F2, _, _, rfl, (g1.trans eb).trans (e2.trans ec), rc, .v _, hk2⟩
    refine wpIn_mono (aCode_sound (some l) 0 body (.inr hfl.2) k9.2.1 _ _ _ hb F1 _ a1 rb (g3.mono eb.keeps) (g4.mono eb) (Nat.zero_le _)) fun e2 a2 w2 hq2 => ?_
    cases e2 with
    | normal =>
      obtain ⟨F2, fr2, σ2, x1, x2, x3, x4, x5, x6⟩ := hq2
      exact end_ok none F2 w2 σ2 fr2 x1 x2 x5 x6
    | ret =>
      obtain ⟨F2, fr2, σ2, x1, x2, x3, x4, x5, x6⟩ := hq2
      exact end_ok (some .ret) F2 w2 σ2 fr2 x1 x2 x5 x6
    | exit id =>
      obtain ⟨F2, fr2, σ2, x1, x2, x3, x4, x5, x6⟩ := hq2
      exact end_ok (some (.exit id)) F2 w2 σ2 fr2 x1 x2 x5 x6
    | goto t => obtain ⟨_, _, _, _, _, _, _, h⟩ := hq2; exact h.elim
    | panic c => exact hq2.elim
    | outgrown => exact hq2.elim
  | exit id => obtain ⟨_, _, _, _, _, _, _, h⟩ := hq; exact h.elim
  | goto t => obtain ⟨_, _, _, _, _, _, _, h⟩ := hq; exact h.elim
  | ret => obtain ⟨_, _, _, _, _, _, _, h⟩ := hq; exact h.elim
  | panic c => exact hq.elim
  | outgrown => exact hq.elim
end Go.Av
