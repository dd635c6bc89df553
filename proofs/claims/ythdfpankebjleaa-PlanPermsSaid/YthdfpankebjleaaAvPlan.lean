/-
  The program logic, part 16: the order that is walked, for every order.
  Conditions: computed from the region (`planOk`); at each effect the reads that may as well come behind it read the same.
-/
import Derived.Test.YthdfpankebjleaaAvReg
import Derived.Test.YthdfpankebjleaaAvSimp
import Derived.Deep.Quiet
set_option linter.unusedVariables false
set_option linter.unusedSimpArgs false
namespace Go.Av
open Go Go.RowKit

section
variable {P : Program} {ops : Array Oper} {K : Fr → St → Prop}

/-- Is p before j, by a chain of edges? -/
def isBefore (ops : Array Oper) : Nat → Nat → Nat → Bool
  | 0, _, _ => false
  | n + 1, j, p => match ops[j]? with
    | none => false
    | some o => o.after.any fun e => Region.binds .any e && (e.on == p || isBefore ops n e.on p)

/-- What has been read, and still must read so: the operation's number, and that it does. -/
abbrev Pend := Nat → (St → Prop) → Prop
def Pend.add (S : Pend) (i : Nat) (q : St → Prop) : Pend := fun p r => S p r ∨ (p = i ∧ r = q)

theorem pend_comm {S : Pend} {i j : Nat} {q r : St → Prop} : (S.add i q).add j r = (S.add j r).add i q := by
  funext p s
  simp only [Pend.add, eq_iff_iff]
  constructor
  · rintro ((h | h) | h)
    · exact .inl (.inl h)
    · exact .inr h
    · exact .inl (.inr h)
  · rintro ((h | h) | h)
    · exact .inl (.inl h)
    · exact .inr h
    · exact .inl (.inr h)

/-- One operation in whatever order: a read is noted; behind an effect what is noted and need not come ahead of it reads the same. -/
def aStp (P : Program) (ops : Array Oper) (i : Nat) (S : Pend) (C : Pend → Fr → St → Prop) (fr : Fr) (σ : St) : Prop :=
  match ops[i]? with
  | none => C S fr σ
  | some o => aGd (dsts ops) fr o.guard
      (aOp P o.op fr σ fun v σ' => if cls P o.op = 2 then (∀ p q, S p q → isBefore ops ops.size i p = false → q σ') ∧ C S (fr.put o.dst v) σ' else C (S.add i fun σ'' => Yl P o.op fr σ'' v) (fr.put o.dst v) σ')
      (C S (fr.put o.dst (.v undef)) σ)

def aAll (P : Program) (ops : Array Oper) (K : Fr → St → Prop) : Nat → Array Bool → Pend → Fr → St → Prop
  | 0, L, S, fr, σ => Region.ready .any ops L = [] ∧ K fr σ
  | n + 1, L, S, fr, σ => (Region.ready .any ops L = [] → K fr σ) ∧ ∀ i ∈ Region.ready .any ops L, aStp P ops i S (fun S' fr' σ' => aAll P ops K n (L.setIfInBounds i true) S' fr' σ') fr σ

theorem aIf_mono {b : Bool} {A B A' B' : Prop} (h1 : A → A') (h2 : B → B') (h : aIf b A B) : aIf b A' B' := by
  unfold aIf at h ⊢
  cases b
  · exact h2 h
  · exact h1 h
theorem aGd_mono {ds : List (Option Nat)} {fr : Fr} {g : Option (Nat × Bool)} {A B A' B' : Prop} (h1 : A → A') (h2 : B → B') (h : aGd ds fr g A B) : aGd ds fr g A' B' := by
  unfold aGd at h ⊢
  cases g with
  | none => exact h1 h
  | some q =>
    obtain ⟨j, want⟩ := q
    simp only at h ⊢
    revert h
    generalize ds.getD j none = z
    cases z with
    | none => exact fun h => h
    | some d =>
      simp only
      generalize fr d = x
      cases x with
      | v y => cases y with
        | bool b =>
          intro h
          cases want
          · have h : aIf b B A := h
            show aIf b B' A'
            exact aIf_mono h2 h1 h
          · have h : aIf b A B := h
            show aIf b A' B'
            exact aIf_mono h1 h2 h
        | _ => exact h2
      | _ => exact fun h => h

theorem aOrd_cons {i : Nat} {r : List Nat} {fr : Fr} {σ : St} : aOrd P ops (i :: r) K fr σ = (match ops[i]? with
    | none => aOrd P ops r K fr σ
    | some o => aGd (dsts ops) fr o.guard (aOp P o.op fr σ fun v σ' => aOrd P ops r K (fr.put o.dst v) σ') (aOrd P ops r K (fr.put o.dst (.v undef)) σ)) := rfl

theorem ord_of_stp {i : Nat} {r : List Nat} {S : Pend} {C : Pend → Fr → St → Prop} {fr : Fr} {σ : St} (hC : ∀ S fr σ, C S fr σ → aOrd P ops r K fr σ) (h : aStp P ops i S C fr σ) : aOrd P ops (i :: r) K fr σ := by
  rw [aOrd_cons]
  unfold aStp at h
  split at h
  · exact hC _ _ _ h
  · refine aGd_mono (fun h => aOp_mon _ _ (fun v σ' hv => ?_) h) (hC _ _ _) h
    split at hv
    · exact hC _ _ _ hv.2
    · exact hC _ _ _ hv

theorem aAll_sound : ∀ (n t : Nat) (L : Array Bool) (S : Pend) (fr : Fr) (σ : St), aAll P ops K n L S fr σ → aOrd P ops (Region.linearise.go .any ops n t L []) K fr σ := by
  intro n
  induction n with
  | zero => intro t L S fr σ h; simpa [Region.linearise.go, aOrd] using h.2
  | succ n ih =>
    intro t L S fr σ h
    obtain ⟨h0, h1⟩ := h
    simp only [Region.linearise.go]
    change aOrd P ops (match (Region.ready .any ops L)[t % (Region.ready .any ops L).length]? with
      | some i => Region.linearise.go .any ops n (t / (Region.ready .any ops L).length) (L.setIfInBounds i true) [i]
      | none => [].reverse) K fr σ
    cases hi : (Region.ready .any ops L)[t % (Region.ready .any ops L).length]? with
    | none =>
      have hnil : Region.ready .any ops L = [] := by
        cases hr : Region.ready .any ops L with
        | nil => rfl
        | cons x xs =>
          rw [hr] at hi
          have hlt : t % (x :: xs).length < (x :: xs).length := Nat.mod_lt _ (by simp)
          simp at hi
          simp at hlt
          omega
      simpa [aOrd] using h0 hnil
    | some i =>
      simp only []
      rw [linearise_go_acc, List.reverse_singleton, List.singleton_append]
      exact ord_of_stp (fun S' fr' σ' h => ih _ _ S' fr' σ' h) (h1 i (List.mem_of_getElem? hi))

theorem aDraw_of_all (hm : P.follows .mixedOrders = true) {fr : Fr} {σ : St} (h : aAll P ops K ops.size (Array.replicate ops.size false) (fun _ _ => False) fr σ) : aDraw P ops K fr σ := by
  intro t
  simp only [Region.schedule, hm, Bool.true_or, if_true]
  exact aAll_sound ops.size t _ _ fr σ h

/-! ### A read that may come up now may be taken first -/
/-- All that binds what is listed is listed. -/
def Closed (ops : Array Oper) (L : Array Bool) : Prop := ∀ i o, L.getD i false = true → ops[i]? = some o → ∀ e ∈ o.after, Region.binds .any e = true → L.getD e.on false = true

theorem before_listed {L : Array Bool} (hL : Closed ops L) : ∀ (n j p : Nat), (∀ o, ops[j]? = some o → ∀ e ∈ o.after, Region.binds .any e = true → L.getD e.on false = true) → isBefore ops n j p = true → L.getD p false = true
  | 0, j, p, _, h => by simp [isBefore] at h
  | n + 1, j, p, hj, h => by
    simp only [isBefore] at h
    cases ho : ops[j]? with
    | none => rw [ho] at h; cases h
    | some o =>
      rw [ho] at h
      simp only [Array.any_eq_true, Bool.and_eq_true, Bool.or_eq_true, beq_iff_eq] at h
      obtain ⟨k, hk, h1, h2⟩ := h
      have hl := hj o ho _ (Array.getElem_mem hk) h1
      rcases h2 with h2 | h2
      · rw [← h2]; exact hl
      · exact before_listed hL n _ p (fun o' ho' e he hb => hL _ o' hl ho' e he hb) h2

theorem ready_spec {L : Array Bool} {i : Nat} (h : i ∈ Region.ready .any ops L) : L.getD i true = false ∧ ∃ o, ops[i]? = some o ∧ ∀ e ∈ o.after, Region.binds .any e = true → L.getD e.on false = true := by
  obtain ⟨h1, o, h2, h3⟩ := mem_ready.1 h
  exact ⟨h1, o, h2, h3⟩

theorem closed_set {L : Array Bool} (hL : Closed ops L) {i : Nat} (hi : i ∈ Region.ready .any ops L) : Closed ops (L.setIfInBounds i true) := by
  intro j o hj ho e he hb
  have grow : ∀ k, L.getD k false = true → (L.setIfInBounds i true).getD k false = true := by
    intro k hk
    by_cases h : i = k
    · subst h
      rcases Nat.lt_or_ge i L.size with h' | h'
      · simp [h']
      · simp [Array.getElem?_eq_none h'] at hk
    · rw [getD_set_ne false h]; exact hk
  by_cases h : i = j
  · subst h
    obtain ⟨_, o', ho', hall⟩ := ready_spec hi
    have : o' = o := by rw [ho] at ho'; exact (Option.some.inj ho').symm
    subst this
    exact grow _ (hall e he hb)
  · rw [getD_set_ne false h] at hj
    exact grow _ (hL j o hj ho e he hb)

/-- Operand slots and the guard's slot. -/
theorem gd_put {x y : Oper} {fr : Fr} {v : AV} {A B : Prop} (h : ∀ d, x.dst = some d → d ∉ y.looksAt ops) : aGd (dsts ops) (fr.put x.dst v) y.guard A B = aGd (dsts ops) fr y.guard A B := by
  unfold aGd
  cases hg : y.guard with
  | none => rfl
  | some q =>
    obtain ⟨j, want⟩ := q
    simp only
    have hds : (dsts ops).getD j none = (ops[j]?).bind (·.dst) := by
      simp only [dsts, List.getD_eq_getElem?_getD, List.getElem?_map, Array.getElem?_toList]
      cases ops[j]? <;> rfl
    cases hd : (ops[j]?).bind (·.dst) with
    | none => rw [hds, hd]
    | some d =>
      rw [hds, hd]
      simp only
      have : (fr.put x.dst v) d = fr d := by
        have := ev_put (fr := fr) (d := x.dst) (v := v) (x := .tmp d) (fun t ht e => by
          injection e with e
          subst e
          exact h d ht (by simp [Oper.looksAt, hg, hd]))
        exact this
      rw [this]
theorem op_put {x y : Oper} {fr : Fr} {v : AV} {σ : St} {k : AV → St → Prop} (h : ∀ d, x.dst = some d → d ∉ y.looksAt ops) : aOp P y.op (fr.put x.dst v) σ k = aOp P y.op fr σ k := by
  refine aOp_congr fun z hz => ev_put fun t ht e => ?_
  subst e
  refine h t ht ?_
  simp only [Oper.looksAt, List.mem_append, List.mem_filterMap]
  exact .inl ⟨.tmp t, by simpa using hz, rfl⟩
theorem yl_put {x y : Oper} {fr : Fr} {v u : AV} (h : ∀ d, x.dst = some d → d ∉ y.looksAt ops) : (fun σ => Yl P y.op (fr.put x.dst v) σ u) = fun σ => Yl P y.op fr σ u := by
  funext σ
  unfold Yl
  refine propext (forall_congr' fun k => imp_congr_right fun _ => ?_)
  rw [op_put h]

theorem first_read {i : Nat} {oi : Oper} {v : AV} (hi : ops[i]? = some oi) (hcls : cls P oi.op ≠ 2) : ∀ (n : Nat) (L : Array Bool) (S : Pend) (fr : Fr) (σ : St),
    Closed ops L →
    (∀ j oj, ops[j]? = some oj → j ≠ i → L.getD j true = false → (∀ e ∈ oj.after, Region.binds .any e = true → e.on ≠ i) → oi.apart ops oj = true) →
    i ∈ Region.ready .any ops L →
    ((∀ A B : Prop, A → aGd (dsts ops) fr oi.guard A B) ∧ Yl P oi.op fr σ v ∧ aAll P ops K n (L.setIfInBounds i true) (S.add i fun σ' => Yl P oi.op fr σ' v) (fr.put oi.dst v) σ ∨
      (∀ A B : Prop, B → aGd (dsts ops) fr oi.guard A B) ∧ v = .v undef ∧ aAll P ops K n (L.setIfInBounds i true) S (fr.put oi.dst v) σ) →
    aAll P ops K (n + 1) L S fr σ := by
  intro n
  have here : ∀ (n : Nat) (L : Array Bool) (S : Pend) (fr : Fr) (σ : St),
    ((∀ A B : Prop, A → aGd (dsts ops) fr oi.guard A B) ∧ Yl P oi.op fr σ v ∧ aAll P ops K n (L.setIfInBounds i true) (S.add i fun σ' => Yl P oi.op fr σ' v) (fr.put oi.dst v) σ ∨
      (∀ A B : Prop, B → aGd (dsts ops) fr oi.guard A B) ∧ v = .v undef ∧ aAll P ops K n (L.setIfInBounds i true) S (fr.put oi.dst v) σ) →
    aStp P ops i S (fun S' fr' σ' => aAll P ops K n (L.setIfInBounds i true) S' fr' σ') fr σ := by
    intro n L S fr σ H
    unfold aStp
    simp only [hi]
    rcases H with ⟨hg, hy, H⟩ | ⟨hg, rfl, H⟩
    · refine hg _ _ (hy _ ?_)
      rw [if_neg hcls]
      exact H
    · exact hg _ _ H
  induction n with
  | zero =>
    intro L S fr σ hL hfree hr H
    refine ⟨fun h => (by rw [h] at hr; cases hr), fun j hj => ?_⟩
    by_cases hji : j = i
    · subst hji; exact here 0 L S fr σ H
    · have h1 := ready_mono hj hji
      have h0 : Region.ready .any ops (L.setIfInBounds i true) = [] := by
        rcases H with ⟨_, _, H⟩ | ⟨_, _, H⟩ <;> exact H.1
      rw [h0] at h1
      cases h1
  | succ n ih =>
    intro L S fr σ hL hfree hr H
    refine ⟨fun h => (by rw [h] at hr; cases hr), fun j hj => ?_⟩
    by_cases hji : j = i
    · subst hji; exact here (n + 1) L S fr σ H
    · obtain ⟨hjun, oj, hoj, hall⟩ := ready_spec hj
      have hiun := (ready_spec hr).1
      have hnoti : L.getD i false = false := by
        rcases Nat.lt_or_ge i L.size with h' | h'
        · simpa [h'] using hiun
        · simp [Array.getElem?_eq_none h']
      have hnot : ∀ e ∈ oj.after, Region.binds .any e = true → e.on ≠ i := fun e he hb heq => by
        have := hall e he hb
        rw [heq, hnoti] at this
        cases this
      have hap := hfree j oj hoj hji hjun hnot
      obtain ⟨a1, a2, a3⟩ := Oper.apart_spec hap
      have hbef : isBefore ops ops.size j i = false := by
        cases hb : isBefore ops ops.size j i with
        | false => rfl
        | true =>
          have := before_listed hL ops.size j i (fun o ho e he hbb => by
            have : o = oj := by rw [hoj] at ho; exact (Option.some.inj ho).symm
            subst this
            exact hall e he hbb) hb
          rw [hnoti] at this
          cases this
      have hfree' : ∀ k ok, ops[k]? = some ok → k ≠ i → (L.setIfInBounds j true).getD k true = false → (∀ e ∈ ok.after, Region.binds .any e = true → e.on ≠ i) → oi.apart ops ok = true := fun k ok hk hki hun hno => by
        refine hfree k ok hk hki ?_ hno
        by_cases hjk : j = k
        · subst hjk; exact hjun
        · rw [getD_set_ne true hjk] at hun; exact hun
      have hL' := closed_set hL hj
      have hr' := ready_mono hr (Ne.symm hji)
      -- the guard of i is not touched by j
      have gdi : ∀ (u : AV) (A B : Prop), aGd (dsts ops) (fr.put oj.dst u) oi.guard A B = aGd (dsts ops) fr oi.guard A B := fun u A B => gd_put a3
      have yli : ∀ (u : AV), (fun σ' => Yl P oi.op (fr.put oj.dst u) σ' v) = fun σ' => Yl P oi.op fr σ' v := fun u => yl_put a3
      unfold aStp
      simp only [hoj]
      rcases H with ⟨hg, hy, H⟩ | ⟨hg, hv, H⟩
      · have h1 := H.2 j (ready_mono hj hji)
        unfold aStp at h1
        simp only [hoj] at h1
        rw [gd_put a1] at h1
        refine aGd_mono (fun h1 => ?_) (fun h1 => ?_) h1
        · rw [op_put a1] at h1
          by_cases hcj : cls P oj.op = 2
          · refine aOp_mon _ _ (fun u σ' h2 => ?_) h1
            rw [if_pos hcj] at h2 ⊢
            refine ⟨fun p q hpq hp => h2.1 p q (.inl hpq) hp, ?_⟩
            refine ih (L.setIfInBounds j true) S (fr.put oj.dst u) σ' hL' hfree' hr' (.inl ⟨fun A B hA => by rw [gdi]; exact hg A B hA, ?_, ?_⟩)
            · have := h2.1 i _ (.inr ⟨rfl, rfl⟩) hbef
              rw [show Yl P oi.op (fr.put oj.dst u) σ' v = Yl P oi.op fr σ' v from congrFun (yli u) σ']
              exact this
            · rw [yli, Array.setIfInBounds_comm _ _ hji, put_comm (d := oj.dst) (d' := oi.dst) (fun t ht e => a2 t e ht)]
              exact h2.2
          · obtain ⟨u, h2, h3⟩ := aOp_read hcj h1
            rw [if_neg hcj] at h2
            refine h3 _ ?_
            rw [if_neg hcj]
            refine ih (L.setIfInBounds j true) _ (fr.put oj.dst u) σ hL' hfree' hr' (.inl ⟨fun A B hA => by rw [gdi]; exact hg A B hA, ?_, ?_⟩)
            · rw [show Yl P oi.op (fr.put oj.dst u) σ v = Yl P oi.op fr σ v from congrFun (yli u) σ]
              exact hy
            · rw [yli, Array.setIfInBounds_comm _ _ hji, put_comm (d := oj.dst) (d' := oi.dst) (fun t ht e => a2 t e ht), pend_comm]
              rw [yl_put a1] at h2
              exact h2
        · refine ih (L.setIfInBounds j true) S (fr.put oj.dst (.v undef)) σ hL' hfree' hr' (.inl ⟨fun A B hA => by rw [gdi]; exact hg A B hA, ?_, ?_⟩)
          · rw [show Yl P oi.op (fr.put oj.dst (.v undef)) σ v = Yl P oi.op fr σ v from congrFun (yli _) σ]
            exact hy
          · rw [yli, Array.setIfInBounds_comm _ _ hji, put_comm (d := oj.dst) (d' := oi.dst) (fun t ht e => a2 t e ht)]
            exact h1
      · have h1 := H.2 j (ready_mono hj hji)
        unfold aStp at h1
        simp only [hoj] at h1
        rw [gd_put a1] at h1
        refine aGd_mono (fun h1 => ?_) (fun h1 => ?_) h1
        · rw [op_put a1] at h1
          refine aOp_mon _ _ (fun u σ' h2 => ?_) h1
          by_cases hcj : cls P oj.op = 2
          · rw [if_pos hcj] at h2 ⊢
            refine ⟨h2.1, ih (L.setIfInBounds j true) S (fr.put oj.dst u) σ' hL' hfree' hr' (.inr ⟨fun A B hA => by rw [gdi]; exact hg A B hA, hv, ?_⟩)⟩
            rw [Array.setIfInBounds_comm _ _ hji, put_comm (d := oj.dst) (d' := oi.dst) (fun t ht e => a2 t e ht)]
            exact h2.2
          · rw [if_neg hcj] at h2 ⊢
            refine ih (L.setIfInBounds j true) _ (fr.put oj.dst u) σ' hL' hfree' hr' (.inr ⟨fun A B hA => by rw [gdi]; exact hg A B hA, hv, ?_⟩)
            rw [Array.setIfInBounds_comm _ _ hji, put_comm (d := oj.dst) (d' := oi.dst) (fun t ht e => a2 t e ht)]
            rw [yl_put a1] at h2
            exact h2
        · refine ih (L.setIfInBounds j true) S (fr.put oj.dst (.v undef)) σ hL' hfree' hr' (.inr ⟨fun A B hA => by rw [gdi]; exact hg A B hA, hv, ?_⟩)
          rw [Array.setIfInBounds_comm _ _ hji, put_comm (d := oj.dst) (d' := oi.dst) (fun t ht e => a2 t e ht)]
          exact h1

/-! ### The order that is walked -/
/-- A step of it: a read (is it noted?); an effect (which of the noted reads are looked at behind it?). -/
inductive PS where
  | rd (i : Nat) (keep : Bool)
  | ef (i : Nat) (chk : List Nat)

def aLk (c : Nat) : List (Nat × (St → Prop)) → St → Prop
  | [], _ => True
  | (i, q) :: r, σ => (c = i → q σ) ∧ aLk c r σ
def aChk : List Nat → List (Nat × (St → Prop)) → St → Prop
  | [], _, _ => True
  | c :: cs, S, σ => aLk c S σ ∧ aChk cs S σ

def aPlan (P : Program) (ds : List (Option Nat)) (l : List Oper) (K : Fr → St → Prop) : List PS → List (Nat × (St → Prop)) → Fr → St → Prop
  | [], _, fr, σ => K fr σ
  | .rd i keep :: r, S, fr, σ => match l[i]? with
    | none => False
    | some o => aGd ds fr o.guard (aOp P o.op fr σ fun v σ' => aPlan P ds l K r (if keep then (i, fun σ'' => Yl P o.op fr σ'' v) :: S else S) (fr.put o.dst v) σ') (aPlan P ds l K r S (fr.put o.dst (.v undef)) σ)
  | .ef i chk :: r, S, fr, σ => match l[i]? with
    | none => False
    | some o => aGd ds fr o.guard (aOp P o.op fr σ fun v σ' => aChk chk S σ' ∧ aPlan P ds l K r S (fr.put o.dst v) σ') (aPlan P ds l K r S (fr.put o.dst (.v undef)) σ)

def clsAt (P : Program) (ops : Array Oper) (i : Nat) : Nat := match ops[i]? with
  | some o => cls P o.op
  | none => 3

def planOk (P : Program) (ops : Array Oper) : List PS → Array Bool → List Nat → Bool
  | [], L, _ => (Region.ready .any ops L).isEmpty
  | .rd i keep :: r, L, N => (Region.ready .any ops L).contains i && (clsAt P ops i == 0 || (clsAt P ops i == 1 && keep)) && Region.free .any ops L i && planOk P ops r (L.setIfInBounds i true) (if keep then i :: N else N)
  | .ef i chk :: r, L, N => (Region.ready .any ops L == [i]) && (clsAt P ops i == 2) && (N.all fun p => isBefore ops ops.size i p || chk.contains p) && planOk P ops r (L.setIfInBounds i true) N

theorem aGd_cases {ds : List (Option Nat)} {fr : Fr} {g : Option (Nat × Bool)} {A B : Prop} (h : aGd ds fr g A B) :
    ((∀ A' B' : Prop, A' → aGd ds fr g A' B') ∧ A) ∨ ((∀ A' B' : Prop, B' → aGd ds fr g A' B') ∧ B) := by
  unfold aGd at h ⊢
  cases g with
  | none => exact .inl ⟨fun _ _ h => h, h⟩
  | some q =>
    obtain ⟨j, want⟩ := q
    simp only at h ⊢
    revert h
    generalize ds.getD j none = z
    cases z with
    | none => exact fun h => h.elim
    | some d =>
      simp only
      generalize fr d = x
      cases x with
      | v y => cases y with
        | bool b =>
          intro h
          cases want <;> cases b
          · exact .inl ⟨fun _ _ h => h, h⟩
          · exact .inr ⟨fun _ _ h => h, h⟩
          · exact .inr ⟨fun _ _ h => h, h⟩
          · exact .inl ⟨fun _ _ h => h, h⟩
        | _ => exact fun h => .inr ⟨fun _ _ h => h, h⟩
      | _ => exact fun h => h.elim

theorem lk_mem {c : Nat} {q : St → Prop} {σ : St} : ∀ {S : List (Nat × (St → Prop))}, (c, q) ∈ S → aLk c S σ → q σ
  | (i, r) :: S, hm, h => by
    rcases List.mem_cons.1 hm with e | hm
    · injection e with e1 e2
      subst e1; subst e2
      exact h.1 rfl
    · exact lk_mem hm h.2
theorem chk_mem {S : List (Nat × (St → Prop))} {σ : St} : ∀ {cs : List Nat} {c : Nat}, c ∈ cs → aChk cs S σ → aLk c S σ
  | d :: cs, c, hm, h => by
    rcases List.mem_cons.1 hm with rfl | hm
    · exact h.1
    · exact chk_mem hm h.2

theorem plan_all {l : List Oper} : ∀ (pl : List PS) (L : Array Bool) (N : List Nat) (Sl : List (Nat × (St → Prop))) (S : Pend) (fr : Fr) (σ : St), planOk P l.toArray pl L N = true → Closed l.toArray L →
    (∀ p q, S p q → (∀ σ', q σ') ∨ (p, q) ∈ Sl) → (∀ x ∈ Sl, x.1 ∈ N) → aPlan P (dsts l.toArray) l K pl Sl fr σ → aAll P l.toArray K pl.length L S fr σ
  | [], L, N, Sl, S, fr, σ, hok, _, _, _, h => ⟨by simpa [planOk] using hok, h⟩
  | .rd i keep :: r, L, N, Sl, S, fr, σ, hok, hL, hS, hN, h => by
    simp only [planOk, Bool.and_eq_true, Bool.or_eq_true, beq_iff_eq] at hok
    obtain ⟨⟨⟨hr, hc⟩, hf⟩, hok⟩ := hok
    have hr : i ∈ Region.ready .any l.toArray L := by simpa using hr
    simp only [aPlan] at h
    cases hi : l[i]? with
    | none => rw [hi] at h; exact h.elim
    | some o =>
      rw [hi] at h
      have hi' : l.toArray[i]? = some o := by simpa using hi
      have hcl : clsAt P l.toArray i = cls P o.op := by simp [clsAt, hi]
      rw [hcl] at hc
      have hne : cls P o.op ≠ 2 := by rcases hc with h | ⟨h, _⟩ <;> omega
      rcases aGd_cases h with ⟨hg, h⟩ | ⟨hg, h⟩
      · obtain ⟨v, hk, hy⟩ := aOp_read hne h
        refine first_read hi' hne r.length L S fr σ hL (Region.free_spec hi' hf) hr (.inl ⟨hg, hy, ?_⟩)
        refine plan_all r _ _ _ _ _ _ hok (closed_set hL hr) ?_ ?_ hk
        · rintro p q (hp | ⟨rfl, rfl⟩)
          · rcases hS p q hp with h | h
            · exact .inl h
            · refine .inr ?_
              split
              · exact List.mem_cons_of_mem _ h
              · exact h
          · rcases hc with h0 | ⟨_, h0⟩
            · exact .inl fun σ' => hy.any h0 σ'
            · rw [if_pos h0]
              exact .inr (List.mem_cons_self ..)
        · intro x hx
          cases keep with
          | true =>
            rcases List.mem_cons.1 hx with rfl | hx
            · exact List.mem_cons_self ..
            · exact List.mem_cons_of_mem _ (hN x hx)
          | false => exact hN x hx
      · refine first_read hi' hne r.length L S fr σ hL (Region.free_spec hi' hf) hr (.inr ⟨hg, rfl, ?_⟩)
        refine plan_all r _ _ _ _ _ _ hok (closed_set hL hr) hS ?_ h
        intro x hx
        cases keep with
        | true => exact List.mem_cons_of_mem _ (hN x hx)
        | false => exact hN x hx
  | .ef i chk :: r, L, N, Sl, S, fr, σ, hok, hL, hS, hN, h => by
    simp only [planOk, Bool.and_eq_true, beq_iff_eq] at hok
    obtain ⟨⟨⟨hr, hc⟩, hn⟩, hok⟩ := hok
    have hri : i ∈ Region.ready .any l.toArray L := by rw [hr]; simp
    refine ⟨fun h => (by rw [h] at hr; cases hr), fun j hj => ?_⟩
    rw [hr] at hj
    obtain rfl : j = i := by simpa using hj
    simp only [aPlan] at h
    cases hi : l[j]? with
    | none => rw [hi] at h; exact h.elim
    | some o =>
      rw [hi] at h
      have hi' : l.toArray[j]? = some o := by simpa using hi
      have hcl : clsAt P l.toArray j = cls P o.op := by simp [clsAt, hi]
      rw [hcl] at hc
      unfold aStp
      rw [hi']
      refine aGd_mono (fun h => aOp_mon _ _ (fun v σ' hv => ?_) h) (fun h => ?_) h
      · rw [if_pos hc]
        refine ⟨fun p q hpq hb => ?_, plan_all r _ N Sl S _ _ hok (closed_set hL hri) hS hN hv.2⟩
        rcases hS p q hpq with h | h
        · exact h σ'
        · have := List.all_eq_true.1 hn p (hN _ h)
          rw [hb, Bool.false_or] at this
          exact lk_mem h (chk_mem (by simpa using this) hv.1)
      · exact plan_all r _ N Sl S _ _ hok (closed_set hL hri) hS hN h

/-- **One walk of one order serves every order.** -/
theorem aDraw_plan {l : List Oper} {fr : Fr} {σ : St} (pl : List PS) (hm : P.follows .mixedOrders = true) (hlen : (pl.length == l.length) = true) (hok : planOk P l.toArray pl (Array.replicate l.length false) [] = true)
    (h : aPlan P (l.map (·.dst)) l K pl (@hid _ ⟨[]⟩) fr σ) : aDraw P l.toArray K fr σ := by
  refine aDraw_of_all hm ?_
  have e : pl.length = l.toArray.size := by simpa using hlen
  rw [← e]
  refine plan_all pl _ [] [] _ fr σ ?_ ?_ (fun _ _ h => h.elim) (fun x hx => by cases hx) h
  · rw [e]; simpa using hok
  · intro i o hi
    rw [e] at hi
    rcases Nat.lt_or_ge i l.length with h' | h'
    · simp [Array.getElem?_replicate, h'] at hi
    · simp [Array.getElem?_replicate, Nat.not_lt.2 h'] at hi

/-! ### The rules by which it is reckoned -/
def aRd (P : Program) (ds : List (Option Nat)) (l : List Oper) (K : Fr → St → Prop) (keep : Bool) (i : Nat) (r : List PS) (S : List (Nat × (St → Prop))) (fr : Fr) (σ : St) : Option Oper → Prop
  | none => False
  | some o => aGd ds fr o.guard (aOp P o.op fr σ fun v σ' => aPlan P ds l K r (if keep then (i, fun σ'' => Yl P o.op fr σ'' v) :: S else S) (fr.put o.dst v) σ') (aPlan P ds l K r S (fr.put o.dst (.v undef)) σ)
def aEf (P : Program) (ds : List (Option Nat)) (l : List Oper) (K : Fr → St → Prop) (chk : List Nat) (r : List PS) (S : List (Nat × (St → Prop))) (fr : Fr) (σ : St) : Option Oper → Prop
  | none => False
  | some o => aGd ds fr o.guard (aOp P o.op fr σ fun v σ' => aChk chk S σ' ∧ aPlan P ds l K r S (fr.put o.dst v) σ') (aPlan P ds l K r S (fr.put o.dst (.v undef)) σ)
section
variable {ds : List (Option Nat)} {l : List Oper} {S : List (Nat × (St → Prop))} {fr : Fr} {σ : St} {r : List PS} {i : Nat} {chk : List Nat} {d : Option Nat} {op : Op} {t : TypeId} {p : String} {e : Array Edge} {g : Nat × Bool}
@[go_sem] theorem p_nil : aPlan P ds l K [] S fr σ = K fr σ := _root_.id rfl
@[go_sem] theorem p_rd {keep : Bool} : aPlan P ds l K (.rd i keep :: r) S fr σ = aRd P ds l K keep i r S fr σ (l[i]?) := by
  simp only [aPlan, aRd]
  first | done | (cases l[i]? <;> rfl)
@[go_sem] theorem p_ef : aPlan P ds l K (.ef i chk :: r) S fr σ = aEf P ds l K chk r S fr σ (l[i]?) := by
  simp only [aPlan, aEf]
  first | done | (cases l[i]? <;> rfl)
@[go_sem] theorem rd_k : aRd P ds l K true i r S fr σ (some { dst := d, op := op, type := t, pos := p, after := e, guard := none }) = aOp P op fr σ (@hid _ ⟨fun v σ' => aPlan P ds l K r (@hid _ ⟨(i, fun σ'' => Yl P op fr σ'' v) :: S⟩) (fr.put d v) σ'⟩) := _root_.id rfl
@[go_sem] theorem rd_n : aRd P ds l K false i r S fr σ (some { dst := d, op := op, type := t, pos := p, after := e, guard := none }) = aOp P op fr σ (@hid _ ⟨fun v σ' => aPlan P ds l K r S (fr.put d v) σ'⟩) := _root_.id rfl
@[go_sem] theorem rd_kg : aRd P ds l K true i r S fr σ (some { dst := d, op := op, type := t, pos := p, after := e, guard := some g }) = aGd ds fr (some g) (@hid _ ⟨aOp P op fr σ (@hid _ ⟨fun v σ' => aPlan P ds l K r (@hid _ ⟨(i, fun σ'' => Yl P op fr σ'' v) :: S⟩) (fr.put d v) σ'⟩)⟩) (@hid _ ⟨aPlan P ds l K r S (fr.put d (.v undef)) σ⟩) := _root_.id rfl
@[go_sem] theorem rd_ng : aRd P ds l K false i r S fr σ (some { dst := d, op := op, type := t, pos := p, after := e, guard := some g }) = aGd ds fr (some g) (@hid _ ⟨aOp P op fr σ (@hid _ ⟨fun v σ' => aPlan P ds l K r S (fr.put d v) σ'⟩)⟩) (@hid _ ⟨aPlan P ds l K r S (fr.put d (.v undef)) σ⟩) := _root_.id rfl
@[go_sem] theorem ef_0 : aEf P ds l K chk r S fr σ (some { dst := d, op := op, type := t, pos := p, after := e, guard := none }) = aOp P op fr σ (@hid _ ⟨fun v σ' => aChk chk S σ' ∧ aPlan P ds l K r S (fr.put d v) σ'⟩) := _root_.id rfl
@[go_sem] theorem ef_g : aEf P ds l K chk r S fr σ (some { dst := d, op := op, type := t, pos := p, after := e, guard := some g }) = aGd ds fr (some g) (@hid _ ⟨aOp P op fr σ (@hid _ ⟨fun v σ' => aChk chk S σ' ∧ aPlan P ds l K r S (fr.put d v) σ'⟩)⟩) (@hid _ ⟨aPlan P ds l K r S (fr.put d (.v undef)) σ⟩) := _root_.id rfl
@[go_sem] theorem chk_nil : aChk [] S σ = True := _root_.id rfl
@[go_sem] theorem chk_cons {c : Nat} {cs : List Nat} : aChk (c :: cs) S σ = (aLk c S σ ∧ aChk cs S σ) := _root_.id rfl
@[go_sem] theorem lk_nil {c : Nat} : aLk c (@hid _ ⟨[]⟩) σ = True := _root_.id rfl
@[go_sem] theorem lk_cons {c : Nat} {q : St → Prop} : aLk c (@hid _ ⟨(i, q) :: S⟩) σ = ((c = i → q σ) ∧ aLk c S σ) := _root_.id rfl
@[go_sem] theorem yl_r {o : Op} {v : AV} : Yl P o fr σ v = ∀ k : AV → St → Prop, k v σ → aOp P o fr σ k := _root_.id rfl
end
end
end Go.Av
