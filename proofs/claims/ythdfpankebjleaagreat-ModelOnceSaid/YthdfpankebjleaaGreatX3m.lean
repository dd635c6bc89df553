/-
  Contracts of the functions that the statement reaches, and the plain laws of what they reckon.
  Conditions: none.
-/
import Derived.Test.YthdfpankebjleaaGreatV1
import Derived.Test.YthdfpankebjleaaGreatV2
import Derived.Test.YthdfpankebjleaaGreatV3
import Derived.Test.YthdfpankebjleaaGreatX1m
import Derived.Test.YthdfpankebjleaaGreatX2m
set_option linter.unusedVariables false
set_option linter.unusedSimpArgs false
set_option linter.unusedSectionVars false
set_option maxRecDepth 100000
/-
  Facts looked up and taken away (package fact).
  Conditions: none.
-/
namespace Go.Proofs.YthdfpankebjleaaGreat
open Go Go.Av

/-- A function that holds a block. -/
abbrev clo (f t : Nat) : AV := .v (.func (.func f) #[] #[.pointer (some ⟨t, 0, none⟩)])
section
variable {σ : St} {t g : Nat}
theorem has1_at (f x : Fa) (sf : f.Sm) (sx : x.Sm) (ht : σ t = some (.cells f.cs)) : AT Tryz.prog 40 [.agg x.cs, ptr t] σ fun r σ' => r = boo (decide (f = x)) ∧ σ' = σ := by
  refine AT.of_body Tryz.func40 rfl (by decide) (by kernel_rfl) (by kernel_rfl) (Nat.le_of_ble_eq_true rfl) ?_
  simp only [go_sem]
  refine Ctx.nil.alloc fun p σ1 c1 => ?_
  simp only [go_sem, c1.g0, c1.sub _ _ ht]
  refine (cmpF_at f x sf sx).mono ?_
  rintro _ σ1 ⟨rfl, rfl⟩
  simp only [go_sem]
  exact aRet_view (r := boo _) rfl _ σ (c1.view _) ⟨by rw [decide_eq_decide.2 (cmpF_ord.zero f x)], rfl⟩
/-- Where one is found first. -/
def IdxS (p : Fa → Bool) (l : List Fa) (k : Int) : Prop := k = -1 ∧ (∀ x ∈ l, p x = false) ∨ ∃ i : Nat, k = i ∧ ∃ h : i < l.length, p l[i] = true ∧ ∀ x ∈ l.take i, p x = false
theorem indexF_at {lv : AV} (l : List Fa) (p : Fa → Bool) (h : Rd 4 σ lv (faC l)) (hl : l.length ≤ 1000000000) (hC : ∀ x ∈ l, AT Tryz.prog g [.agg x.cs, ptr t] σ fun r σ' => r = boo (p x) ∧ σ' = σ) : AT Tryz.prog 79 [lv, clo g t] σ fun r σ' => (∃ k : Int, r = int k ∧ IdxS p l k) ∧ σ' = σ := by
  refine AT.of_body Tryz.func79 rfl (by decide) (by kernel_rfl) (by kernel_rfl) (Nat.le_of_ble_eq_true rfl) ?_
  simp only [go_sem, r_block, h.len]
  refine ⟨fun m fr σ' => ∃ i : Nat, m = l.length - i ∧ i ≤ l.length ∧ σ' = σ ∧ (∀ x ∈ l.take i, p x = false) ∧ fr 0 = lv ∧ fr 1 = clo g t ∧ fr 7 = int l.length ∧ fr 8 = int i, ⟨_, 0, rfl, by omega, rfl, fun x hx => by simp at hx, rfl, rfl, rfl, rfl⟩, ?_⟩
  rintro m fr σ ⟨i, rfl, hi, rfl, hp, f0, f1, f7, f8⟩
  simp only [go_sem, f7, f8]
  refine aIf_by (fun hlt => ?_) (fun hlt => ?_)
  · have hil : i < l.length := by omega
    simp only [go_sem, r_block, f0, f1, f8]
    refine h.elem (by omega) (by rw [faC_len]; omega) fun e he => ?_
    have eg : (faC l).getD i [] = l[i].cs := faC_get hil
    simp only [go_sem, r_block]
    refine he.load (by decide) (by rw [Int.toNat_natCast, eg]; exact Nat.le_refl 4) ?_
    simp only [go_sem, r_block, eg]
    refine (hC _ (List.getElem_mem hil)).mono ?_
    rintro _ σ ⟨rfl, rfl⟩
    simp only [go_sem, r_block]
    refine aIf_bool (fun hb => ?_) (fun hb => ?_)
    · simp only [go_sem, r_block]
      exact aRet_as (r := int i) rfl ⟨⟨_, rfl, .inr ⟨i, rfl, hil, hb, hp⟩⟩, rfl⟩
    · have hp' : ∀ x ∈ l.take (i + 1), p x = false := fun x hx => by
        rw [List.take_add_one, List.getElem?_eq_getElem hil] at hx
        rcases List.mem_append.1 hx with h | h
        · exact hp x h
        · simp at h; subst h; exact hb
      simp only [go_sem, r_block, f0, f1, f7, f8, next64 (show i < 9223372036854775807 by omega)]
      refine ⟨l.length - (i + 1), by omega, i + 1, ?_⟩
      (and_intros <;> first | assumption | rfl | omega)
  · rw [List.take_of_length_le (by omega)] at hp
    simp only [go_sem, r_block]
    exact aRet_as (r := int (-1)) rfl ⟨⟨_, rfl, .inl ⟨rfl, hp⟩⟩, rfl⟩
theorem fhas_at (l : List Fa) (x : Fa) (hl : l.length ≤ 1000000000) (sl : ∀ y ∈ l, y.Sm) (sx : x.Sm) : AT Tryz.prog 15 [.sl 4 (faC l), .agg x.cs] σ fun r σ' => r = boo (decide (x ∈ l)) ∧ σ' = σ := by
  refine AT.of_body Tryz.func15 rfl (by decide) (by kernel_rfl) (by kernel_rfl) (Nat.le_of_ble_eq_true rfl) ?_
  simp only [go_sem]
  refine Ctx.nil.alloc fun q σ1 c1 => ?_
  simp only [go_sem]
  simp only [aFunc, exacts]
  simp only [go_sem]
  have hc : AT Tryz.prog 39 [.sl 4 (faC l), clo 40 q] σ1 fun r σ' => r = boo (decide (x ∈ l)) ∧ σ' = σ1 := by
    refine AT.of_body Tryz.func39 rfl (by decide) (by kernel_rfl) (by kernel_rfl) (Nat.le_of_ble_eq_true rfl) ?_
    simp only [go_sem]
    refine (indexF_at l (fun y => decide (x = y)) .sl hl fun y hy => has1_at x y sx (sl y hy) c1.g0).mono ?_
    rintro _ σ1 ⟨⟨k, rfl, hk⟩, rfl⟩
    simp only [go_sem]
    have hd : ((0 : Int) ≤ k) ↔ x ∈ l := ?_
    · exact aRet_as (r := boo (decide ((0 : Int) ≤ k))) rfl ⟨by rw [decide_eq_decide.2 hd], rfl⟩
    rcases hk with ⟨rfl, hk⟩ | ⟨i, rfl, h1, h2, h3⟩
    · exact ⟨fun h => absurd h (by omega), fun h => by have := hk x h; simp at this⟩
    · exact ⟨fun _ => by rw [of_decide_eq_true h2]; exact List.getElem_mem h1, fun _ => by omega⟩
  refine hc.mono ?_
  rintro _ σ1 ⟨rfl, rfl⟩
  simp only [go_sem]
  exact aRet_view (r := boo (decide (x ∈ l))) rfl _ σ (c1.view _) ⟨rfl, rfl⟩
theorem minus1_at (l : List Fa) (x : Fa) (hl : l.length ≤ 1000000000) (sl : ∀ y ∈ l, y.Sm) (sx : x.Sm) (ht : σ t = some (.cells [.sl 4 (faC l)])) : AT Tryz.prog 43 [.agg x.cs, ptr t] σ fun r σ' => r = boo (decide (x ∈ l)) ∧ σ' = σ := by
  refine AT.of_body Tryz.func43 rfl (by decide) (by kernel_rfl) (by kernel_rfl) (Nat.le_of_ble_eq_true rfl) ?_
  simp only [go_sem]
  refine Ctx.nil.alloc fun q σ1 c1 => ?_
  simp only [go_sem, c1.g0, c1.sub _ _ ht]
  refine (fhas_at l x hl sl sx).mono ?_
  rintro _ σ1 ⟨rfl, rfl⟩
  simp only [go_sem]
  exact aRet_view (r := boo (decide (x ∈ l))) rfl _ σ (c1.view _) ⟨rfl, rfl⟩
theorem take_cnt {p : Fa → Bool} {l : List Fa} {j : Nat} (h : j < l.length) : ((l.take (j + 1)).filter fun x => !p x).length = ((l.take j).filter fun x => !p x).length + (if p l[j] then 0 else 1) := by
  rw [List.take_add_one, List.getElem?_eq_getElem h, List.filter_append, List.length_append]
  cases hb : p l[j] <;> simp [hb]
theorem filt_same {p : Fa → Bool} {l : List Fa} (h : ∀ x ∈ l, p x = false) : (l.filter fun x => !p x) = l := List.filter_eq_self.2 fun x hx => by rw [h x hx]; rfl
/-- What is left, of which the length is known. -/
def Left (β σ : St) (r : AV) (n : Nat) : Prop := ∃ es, LAt 4 σ r es ∧ es.length = n ∧ Grow β σ r
theorem delete_at {β : St} {v : AV} (l : List Fa) (p : Fa → Bool) (h : Ow 4 σ v (faC l)) (hl : l.length ≤ 1000000000) (hs : ∀ x o, β x = some o → σ x = some o) (hn : ∀ x, Own v x → β x = none) (hC : ∀ σ', (∀ x o, β x = some o → σ' x = some o) → ∀ x ∈ l, AT Tryz.prog g [.agg x.cs, ptr t] σ' fun r σ'' => r = boo (p x) ∧ σ'' = σ') : AT Tryz.prog 42 [v, clo g t] σ fun r σ' => Left β σ' r (l.filter fun x => !p x).length := by
  refine AT.of_body Tryz.func42 rfl (by decide) (by kernel_rfl) (by kernel_rfl) (Nat.le_of_ble_eq_true rfl) ?_
  simp only [go_sem]
  refine (indexF_at l p (.of h.lat) hl (hC σ hs)).mono ?_
  rintro _ σ ⟨⟨k, rfl, hk⟩, rfl⟩
  rcases hk with ⟨rfl, hk⟩ | ⟨k, rfl, hkl, hk1, hk2⟩
  · simp only [go_sem]
    refine aRet_as (r := v) rfl ⟨faC l, h.lat, by rw [filt_same hk, faC_len], fun y o hy => ⟨hs y o hy, fun ho => by rw [hn y ho] at hy; cases hy⟩⟩
  · rcases h with ⟨h0, _⟩ | ⟨b, cap, rfl, hcap, hb⟩
    · have := congrArg List.length h0
      rw [faC_len, List.length_nil] at this
      omega
    · rw [faC_len] at hcap hn ⊢
      have hbn : β b = none := hn b (own_slv.2 rfl)
      have d0 := decide_eq_false (show ¬ (k : Int) = -1 by omega)
      simp only [go_sem, r_block, d0, next64 (show k < 9223372036854775807 by omega)]
      refine ⟨fun m fr σ' => ∃ (j w : Nat) (es : List (List AV)), m = l.length - j ∧ j ≤ l.length ∧ w < j ∧ w = ((l.take j).filter fun x => !p x).length ∧ es.length = l.length ∧ (∀ i, i < l.length → (es.getD i []).length = 4) ∧ (∀ i (h : i < l.length), j ≤ i → es.getD i [] = l[i].cs) ∧ (∀ x o, β x = some o → σ' x = some o) ∧ σ' b = some (.rows 4 es false cap) ∧ fr 0 = slv b l.length cap ∧ fr 1 = clo g t ∧ fr 5 = int w ∧ fr 6 = int j, ⟨_, k + 1, k, faC l, rfl, by omega, by omega, ?_, faC_len l, fun i hi => by rw [faC_get hi]; rfl, fun i hi _ => faC_get hi, hs, hb, rfl, rfl, rfl, rfl⟩, ?_⟩
      · rw [take_cnt hkl, filt_same hk2, hk1, List.length_take]; simp; omega
      clear hs hb hk1 hk2
      rintro m fr σ1 ⟨j, w, es, rfl, hj, hw, hwc, he1, he2, he3, hs1, hb1, f0, f1, f5, f6⟩
      simp only [go_sem, f0, f6]
      refine aIf_by (fun hlt => ?_) (fun hlt => ?_)
      · have hjl : j < l.length := by omega
        have eg := he3 j hjl (Nat.le_refl _)
        have hcnt := take_cnt (p := p) hjl
        rw [← hwc] at hcnt
        simp only [go_sem, r_block, f0, f6, hb1, eg, he1]
        refine ⟨by omega, by omega, Ctx.nil.alloc fun q σ2 c2 => ?_⟩
        obtain ⟨σ3, e3, c3⟩ := c2.abs 0 rfl (.cells l[j].cs)
        have hb3 := c3.sub _ _ hb1
        have hs3 : ∀ x o, β x = some o → σ3 x = some o := fun x o hx => c3.sub _ _ (hs1 x o hx)
        simp only [go_sem, r_block, c2.g0, e3, f1, c3.g0]
        refine (hC σ3 hs3 _ (List.getElem_mem hjl)).mono ?_
        rintro _ σ3 ⟨rfl, rfl⟩
        have hp0 := c3.g0
        simp only at hp0
        have hb4 : ∀ {τ : St} {o : AObj}, τ = σ3.set b o → ∀ x o, β x = some o → τ x = some o := fun e x o hx => by
          rw [e, set_ne (fun e => by rw [e, hbn] at hx; cases hx)]; exact hs3 x o hx
        clear e3 c3 c2
        cases hpj : p l[j] with
        | true =>
          rw [hpj] at hcnt
          simp only [reduceIte, Nat.add_zero] at hcnt
          have hcnt' := hcnt.symm
          have he3' : ∀ i (h : i < l.length), j + 1 ≤ i → es.getD i [] = l[i].cs := fun i h h2 => he3 i h (by omega)
          simp only [go_sem, r_block, Bool.not_true, f0, f1, f5, f6, next64 (show j < 9223372036854775807 by omega)]
          refine ⟨l.length - (j + 1), by omega, j + 1, w, es, rfl, by omega, by omega, hcnt', he1, he2, he3', hs3, hb3, ?_⟩
          (and_intros <;> first | assumption | rfl | omega)
        | false =>
          rw [hpj] at hcnt
          simp only [Bool.false_eq_true, reduceIte] at hcnt
          have hcnt' := hcnt.symm
          have dz : List.drop 4 (es.getD w []) = [] := List.drop_eq_nil_of_le (by rw [he2 w (by omega)]; omega)
          have hlen : (es.set w l[j].cs).length = l.length := by simp; omega
          have he2' : ∀ i, i < l.length → ((es.set w l[j].cs).getD i []).length = 4 := fun i hi => by
            simp only [List.getD_eq_getElem?_getD, List.getElem?_set]
            split
            · rw [if_pos (by omega)]; rfl
            · have := he2 i hi
              rwa [List.getD_eq_getElem?_getD] at this
          have he3' : ∀ i (h : i < l.length), j + 1 ≤ i → (es.set w l[j].cs).getD i [] = l[i].cs := fun i h h2 => by
            simp only [List.getD_eq_getElem?_getD]
            rw [List.getElem?_set_ne (by omega)]
            have := he3 i h (by omega)
            rwa [List.getD_eq_getElem?_getD] at this
          simp only [go_sem, r_block, Bool.not_false, f0, f1, f5, f6, hp0, hb3, he1, dz, List.append_nil, next64 (show j < 9223372036854775807 by omega), next64 (show w < 9223372036854775807 by omega)]
          refine ⟨by omega, by omega, l.length - (j + 1), by omega, j + 1, w + 1, es.set w l[j].cs, rfl, by omega, by omega, hcnt', hlen, he2', he3', hb4 rfl, rfl, ?_⟩
          (and_intros <;> first | assumption | rfl | omega)
      · have hjl : j = l.length := by omega
        subst hjl
        rw [List.take_of_length_le (Nat.le_refl _)] at hwc
        simp only [go_sem, r_block, f0, f5]
        refine sli_row_from (p := w * 4) (by omega) (by omega) hcap (by omega) ?_
        simp only [go_sem, r_block]
        refine clear_row (l := w) (by omega) hb1 (by decide) (by omega) (by omega) (by decide) ?_
        simp only [go_sem, r_block, f0, f5]
        refine sli_row_upto (by omega) hcap ?_
        simp only [go_sem, r_block]
        refine aRet_view (r := slv b w cap) rfl _ _ (view_trim (m := w) _ set_same) ?_
        rw [set_set]
        refine ⟨_, .inr (.inr ⟨b, cap, ?_, ?_, set_same⟩), ?_, fun y o hy => ⟨?_, fun ho => ?_⟩⟩
        · simp only [List.length_take, List.length_append, List.length_replicate, List.length_drop, he1]
          rw [show min w (min w l.length + (l.length - w) + (l.length - (w + (l.length - w)))) = w by omega]
        · simp only [List.length_take, List.length_append, List.length_replicate, List.length_drop, he1]
          omega
        · simp only [List.length_take, List.length_append, List.length_replicate, List.length_drop, he1]
          omega
        · rw [set_ne (fun e => by rw [e, hbn] at hy; cases hy)]; exact hs1 y o hy
        · rw [own_slv.1 ho, hbn] at hy; cases hy
theorem minus_at (a b : List Fa) (ha : a.length ≤ 1000000) (sa : ∀ y ∈ a, y.Sm) (hb : b.length ≤ 1000000) (sb : ∀ y ∈ b, y.Sm) : AT Tryz.prog 18 [.sl 4 (faC a), .sl 4 (faC b)] σ fun r σ' => (∃ es, r = .sl 4 es ∧ es.length = ((insS cmpF [] a).filter fun x => !decide (x ∈ b)).length) ∧ σ' = σ := by
  have hm : AT Tryz.prog 18 [.sl 4 (faC a), .sl 4 (faC b)] σ fun r σ' => Left σ σ' r ((insS cmpF [] a).filter fun x => !decide (x ∈ b)).length := by
    refine AT.of_body Tryz.func18 rfl (by decide) (by kernel_rfl) (by kernel_rfl) (Nat.le_of_ble_eq_true rfl) ?_
    have hsi : ∀ f ∈ insS cmpF [] a, f.Sm := fun f hf => by
      rcases (insS_mem cmpF_ord).1 hf with h | h
      · exact sa f h
      · cases h
    have hli := insS_len (c := cmpF) (s := []) (l := a)
    simp only [List.length_nil] at hli
    simp only [go_sem]
    refine Ctx.nil.alloc fun q σ1 c1 => ?_
    simp only [go_sem]
    refine (sorted_at a ha sa).mono ?_
    rintro v σ2 ⟨h1, h2, h3⟩
    simp only [go_sem]
    simp only [aFunc, exacts]
    simp only [go_sem]
    refine (delete_at (β := σ1) (insS cmpF [] a) (fun x => decide (x ∈ b)) h1 (by omega) h2 h3 fun σ' hs x hx => minus1_at b x (by omega) sb (hsi x hx) (hs _ _ c1.g0)).mono ?_
    rintro r σ3 ⟨es, k1, k2, k3⟩
    simp only [go_sem]
    exact aRet_as (r := r) rfl ⟨es, k1, k2, fun y o hy => k3 y o (c1.sub y o hy)⟩
  exact hm.post (by kernel_rfl) fun r σ' ⟨es, k1, k2, k3⟩ => ⟨_, _, ret_sl k1 k3, ⟨es, rfl, k2⟩, rfl⟩
end
end Go.Proofs.YthdfpankebjleaaGreat

/-
  Is a model closed? The law ModelOnce: its walk.
  Conditions: none.
-/
namespace Go.Proofs.YthdfpankebjleaaGreat
open Go Go.Av

/-- Nothing of the one is missing in the other. -/
def subB (a b : List Fa) : Bool := decide (∀ x ∈ a, x ∈ b)
theorem subB_nil {b : List Fa} : subB [] b = true := decide_eq_true (by simp)
theorem subB_yes {a b : List Fa} (h : ∀ x ∈ a, x ∈ b) : subB a b = true := decide_eq_true h
theorem subB_no {a b : List Fa} (h : ¬ ∀ x ∈ a, x ∈ b) : subB a b = false := decide_eq_false h
theorem left_zero {a b : List Fa} : ((insS cmpF [] a).filter fun x => !decide (x ∈ b)).length = 0 ↔ ∀ x ∈ a, x ∈ b := by
  rw [List.length_eq_zero_iff, List.filter_eq_nil_iff]
  constructor
  · intro h x hx
    have := h x ((insS_mem cmpF_ord).2 (.inl hx))
    simpa using this
  · intro h x hx
    rcases (insS_mem cmpF_ord).1 hx with h1 | h1
    · simpa using h x h1
    · cases h1
section
variable {σ : St}
theorem closed_at (homes names : List ByteArray) (rs : List Rl) (m : List Fa) (hrs : ∀ r ∈ rs, r.S4) (hm : m.length ≤ 1000000) (hms : ∀ f ∈ m, f.Sm) (hh : homes.length ≤ 1000000) (hn : names.length ≤ 1000000) (hrl : rs.length ≤ 1000000) (hc : cntL homes rs m ≤ 900000) :
    AT Tryz.prog 23 [.agg [.sl 1 (stC homes), .sl 1 (stC names)], .sl 11 (rlC rs), .sl 4 (faC m)] σ fun v σ' => v = boo (subB (onceF homes names rs m) m) ∧ σ' = σ := by
  refine AT.of_body Tryz.func23 rfl (by decide) (by kernel_rfl) (by kernel_rfl) (Nat.le_of_ble_eq_true rfl) ?_
  simp only [go_sem]
  refine Ctx.nil.alloc fun c σ1 c1 => ?_
  simp only [go_sem, c1.g0]
  refine (once_at homes names rs m hrs hm hh hn hrl hc).mono ?_
  rintro _ σ1 ⟨rfl, rfl⟩
  have hol := onceF_len (names := names) hc
  simp only [go_sem]
  refine (minus_at (onceF homes names rs m) m (by omega) (onceF_sm hrs) hm hms).mono ?_
  rintro _ σ1 ⟨⟨es, rfl, he⟩, rfl⟩
  simp only [go_sem]
  refine aRet_view (r := boo (decide ((es.length : Int) = 0))) rfl _ σ (c1.view _) ⟨?_, rfl⟩
  unfold subB
  rw [decide_eq_decide.2 (show ((es.length : Int) = 0) ↔ ∀ x ∈ onceF homes names rs m, x ∈ m from ?_)]
  rw [← left_zero (a := onceF homes names rs m) (b := m), ← he]
  omega
theorem modelOnce_at (homes names : List ByteArray) (rs : List Rl) (l : List Fa) (hw : C4Wf rs l) : AT Tryz.prog 6 [.agg (c4C homes names rs l)] σ fun v σ' => v = boo true := by
  refine AT.of_body Tryz.func6 rfl (by decide) (by kernel_rfl) (by kernel_rfl) (Nat.le_of_ble_eq_true rfl) ?_
  have hone : (c4C homes names rs l).all AV.one = true := rfl
  simp only [go_sem, hone]
  refine Ctx.nil.alloc fun p σ1 c1 => ?_
  simp only [go_sem, c1.g0]
  refine (light_at homes names rs l hw).mono ?_
  rintro _ σ1 ⟨⟨b, rfl, hb⟩, rfl⟩
  have lv : ∀ {σ2 : St} {k : AV → St → Prop}, (∀ σ3, k (boo true) σ3) → AT Tryz.prog 10 [] σ2 k := fun hk => mlive_at.mono fun v σ3 ⟨h1, h2⟩ => by rw [h1]; exact hk σ3
  cases b with
  | false =>
    simp only [go_sem]
    refine lv fun σ2 => ?_
    simp only [go_sem]
    exact aRet_as (r := boo true) rfl rfl
  | true =>
    obtain ⟨s1, s2, s3, s4, s5, s6⟩ := hb rfl
    have ec := c1.g0
    unfold c4C at ec
    simp only [go_sem, ec]
    refine c1.alloc fun q σ2 c2 => ?_
    have hq : σ2 q = some (.cells (wC homes names 0)) := c2.g0
    have hrl : rs.length * homes.length ≤ 10000 := Nat.le_trans (Nat.mul_le_mul s3 s1) (by decide)
    have h2p := c2.g1.1.2
    simp only [go_sem, h2p]
    refine (once12_at homes names rs l 0 s4 (by omega) (by omega) (by omega) (by omega) hq (by omega)).mono ?_
    rintro _ σ3 ⟨rfl, e3⟩
    have hsame := onceR_ok (homes := homes) (names := names) (rs := rs) (m := l) (d := 0)
    revert hsame e3
    generalize onceR homes names rs l 0 = R
    obtain ⟨O, d⟩ := R
    intro e3 hsame
    simp only at hsame
    have h3q : σ3 q = some (.cells (wC homes names d)) := by rw [e3]; exact set_same
    have h3p : σ3 p = some (.cells (c4C homes names rs l)) := by rw [e3, set_ne c2.g1.2.2]; exact c2.g1.1.2
    clear e3 c2 c1 ec h2p hq
    by_cases hd : 60000 < d
    · have dd := decide_eq_true hd
      simp only [go_sem, h3q, dd]
      refine lv fun σ2 => ?_
      simp only [go_sem]
      exact aRet_as (r := boo true) rfl rfl
    · have dd := decide_eq_false hd
      obtain ⟨rfl, hc⟩ := hsame (by omega)
      have hol := onceF_len (homes := homes) (names := names) (rs := rs) (m := l) (by omega)
      have hos := onceF_sm (homes := homes) (names := names) (m := l) s4
      obtain ⟨O, hO⟩ : ∃ O, O = onceF homes names rs l := ⟨_, rfl⟩
      rw [← hO] at hol hos ⊢
      simp only [go_sem, r_block, h3q, dd]
      refine ⟨fun m fr σ' => ∃ i : Nat, m = O.length - i ∧ i ≤ O.length ∧ σ' = σ3 ∧ fr 1 = ptr p ∧ fr 4 = .sl 4 (faC O) ∧ fr 5 = boo (subB (O.take i) l) ∧ fr 6 = int i, ⟨_, 0, rfl, by omega, rfl, rfl, rfl, by rw [show subB (O.take 0) l = true from subB_nil]; rfl, rfl⟩, ?_⟩
      rintro m fr σ3 ⟨i, rfl, hi, rfl, f1, f4, f5, f6⟩
      simp only [go_sem, f4, f6]
      refine aIf_by (fun hlt => ?_) (fun hlt => ?_)
      · have hil : i < O.length := by omega
        have hnext : (∀ x ∈ O.take (i + 1), x ∈ l) ↔ (∀ x ∈ O.take i, x ∈ l) ∧ O[i] ∈ l := by
          rw [List.take_add_one, List.getElem?_eq_getElem hil]
          exact ⟨fun h => ⟨fun x hx => h x (List.mem_append_left _ hx), h _ (List.mem_append_right _ (by simp))⟩, fun ⟨h1, h2⟩ x hx => by
            rcases List.mem_append.1 hx with h | h
            · exact h1 x h
            · simp at h; subst h; exact h2⟩
        have hof := hos _ (List.getElem_mem hil)
        simp only [go_sem, r_block]
        refine aDraw_plan [.rd 0 false, .rd 1 false, .rd 2 false, .rd 3 true, .rd 4 false, .rd 5 false, .rd 6 false, .rd 7 true, .ef 8 [], .rd 9 false, .rd 10 false] (by kernel_rfl) (by kernel_rfl) (by kernel_rfl) ?_
        by_cases ha : ∀ x ∈ O.take i, x ∈ l
        · have da := subB_yes ha
          simp only [go_sem, r_block, f1, f4, f5, f6, da, h3p, faC_get hil]
          refine ⟨by omega, (hasF_at l O[i] (by omega) s6 hof).mono ?_⟩
          rintro _ σ3 ⟨rfl, rfl⟩
          have hdd : decide (O[i] ∈ l) = subB (O.take (i + 1)) l := decide_eq_decide.2 ⟨fun h => hnext.2 ⟨ha, h⟩, fun h => (hnext.1 h).2⟩
          simp only [go_sem, r_block, f1, f4, f6, hdd, next64 (show i < 9223372036854775807 by omega)]
          refine ⟨O.length - (i + 1), by omega, i + 1, ?_⟩
          (and_intros <;> first | assumption | rfl | omega)
        · have da := subB_no ha
          have hdd : false = subB (O.take (i + 1)) l := (subB_no fun h => ha (hnext.1 h).1).symm
          simp only [go_sem, r_block, f1, f4, f5, f6, da, next64 (show i < 9223372036854775807 by omega)]
          refine ⟨O.length - (i + 1), by omega, i + 1, ?_⟩
          rw [← hdd]
          (and_intros <;> first | assumption | rfl | omega)
      · have htk : O.take i = O := List.take_of_length_le (by omega)
        rw [htk] at f5
        simp only [go_sem, r_block, f1, h3p]
        refine (copy_at l (by omega) s6).mono ?_
        rintro _ σ3 ⟨rfl, rfl⟩
        simp only [go_sem, r_block]
        refine aDraw_plan [.rd 0 true, .rd 2 false, .rd 3 true, .rd 4 false, .rd 6 false, .ef 1 [3], .ef 5 [], .ef 7 [], .rd 8 false, .rd 9 true, .rd 11 false, .rd 12 true, .rd 13 false, .rd 15 false, .ef 10 [12], .ef 14 [], .rd 16 false, .rd 17 false, .rd 18 false, .rd 19 false, .rd 20 false, .rd 21 true, .ef 22 [], .rd 23 false, .rd 24 false, .ef 25 [], .rd 26 false, .rd 27 false] (by kernel_rfl) (by kernel_rfl) (by kernel_rfl) ?_
        simp only [go_sem, r_block, f1, h3p]
        refine (world_at homes names rs l).mono ?_
        rintro _ σ3 ⟨rfl, rfl⟩
        simp only [go_sem, r_block, f1, h3p]
        refine (once_at homes names rs l s4 (by omega) (by omega) (by omega) (by omega) (by omega)).mono ?_
        rintro _ σ3 ⟨rfl, rfl⟩
        rw [← hO]
        simp only [go_sem, r_block, f4]
        refine (likeF_at (a := O) (b := O) .sl .sl (by omega) hos (by omega) hos).mono ?_
        rintro _ σ3 ⟨rfl, rfl⟩
        have d1 : decide (O = O) = true := decide_eq_true rfl
        simp only [go_sem, r_block, d1, f1, h3p]
        refine (world_at homes names rs l).mono ?_
        rintro _ σ3 ⟨rfl, rfl⟩
        simp only [go_sem, r_block, f1, h3p]
        refine (closed_at homes names rs l s4 (by omega) s6 (by omega) (by omega) (by omega) (by omega)).mono ?_
        rintro _ σ3 ⟨rfl, rfl⟩
        rw [← hO]
        have d2 : decide (subB O l = subB O l) = true := decide_eq_true rfl
        have d3 : decide (l = l) = true := decide_eq_true rfl
        simp only [go_sem, r_block, f5, d2, f1, h3p]
        refine (likeF_at (a := l) (b := l) .sl .sl (by omega) s6 (by omega) s6).mono ?_
        rintro _ σ3 ⟨rfl, rfl⟩
        simp only [go_sem, r_block, d3]
        refine lv fun σ2 => ?_
        simp only [go_sem, r_block]
        exact aRet_as (r := boo true) rfl rfl
end
end Go.Proofs.YthdfpankebjleaaGreat
