/-
  Contracts of the functions that the statement reaches, and the plain laws of what they reckon.
  Conditions: none.
-/
import Derived.Test.YthdfpankebjleaaGreatV1
import Derived.Test.YthdfpankebjleaaGreatV2
import Derived.Test.YthdfpankebjleaaGreatV3
import Derived.Test.YthdfpankebjleaaGreatX1m
import Derived.Test.YthdfpankebjleaaGreatX2m
set_option linter.unusedVariables false
set_option linter.unusedSimpArgs false
set_option linter.unusedSectionVars false
set_option maxRecDepth 100000
/-
  Facts looked up and taken away (package fact).
  Conditions: none.
-/
namespace Go.Proofs.YthdfpankebjleaaGreat
open Go Go.Av

/-- A function that holds a block. -/
abbrev clo (f t : Nat) : AV := .v (.func (.func f) #[] #[.pointer (some ⟨t, 0, none⟩)])
section
variable {σ : St} {t g : Nat}
theorem has1_at (f x : Fa) (sf : f.Sm) (sx : x.Sm) (ht : σ t = some (.cells f.cs)) : AT Tryz.prog 40 [.agg x.cs, ptr t] σ fun r σ' => r = boo (decide (f = x)) ∧ σ' = σ := by
  refine AT.of_body Tryz.func40 rfl (by decide) (by kernel_rfl) (by kernel_rfl) (Nat.le_of_ble_eq_true rfl) ?_
  simp only [go_sem]
  refine Ctx.nil.alloc fun p σ1 c1 => ?_
  simp only [go_sem, c1.g0, c1.sub _ _ ht]
  refine (cmpF_at f x sf sx).mono ?_
  rintro _ σ1 ⟨rfl, rfl⟩
  simp only [go_sem]
  exact aRet_view (r := boo _) rfl _ σ (c1.view _) ⟨by rw [decide_eq_decide.2 (cmpF_ord.zero f x)], rfl⟩
/-- Where one is found first. -/
def IdxS (p : Fa → Bool) (l : List Fa) (k : Int) : Prop := k = -1 ∧ (∀ x ∈ l, p x = false) ∨ ∃ i : Nat, k = i ∧ ∃ h : i < l.length, p l[i] = true ∧ ∀ x ∈ l.take i, p x = false
theorem indexF_at {lv : AV} (l : List Fa) (p : Fa → Bool) (h : Rd 4 σ lv (faC l)) (hl : l.length ≤ 1000000000) (hC : ∀ x ∈ l, AT Tryz.prog g [.agg x.cs, ptr t] σ fun r σ' => r = boo (p x) ∧ σ' = σ) : AT Tryz.prog 79 [lv, clo g t] σ fun r σ' => (∃ k : Int, r = int k ∧ IdxS p l k) ∧ σ' = σ := by
  refine AT.of_body Tryz.func79 rfl (by decide) (by kernel_rfl) (by kernel_rfl) (Nat.le_of_ble_eq_true rfl) ?_
  simp only [go_sem, r_block, h.len]
  refine ⟨fun m fr σ' => ∃ i : Nat, m = l.length - i ∧ i ≤ l.length ∧ σ' = σ ∧ (∀ x ∈ l.take i, p x = false) ∧ fr 0 = lv ∧ fr 1 = clo g t ∧ fr 7 = int l.length ∧ fr 8 = int i, ⟨_, 0, rfl, by omega, rfl, fun x hx => by simp at hx, rfl, rfl, rfl, rfl⟩, ?_⟩
  rintro m fr σ ⟨i, rfl, hi, rfl, hp, f0, f1, f7, f8⟩
  simp only [go_sem, f7, f8]
  refine aIf_by (fun hlt => ?_) (fun hlt => ?_)
  · have hil : i < l.length := by omega
    simp only [go_sem, r_block, f0, f1, f8]
    refine h.elem (by omega) (by rw [faC_len]; omega) fun e he => ?_
    have eg : (faC l).getD i [] = l[i].cs := faC_get hil
    simp only [go_sem, r_block]
    refine he.load (by decide) (by rw [Int.toNat_natCast, eg]; exact Nat.le_refl 4) ?_
    simp only [go_sem, r_block, eg]
    refine (hC _ (List.getElem_mem hil)).mono ?_
    rintro _ σ ⟨rfl, rfl⟩
    simp only [go_sem, r_block]
    refine aIf_bool (fun hb => ?_) (fun hb => ?_)
    · simp only [go_sem, r_block]
      exact aRet_as (r := int i) rfl ⟨⟨_, rfl, .inr ⟨i, rfl, hil, hb, hp⟩⟩, rfl⟩
    · have hp' : ∀ x ∈ l.take (i + 1), p x = false := fun x hx => by
        rw [List.take_add_one, List.getElem?_eq_getElem hil] at hx
        rcases List.mem_append.1 hx with h | h
        · exact hp x h
        · simp at h; subst h; exact hb
      simp only [go_sem, r_block, f0, f1, f7, f8, next64 (show i < 9223372036854775807 by omega)]
      refine ⟨l.length - (i + 1), by omega, i + 1, ?_⟩
      (and_intros <;> first | assumption | rfl | omega)
  · rw [List.take_of_length_le (by omega)] at hp
    simp only [go_sem, r_block]
    exact aRet_as (r := int (-1)) rfl ⟨⟨_, rfl, .inl ⟨rfl, hp⟩⟩, rfl⟩
theorem fhas_at (l : List Fa) (x : Fa) (hl : l.length ≤ 1000000000) (sl : ∀ y ∈ l, y.Sm) (sx : x.Sm) : AT Tryz.prog 15 [.sl 4 (faC l), .agg x.cs] σ fun r σ' => r = boo (decide (x ∈ l)) ∧ σ' = σ := by
  refine AT.of_body Tryz.func15 rfl (by decide) (by kernel_rfl) (by kernel_rfl) (Nat.le_of_ble_eq_true rfl) ?_
  simp only [go_sem]
  refine Ctx.nil.alloc fun q σ1 c1 => ?_
  simp only [go_sem]
  simp only [aFunc, exacts]
  simp only [go_sem]
  have hc : AT Tryz.prog 39 [.sl 4 (faC l), clo 40 q] σ1 fun r σ' => r = boo (decide (x ∈ l)) ∧ σ' = σ1 := by
    refine AT.of_body Tryz.func39 rfl (by decide) (by kernel_rfl) (by kernel_rfl) (Nat.le_of_ble_eq_true rfl) ?_
    simp only [go_sem]
    refine (indexF_at l (fun y => decide (x = y)) .sl hl fun y hy => has1_at x y sx (sl y hy) c1.g0).mono ?_
    rintro _ σ1 ⟨⟨k, rfl, hk⟩, rfl⟩
    simp only [go_sem]
    have hd : ((0 : Int) ≤ k) ↔ x ∈ l := ?_
    · exact aRet_as (r := boo (decide ((0 : Int) ≤ k))) rfl ⟨by rw [decide_eq_decide.2 hd], rfl⟩
    rcases hk with ⟨rfl, hk⟩ | ⟨i, rfl, h1, h2, h3⟩
    · exact ⟨fun h => absurd h (by omega), fun h => by have := hk x h; simp at this⟩
    · exact ⟨fun _ => by rw [of_decide_eq_true h2]; exact List.getElem_mem h1, fun _ => by omega⟩
  refine hc.mono ?_
  rintro _ σ1 ⟨rfl, rfl⟩
  simp only [go_sem]
  exact aRet_view (r := boo (decide (x ∈ l))) rfl _ σ (c1.view _) ⟨rfl, rfl⟩
theorem minus1_at (l : List Fa) (x : Fa) (hl : l.length ≤ 1000000000) (sl : ∀ y ∈ l, y.Sm) (sx : x.Sm) (ht : σ t = some (.cells [.sl 4 (faC l)])) : AT Tryz.prog 43 [.agg x.cs, ptr t] σ fun r σ' => r = boo (decide (x ∈ l)) ∧ σ' = σ := by
  refine AT.of_body Tryz.func43 rfl (by decide) (by kernel_rfl) (by kernel_rfl) (Nat.le_of_ble_eq_true rfl) ?_
  simp only [go_sem]
  refine Ctx.nil.alloc fun q σ1 c1 => ?_
  simp only [go_sem, c1.g0, c1.sub _ _ ht]
  refine (fhas_at l x hl sl sx).mono ?_
  rintro _ σ1 ⟨rfl, rfl⟩
  simp only [go_sem]
  exact aRet_view (r := boo (decide (x ∈ l))) rfl _ σ (c1.view _) ⟨rfl, rfl⟩
theorem take_cnt {p : Fa → Bool} {l : List Fa} {j : Nat} (h : j < l.length) : ((l.take (j + 1)).filter fun x => !p x).length = ((l.take j).filter fun x => !p x).length + (if p l[j] then 0 else 1) := by
  rw [List.take_add_one, List.getElem?_eq_getElem h, List.filter_append, List.length_append]
  cases hb : p l[j] <;> simp [hb]
theorem filt_same {p : Fa → Bool} {l : List Fa} (h : ∀ x ∈ l, p x = false) : (l.filter fun x => !p x) = l := List.filter_eq_self.2 fun x hx => by rw [h x hx]; rfl
/-- What is left, of which the length is known. -/
def Left (β σ : St) (r : AV) (n : Nat) : Prop := ∃ es, LAt 4 σ r es ∧ es.length = n ∧ Grow β σ r
theorem delete_at {β : St} {v : AV} (l : List Fa) (p : Fa → Bool) (h : Ow 4 σ v (faC l)) (hl : l.length ≤ 1000000000) (hs : ∀ x o, β x = some o → σ x = some o) (hn : ∀ x, Own v x → β x = none) (hC : ∀ σ', (∀ x o, β x = some o → σ' x = some o) → ∀ x ∈ l, AT Tryz.prog g [.agg x.cs, ptr t] σ' fun r σ'' => r = boo (p x) ∧ σ'' = σ') : AT Tryz.prog 42 [v, clo g t] σ fun r σ' => Left β σ' r (l.filter fun x => !p x).length := by
  refine AT.of_body Tryz.func42 rfl (by decide) (by kernel_rfl) (by kernel_rfl) (Nat.le_of_ble_eq_true rfl) ?_
  simp only [go_sem]
  refine (indexF_at l p (.of h.lat) hl (hC σ hs)).mono ?_
  rintro _ σ ⟨⟨k, rfl, hk⟩, rfl⟩
  rcases hk with ⟨rfl, hk⟩ | ⟨k, rfl, hkl, hk1, hk2⟩
  · simp only [go_sem]
    refine aRet_as (r := v) rfl ⟨faC l, h.lat, by rw [filt_same hk, faC_len], fun y o hy => ⟨hs y o hy, fun ho => by rw [hn y ho] at hy; cases hy⟩⟩
  · rcases h with ⟨h0, _⟩ | ⟨b, cap, rfl, hcap, hb⟩
    · have := congrArg List.length h0
      rw [faC_len, List.length_nil] at this
      omega
    · rw [faC_len] at hcap hn ⊢
      have hbn : β b = none := hn b (own_slv.2 rfl)
      have d0 := decide_eq_false (show ¬ (k : Int) = -1 by omega)
      simp only [go_sem, r_block, d0, next64 (show k < 9223372036854775807 by omega)]
      refine ⟨fun m fr σ' => ∃ (j w : Nat) (es : List (List AV)), m = l.length - j ∧ j ≤ l.length ∧ w < j ∧ w = ((l.take j).filter fun x => !p x).length ∧ es.length = l.length ∧ (∀ i, i < l.length → (es.getD i []).length = 4) ∧ (∀ i (h : i < l.length), j ≤ i → es.getD i [] = l[i].cs) ∧ (∀ x o, β x = some o → σ' x = some o) ∧ σ' b = some (.rows 4 es false cap) ∧ fr 0 = slv b l.length cap ∧ fr 1 = clo g t ∧ fr 5 = int w ∧ fr 6 = int j, ⟨_, k + 1, k, faC l, rfl, by omega, by omega, ?_, faC_len l, fun i hi => by rw [faC_get hi]; rfl, fun i hi _ => faC_get hi, hs, hb, rfl, rfl, rfl, rfl⟩, ?_⟩
      · rw [take_cnt hkl, filt_same hk2, hk1, List.length_take]; simp; omega
      clear hs hb hk1 hk2
      rintro m fr σ1 ⟨j, w, es, rfl, hj, hw, hwc, he1, he2, he3, hs1, hb1, f0, f1, f5, f6⟩
      simp only [go_sem, f0, f6]
      refine aIf_by (fun hlt => ?_) (fun hlt => ?_)
      · have hjl : j < l.length := by omega
        have eg := he3 j hjl (Nat.le_refl _)
        have hcnt := take_cnt (p := p) hjl
        rw [← hwc] at hcnt
        simp only [go_sem, r_block, f0, f6, hb1, eg, he1]
        refine ⟨by omega, by omega, Ctx.nil.alloc fun q σ2 c2 => ?_⟩
        obtain ⟨σ3, e3, c3⟩ := c2.abs 0 rfl (.cells l[j].cs)
        have hb3 := c3.sub _ _ hb1
        have hs3 : ∀ x o, β x = some o → σ3 x = some o := fun x o hx => c3.sub _ _ (hs1 x o hx)
        simp only [go_sem, r_block, c2.g0, e3, f1, c3.g0]
        refine (hC σ3 hs3 _ (List.getElem_mem hjl)).mono ?_
        rintro _ σ3 ⟨rfl, rfl⟩
        have hp0 := c3.g0
        simp only at hp0
        have hb4 : ∀ {τ : St} {o : AObj}, τ = σ3.set b o → ∀ x o, β x = some o → τ x = some o := fun e x o hx => by
          rw [e, set_ne (fun e => by rw [e, hbn] at hx; cases hx)]; exact hs3 x o hx
        clear e3 c3 c2
        cases hpj : p l[j] with
        | true =>
          rw [hpj] at hcnt
          simp only [reduceIte, Nat.add_zero] at hcnt
          have hcnt' := hcnt.symm
          have he3' : ∀ i (h : i < l.length), j + 1 ≤ i → es.getD i [] = l[i].cs := fun i h h2 => he3 i h (by omega)
          simp only [go_sem, r_block, Bool.not_true, f0, f1, f5, f6, next64 (show j < 9223372036854775807 by omega)]
          refine ⟨l.length - (j + 1), by omega, j + 1, w, es, rfl, by omega, by omega, hcnt', he1, he2, he3', hs3, hb3, ?_⟩
          (and_intros <;> first | assumption | rfl | omega)
        | false =>
          rw [hpj] at hcnt
          simp only [Bool.false_eq_true, reduceIte] at hcnt
          have hcnt' := hcnt.symm
          have dz : List.drop 4 (es.getD w []) = [] := List.drop_eq_nil_of_le (by rw [he2 w (by omega)]; omega)
          have hlen : (es.set w l[j].cs).length = l.length := by simp; omega
          have he2' : ∀ i, i < l.length → ((es.set w l[j].cs).getD i []).length = 4 := fun i hi => by
            simp only [List.getD_eq_getElem?_getD, List.getElem?_set]
            split
            · rw [if_pos (by omega)]; rfl
            · have := he2 i hi
              rwa [List.getD_eq_getElem?_getD] at this
          have he3' : ∀ i (h : i < l.length), j + 1 ≤ i → (es.set w l[j].cs).getD i [] = l[i].cs := fun i h h2 => by
            simp only [List.getD_eq_getElem?_getD]
            rw [List.getElem?_set_ne (by omega)]
            have := he3 i h (by omega)
            rwa [List.getD_eq_getElem?_getD] at this
          simp only [go_sem, r_block, Bool.not_false, f0, f1, f5, f6, hp0, hb3, he1, dz, List.append_nil, next64 (show j < 9223372036854775807 by omega), next64 (show w < 9223372036854775807 by omega)]
          refine ⟨by omega, by omega, l.length - (j + 1), by omega, j + 1, w + 1, es.set w l[j].cs, rfl, by omega, by omega, hcnt', hlen, he2', he3', hb4 rfl, rfl, ?_⟩
          (and_intros <;> first | assumption | rfl | omega)
      · have hjl : j = l.length := by omega
        subst hjl
        rw [List.take_of_length_le (Nat.le_refl _)] at hwc
        simp only [go_sem, r_block, f0, f5]
        refine sli_row_from (p := w * 4) (by omega) (by omega) hcap (by omega) ?_
        simp only [go_sem, r_block]
        refine clear_row (l := w) (by omega) hb1 (by decide) (by omega) (by omega) (by decide) ?_
        simp only [go_sem, r_block, f0, f5]
        refine sli_row_upto (by omega) hcap ?_
        simp only [go_sem, r_block]
        refine aRet_view (r := slv b w cap) rfl _ _ (view_trim (m := w) _ set_same) ?_
        rw [set_set]
        refine ⟨_, .inr (.inr ⟨b, cap, ?_, ?_, set_same⟩), ?_, fun y o hy => ⟨?_, fun ho => ?_⟩⟩
        · simp only [List.length_take, List.length_append, List.length_replicate, List.length_drop, he1]
          rw [show min w (min w l.length + (l.length - w) + (l.length - (w + (l.length - w)))) = w by omega]
        · simp only [List.length_take, List.length_append, List.length_replicate, List.length_drop, he1]
          omega
        · simp only [List.length_take, List.length_append, List.length_replicate, List.length_drop, he1]
          omega
        · rw [set_ne (fun e => by rw [e, hbn] at hy; cases hy)]; exact hs1 y o hy
        · rw [own_slv.1 ho, hbn] at hy; cases hy
theorem minus_at (a b : List Fa) (ha : a.length ≤ 1000000) (sa : ∀ y ∈ a, y.Sm) (hb : b.length ≤ 1000000) (sb : ∀ y ∈ b, y.Sm) : AT Tryz.prog 18 [.sl 4 (faC a), .sl 4 (faC b)] σ fun r σ' => (∃ es, r = .sl 4 es ∧ es.length = ((insS cmpF [] a).filter fun x => !decide (x ∈ b)).length) ∧ σ' = σ := by
  have hm : AT Tryz.prog 18 [.sl 4 (faC a), .sl 4 (faC b)] σ fun r σ' => Left σ σ' r ((insS cmpF [] a).filter fun x => !decide (x ∈ b)).length := by
    refine AT.of_body Tryz.func18 rfl (by decide) (by kernel_rfl) (by kernel_rfl) (Nat.le_of_ble_eq_true rfl) ?_
    have hsi : ∀ f ∈ insS cmpF [] a, f.Sm := fun f hf => by
      rcases (insS_mem cmpF_ord).1 hf with h | h
      · exact sa f h
      · cases h
    have hli := insS_len (c := cmpF) (s := []) (l := a)
    simp only [List.length_nil] at hli
    simp only [go_sem]
    refine Ctx.nil.alloc fun q σ1 c1 => ?_
    simp only [go_sem]
    refine (sorted_at a ha sa).mono ?_
    rintro v σ2 ⟨h1, h2, h3⟩
    simp only [go_sem]
    simp only [aFunc, exacts]
    simp only [go_sem]
    refine (delete_at (β := σ1) (insS cmpF [] a) (fun x => decide (x ∈ b)) h1 (by omega) h2 h3 fun σ' hs x hx => minus1_at b x (by omega) sb (hsi x hx) (hs _ _ c1.g0)).mono ?_
    rintro r σ3 ⟨es, k1, k2, k3⟩
    simp only [go_sem]
    exact aRet_as (r := r) rfl ⟨es, k1, k2, fun y o hy => k3 y o (c1.sub y o hy)⟩
  exact hm.post (by kernel_rfl) fun r σ' ⟨es, k1, k2, k3⟩ => ⟨_, _, ret_sl k1 k3, ⟨es, rfl, k2⟩, rfl⟩
end
end Go.Proofs.YthdfpankebjleaaGreat

/-
  Is a model closed? The law ModelOnce: its walk.
  Conditions: none.
-/
namespace Go.Proofs.YthdfpankebjleaaGreat
open Go Go.Av

/-- Nothing of the one is missing in the other. -/
def subB (a b : List Fa) : Bool := decide (∀ x ∈ a, x ∈ b)
theorem subB_nil {b : List Fa} : subB [] b = true := decide_eq_true (by simp)
theorem subB_yes {a b : List Fa} (h : ∀ x ∈ a, x ∈ b) : subB a b = true := decide_eq_true h
theorem subB_no {a b : List Fa} (h : ¬ ∀ x ∈ a, x ∈ b) : subB a b = false := decide_eq_false h
theorem left_zero {a b : List Fa} : ((insS cmpF [] a).filter fun x => !decide (x ∈ b)).length = 0 ↔ ∀ x ∈ a, x ∈ b := by
  rw [List.length_eq_zero_iff, List.filter_eq_nil_iff]
  constructor
  · intro h x hx
    have := h x ((insS_mem cmpF_ord).2 (.inl hx))
    simpa using this
  · intro h x hx
    rcases (insS_mem cmpF_ord).1 hx with h1 | h1
    · simpa using h x h1
    · cases h1
section
variable {σ : St}
theorem closed_at (homes names : List ByteArray) (rs : List Rl) (m : List Fa) (hrs : ∀ r ∈ rs, r.S4) (hm : m.length ≤ 1000000) (hms : ∀ f ∈ m, f.Sm) (hh : homes.length ≤ 1000000) (hn : names.length ≤ 1000000) (hrl : rs.length ≤ 1000000) (hc : cntL homes rs m ≤ 900000) :
    AT Tryz.prog 23 [.agg [.sl 1 (stC homes), .sl 1 (stC names)], .sl 11 (rlC rs), .sl 4 (faC m)] σ fun v σ' => v = boo (subB (onceF homes names rs m) m) ∧ σ' = σ := by
  refine AT.of_body Tryz.func23 rfl (by decide) (by kernel_rfl) (by kernel_rfl) (Nat.le_of_ble_eq_true rfl) ?_
  simp only [go_sem]
  refine Ctx.nil.alloc fun c σ1 c1 => ?_
  simp only [go_sem, c1.g0]
  refine (once_at homes names rs m hrs hm hh hn hrl hc).mono ?_
  rintro _ σ1 ⟨rfl, rfl⟩
  have hol := onceF_len (names := names) hc
  simp only [go_sem]
  refine (minus_at (onceF homes names rs m) m (by omega) (onceF_sm hrs) hm hms).mono ?_
  rintro _ σ1 ⟨⟨es, rfl, he⟩, rfl⟩
  simp only [go_sem]
  refine aRet_view (r := boo (decide ((es.length : Int) = 0))) rfl _ σ (c1.view _) ⟨?_, rfl⟩
  unfold subB
  rw [decide_eq_decide.2 (show ((es.length : Int) = 0) ↔ ∀ x ∈ onceF homes names rs m, x ∈ m from ?_)]
  rw [← left_zero (a := onceF homes names rs m) (b := m), ← he]
  omega
theorem modelOnce_at (homes names : List ByteArray) (rs : List Rl) (l : List Fa) (hw : C4Wf rs l) : AT Tryz.prog 6 [.agg (c4C homes names rs l)] σ fun v σ' => v = boo true := by
  refine AT.of_body Tryz.func6 rfl (by decide) (by kernel_rfl) (by kernel_rfl) (Nat.le_of_ble_eq_true rfl) ?_
  have hone : (c4C homes names rs l).all AV.one = true := rfl
  simp only [go_sem, hone]
  refine Ctx.nil.alloc fun p σ1 c1 => ?_
  simp only [go_sem, c1.g0]
  refine (light_at homes names rs l hw).mono ?_
  rintro _ σ1 ⟨⟨b, rfl, hb⟩, rfl⟩
  have lv : ∀ {σ2 : St} {k : AV → St → Prop}, (∀ σ3, k (boo true) σ3) → AT Tryz.prog 10 [] σ2 k := fun hk => mlive_at.mono fun v σ3 ⟨h1, h2⟩ => by rw [h1]; exact hk σ3
  cases b with
  | false =>
    simp only [go_sem]
    refine lv fun σ2 => ?_
    simp only [go_sem]
    exact aRet_as (r := boo true) rfl rfl
  | true =>
    obtain ⟨s1, s2, s3, s4, s5, s6⟩ := hb rfl
    have ec := c1.g0
    unfold c4C at ec
    simp only [go_sem, ec]
    refine c1.alloc fun q σ2 c2 => ?_
    have hq : σ2 q = some (.cells (wC homes names 0)) := c2.g0
    have hrl : rs.length * homes.length ≤ 10000 := Nat.le_trans (Nat.mul_le_mul s3 s1) (by decide)
    have h2p := c2.g1.1.2
    simp only [go_sem, h2p]
    refine (once12_at homes names rs l 0 s4 (by omega) (by omega) (by omega) (by omega) hq (by omega)).mono ?_
    rintro _ σ3 ⟨rfl, e3⟩
    have hsame := onceR_ok (homes := homes) (names := names) (rs := rs) (m := l) (d := 0)
    revert hsame e3
    generalize onceR homes names rs l 0 = R
    obtain ⟨O, d⟩ := R
    intro e3 hsame
    simp only at hsame
    have h3q : σ3 q = some (.cells (wC homes names d)) := by rw [e3]; exact set_same
    have h3p : σ3 p = some (.cells (c4C homes names rs l)) := by rw [e3, set_ne c2.g1.2.2]; exact c2.g1.1.2
    clear e3 c2 c1 ec h2p hq
    by_cases hd : 60000 < d
    · have dd := decide_eq_true hd
      simp only [go_sem, h3q, dd]
      refine lv fun σ2 => ?_
      simp only [go_sem]
      exact aRet_as (r := boo true) rfl rfl
    · have dd := decide_eq_false hd
      obtain ⟨rfl, hc⟩ := hsame (by omega)
      have hol := onceF_len (homes := homes) (names := names) (rs := rs) (m := l) (by omega)
      have hos := onceF_sm (homes := homes) (names := names) (m := l) s4
      obtain ⟨O, hO⟩ : ∃ O, O = onceF homes names rs l := ⟨_, rfl⟩
      rw [← hO] at hol hos ⊢
      simp only [go_sem, r_block, h3q, dd]
      refine ⟨fun m fr σ' => ∃ i : Nat, m = O.length - i ∧ i ≤ O.length ∧ σ' = σ3 ∧ fr 1 = ptr p ∧ fr 4 = .sl 4 (faC O) ∧ fr 5 = boo (subB (O.take i) l) ∧ fr 6 = int i, ⟨_, 0, rfl, by omega, rfl, rfl, rfl, by rw [show subB (O.take 0) l = true from subB_nil]; rfl, rfl⟩, ?_⟩
      rintro m fr σ3 ⟨i, rfl, hi, rfl, f1, f4, f5, f6⟩
      simp only [go_sem, f4, f6]
      refine aIf_by (fun hlt => ?_) (fun hlt => ?_)
      · have hil : i < O.length := by omega
        have hnext : (∀ x ∈ O.take (i + 1), x ∈ l) ↔ (∀ x ∈ O.take i, x ∈ l) ∧ O[i] ∈ l := by
          rw [List.take_add_one, List.getElem?_eq_getElem hil]
          exact ⟨fun h => ⟨fun x hx => h x (List.mem_append_left _ hx), h _ (List.mem_append_right _ (by simp))⟩, fun ⟨h1, h2⟩ x hx => by
            rcases List.mem_append.1 hx with h | h
            · exact h1 x h
            · simp at h; subst h; exact h2⟩
        have hof := hos _ (List.getElem_mem hil)
        simp only [go_sem, r_block]
        refine aDraw_plan [.rd 0 false, .rd 1 false, .rd 2 false, .rd 3 true, .rd 4 false, .rd 5 false, .rd 6 false, .rd 7 true, .ef 8 [], .rd 9 false, .rd 10 false] (by kernel_rfl) (by kernel_rfl) (by kernel_rfl) ?_
        by_cases ha : ∀ x ∈ O.take i, x ∈ l
        · have da := subB_yes ha
          simp only [go_sem, r_block, f1, f4, f5, f6, da, h3p, faC_get hil]
          refine ⟨by omega, (hasF_at l O[i] (by omega) s6 hof).mono ?_⟩
          rintro _ σ3 ⟨rfl, rfl⟩
          have hdd : decide (O[i] ∈ l) = subB (O.take (i + 1)) l := decide_eq_decide.2 ⟨fun h => hnext.2 ⟨ha, h⟩, fun h => (hnext.1 h).2⟩
          simp only [go_sem, r_block, f1, f4, f6, hdd, next64 (show i < 9223372036854775807 by omega)]
          refine ⟨O.length - (i + 1), by omega, i + 1, ?_⟩
          (and_intros <;> first | assumption | rfl | omega)
        · have da := subB_no ha
          have hdd : false = subB (O.take (i + 1)) l := (subB_no fun h => ha (hnext.1 h).1).symm
          simp only [go_sem, r_block, f1, f4, f5, f6, da, next64 (show i < 9223372036854775807 by omega)]
          refine ⟨O.length - (i + 1), by omega, i + 1, ?_⟩
          rw [← hdd]
          (and_intros <;> first | assumption | rfl | omega)
      · have htk : O.take i = O := List.take_of_length_le (by omega)
        rw [htk] at f5
        simp only [go_sem, r_block, f1, h3p]
        refine (copy_at l (by omega) s6).mono ?_
        rintro _ σ3 ⟨rfl, rfl⟩
        simp only [go_sem, r_block]
        refine aDraw_plan [.rd 0 true, .rd 2 false, .rd 3 true, .rd 4 false, .rd 6 false, .ef 1 [3], .ef 5 [], .ef 7 [], .rd 8 false, .rd 9 true, .rd 11 false, .rd 12 true, .rd 13 false, .rd 15 false, .ef 10 [12], .ef 14 [], .rd 16 false, .rd 17 false, .rd 18 false, .rd 19 false, .rd 20 false, .rd 21 true, .ef 22 [], .rd 23 false, .rd 24 false, .ef 25 [], .rd 26 false, .rd 27 false] (by kernel_rfl) (by kernel_rfl) (by kernel_rfl) ?_
        simp only [go_sem, r_block, f1, h3p]
        refine (world_at homes names rs l).mono ?_
        rintro _ σ3 ⟨rfl, rfl⟩
        simp only [go_sem, r_block, f1, h3p]
        refine (once_at homes names rs l s4 (by omega) (by omega) (by omega) (by omega) (by omega)).mono ?_
        rintro _ σ3 ⟨rfl, rfl⟩
        rw [← hO]
        simp only [go_sem, r_block, f4]
        refine (likeF_at (a := O) (b := O) .sl .sl (by omega) hos (by omega) hos).mono ?_
        rintro _ σ3 ⟨rfl, rfl⟩
        have d1 : decide (O = O) = true := decide_eq_true rfl
        simp only [go_sem, r_block, d1, f1, h3p]
        refine (world_at homes names rs l).mono ?_
        rintro _ σ3 ⟨rfl, rfl⟩
        simp only [go_sem, r_block, f1, h3p]
        refine (closed_at homes names rs l s4 (by omega) s6 (by omega) (by omega) (by omega) (by omega)).mono ?_
        rintro _ σ3 ⟨rfl, rfl⟩
        rw [← hO]
        have d2 : decide (subB O l = subB O l) = true := decide_eq_true rfl
        have d3 : decide (l = l) = true := decide_eq_true rfl
        simp only [go_sem, r_block, f5, d2, f1, h3p]
        refine (likeF_at (a := l) (b := l) .sl .sl (by omega) s6 (by omega) s6).mono ?_
        rintro _ σ3 ⟨rfl, rfl⟩
        simp only [go_sem, r_block, d3]
        refine lv fun σ2 => ?_
        simp only [go_sem, r_block]
        exact aRet_as (r := boo true) rfl rfl
end
end Go.Proofs.YthdfpankebjleaaGreat

/-
  The least model, in plain words: it is closed, has all facts, is in every model that is so; what stands in it.
  Conditions: none.
-/
namespace Go.Proofs.YthdfpankebjleaaGreat
open Go Go.Av

theorem look_more {v : ByteArray} {c : Cn} {k : List Bi} : ∀ {e : List Bi}, look e v = some c → look (e ++ k) v = some c
  | [], h => by cases h
  | x :: e, h => by
    rw [List.cons_append]
    unfold look at h ⊢
    split
    · rename_i h1; rw [if_pos h1] at h; exact h
    · rename_i h1; rw [if_neg h1] at h; exact look_more h
theorem val_more {t : Tm} {c : Cn} {e k : List Bi} (h : valF t e = some c) : valF t (e ++ k) = some c := by
  unfold valF at h ⊢
  split
  · rename_i h1; rw [if_pos h1] at h; cases h
  · rename_i h1
    rw [if_neg h1] at h
    split
    · rename_i h2; rw [if_pos h2] at h; exact h
    · rename_i h2; rw [if_neg h2] at h; exact look_more h
theorem uni_more {t : Tm} {c : Cn} {e e' : List Bi} (h : uniF t c e = some e') : ∃ k, e' = e ++ k := by
  unfold uniF at h
  split at h
  · split at h
    · injection h with h; exact ⟨[], by simp [h]⟩
    · cases h
  · split at h
    · cases h
    · injection h with h; exact ⟨_, h.symm⟩
theorem uni_val {t : Tm} {c : Cn} {e e' : List Bi} (h : uniF t c e = some e') : valF t e' = some c := by
  unfold uniF at h
  split at h
  · rename_i x hx
    split at h
    · rename_i h1
      injection h with h
      rw [← h, ← h1]; exact hx
    · cases h
  · rename_i hx
    split at h
    · cases h
    · rename_i h1
      injection h with h
      have hz : t ≠ .zero := fun e => h1 (by rw [e]; rfl)
      unfold valF at hx ⊢
      rw [if_neg hz, if_neg h1] at hx ⊢
      rw [← h, look_app, hx]
      simp
theorem uniS_more : ∀ {l : List (Tm × Cn)} {e e' : List Bi}, uniS l e = some e' → ∃ k, e' = e ++ k
  | [], e, e', h => by injection h with h; exact ⟨[], by simp [h]⟩
  | p :: l, e, e', h => by
    unfold uniS at h
    obtain ⟨e1, h1, h2⟩ := Option.bind_eq_some_iff.1 h
    obtain ⟨k1, rfl⟩ := uni_more h1
    obtain ⟨k2, rfl⟩ := uniS_more h2
    exact ⟨k1 ++ k2, by rw [List.append_assoc]⟩
theorem lit_more {ho : Tm} {l : Li} {f : Fa} {e e' : List Bi} (h : litF ho l f e = some e') : ∃ k, e' = e ++ k := by
  unfold litF at h
  split at h
  · exact uniS_more h
  · cases h
theorem lvE_more {ho : Tm} {m : List Fa} : ∀ {ls : List Li} {e e' : List Bi}, e' ∈ lvE ho m ls e → ∃ k, e' = e ++ k
  | [], e, e', h => ⟨[], by simpa [lvE] using h⟩
  | l :: ls, e, e', h => by
    unfold lvE at h
    obtain ⟨x, _, hx⟩ := List.mem_flatMap.1 h
    split at hx
    · rename_i e1 h1
      obtain ⟨k1, rfl⟩ := lit_more h1
      obtain ⟨k2, rfl⟩ := lvE_more hx
      exact ⟨k1 ++ k2, by rw [List.append_assoc]⟩
    · cases hx
theorem onceH_where {names : List ByteArray} {m : List Fa} {r : Rl} {h : ByteArray} {f : Fa} (hf : f ∈ onceH names m r h) : f.by' = h ∧ f.at' ∈ names := by
  unfold onceH at hf
  split at hf
  · rename_i env hu
    obtain ⟨e, he, hh⟩ := List.mem_filterMap.1 hf
    obtain ⟨k, rfl⟩ := lvE_more he
    have hv : valF r.ho (env ++ k) = some (nmC h) := val_more (uni_val hu)
    have hn : nameF r.ho (env ++ k) = some h := nameF_yes hv rfl
    unfold hdN at hh
    split at hh
    · rename_i g hg
      split at hh
      · rename_i hin
        injection hh with hh
        subst hh
        refine ⟨?_, hin⟩
        unfold headF at hg
        obtain ⟨b, hb, hg⟩ := Option.bind_eq_some_iff.1 hg
        obtain ⟨a, _, hg⟩ := Option.bind_eq_some_iff.1 hg
        obtain ⟨l, _, rfl⟩ := Option.map_eq_some_iff.1 hg
        rw [hn] at hb
        injection hb with hb
        exact hb.symm
      · cases hh
    · cases hh
  · cases hf
theorem onceF_where {homes names : List ByteArray} {rs : List Rl} {m : List Fa} {f : Fa} (hf : f ∈ onceF homes names rs m) : f.by' ∈ homes ∧ f.at' ∈ names := by
  rcases (insS_mem cmpF_ord).1 hf with hf | hf
  · obtain ⟨r, _, hf⟩ := List.mem_flatMap.1 hf
    obtain ⟨h, hh, hf⟩ := List.mem_flatMap.1 hf
    obtain ⟨h1, h2⟩ := onceH_where hf
    exact ⟨by rw [h1]; exact hh, h2⟩
  · cases hf
theorem lvE_mono {ho : Tm} {m z : List Fa} (hm : ∀ x ∈ m, x ∈ z) : ∀ {ls : List Li} {e e' : List Bi}, e' ∈ lvE ho m ls e → e' ∈ lvE ho z ls e
  | [], e, e', h => h
  | l :: ls, e, e', h => by
    unfold lvE at h ⊢
    obtain ⟨x, hx, hx2⟩ := List.mem_flatMap.1 h
    refine List.mem_flatMap.2 ⟨x, hm x hx, ?_⟩
    split at hx2
    · exact lvE_mono hm hx2
    · cases hx2
theorem onceF_mono {homes names : List ByteArray} {rs rs' : List Rl} {m z : List Fa} (hr : ∀ r ∈ rs, r ∈ rs') (hm : ∀ x ∈ m, x ∈ z) : ∀ x ∈ onceF homes names rs m, x ∈ onceF homes names rs' z := fun f hf => by
  rcases (insS_mem cmpF_ord).1 hf with hf | hf
  · obtain ⟨r, hrr, hf⟩ := List.mem_flatMap.1 hf
    obtain ⟨h, hh, hf⟩ := List.mem_flatMap.1 hf
    refine (insS_mem cmpF_ord).2 (.inl (List.mem_flatMap.2 ⟨r, hr r hrr, List.mem_flatMap.2 ⟨h, hh, ?_⟩⟩))
    unfold onceH at hf ⊢
    split at hf
    · rename_i env hu
      obtain ⟨e, he, h1⟩ := List.mem_filterMap.1 hf
      exact List.mem_filterMap.2 ⟨e, lvE_mono hm he, h1⟩
    · cases hf
  · cases hf
theorem insS_ext {a b : List Fa} (h : ∀ x, x ∈ a ↔ x ∈ b) : insS cmpF [] a = insS cmpF [] b := rises_ext cmpF_ord (insS_rises cmpF_ord .nil) (insS_rises cmpF_ord .nil) fun y => by rw [insS_mem cmpF_ord, insS_mem cmpF_ord, h y]
theorem onceF_perm {homes names : List ByteArray} {rs rs' : List Rl} (h : rs.Perm rs') (m : List Fa) : onceF homes names rs m = onceF homes names rs' m := insS_ext fun x => by
  unfold onceL
  rw [List.mem_flatMap, List.mem_flatMap]
  exact ⟨fun ⟨r, h1, h2⟩ => ⟨r, h.mem_iff.1 h1, h2⟩, fun ⟨r, h1, h2⟩ => ⟨r, h.mem_iff.2 h1, h2⟩⟩
theorem cntL_perm {homes : List ByteArray} {rs rs' : List Rl} (h : rs.Perm rs') (m : List Fa) : cntL homes rs m = cntL homes rs' m := (h.map _).sum_nat
theorem nxP_perm {homes names : List ByteArray} {rs rs' : List Rl} (h : rs.Perm rs') (m : List Fa) : nxP homes names rs m = nxP homes names rs' m := by unfold nxP; rw [onceF_perm h]
theorem leaP_perm {homes names : List ByteArray} {rs rs' : List Rl} (h : rs.Perm rs') : ∀ (n : Nat) (m : List Fa), leaP homes names rs n m = leaP homes names rs' n m ∧ (OkP homes names rs n m → OkP homes names rs' n m)
  | 0, m => ⟨rfl, fun h => h⟩
  | n + 1, m => by
    unfold leaP OkP
    rw [nxP_perm h, cntL_perm h, (leaP_perm h n _).1]
    exact ⟨rfl, fun g hl => ⟨(g hl).1, fun hn => (leaP_perm h n _).2 ((g hl).2 hn)⟩⟩
theorem ins_same {b : Fa} : ∀ {l : List Fa}, (insF cmpF b l).length = l.length → b ∈ l
  | [], h => by simp [insF] at h
  | x :: l, h => by
    unfold insF at h
    split at h
    · exact List.mem_cons_of_mem _ (ins_same (by simpa using h))
    · split at h
      · rename_i h1
        rw [(cmpF_ord.zero x b).1 h1]
        exact List.mem_cons_self
      · simp at h
theorem insS_same : ∀ {l s : List Fa}, (insS cmpF s l).length = s.length → ∀ y ∈ l, y ∈ s
  | [], s, h, y, hy => by cases hy
  | x :: l, s, h, y, hy => by
    have h1 : s.length ≤ (insF cmpF x s).length := ins_ge
    have h2 : (insF cmpF x s).length ≤ (insS cmpF (insF cmpF x s) l).length := insS_ge
    have h3 : (insS cmpF (insF cmpF x s) l).length = s.length := h
    have hx := ins_same (b := x) (l := s) (by omega)
    rcases List.mem_cons.1 hy with rfl | hy
    · exact hx
    · rcases (ins_mem cmpF_ord).1 (insS_same (l := l) (s := insF cmpF x s) (by omega) y hy) with rfl | h
      · exact hx
      · exact h
/-- What a least model is. -/
structure FixP (homes names : List ByteArray) (rs : List Rl) (m x : List Fa) : Prop where
  up : Rises cmpF x
  le : x.length ≤ 400
  cl : ∀ y ∈ onceF homes names rs x, y ∈ x
  has : ∀ y ∈ m, y ∈ x
  cnt : cntL homes rs x ≤ 900000
  min : ∀ z : List Fa, (∀ y ∈ onceF homes names rs z, y ∈ z) → (∀ y ∈ m, y ∈ z) → ∀ y ∈ x, y ∈ z
  wh : ∀ y ∈ x, y ∈ m ∨ y.by' ∈ homes ∧ y.at' ∈ names
theorem leaP_fix {homes names : List ByteArray} {rs : List Rl} : ∀ (n : Nat) {m : List Fa}, Rises cmpF m → 402 ≤ m.length + n → 1 ≤ n → OkP homes names rs n m → (leaP homes names rs n m).2 = 0 → FixP homes names rs m (leaP homes names rs n m).1
  | 0, m, _, _, h, _, _ => by omega
  | n + 1, m, hr, h1, h2, ho, h0 => by
    unfold leaP at h0 ⊢
    unfold OkP at ho
    by_cases h3 : 400 < m.length
    · rw [if_pos h3] at h0; exact absurd h0 (by decide)
    · rw [if_neg h3] at h0 ⊢
      obtain ⟨hc, ho⟩ := ho (by omega)
      have e : nxP homes names rs m = insS cmpF m (onceF homes names rs m) := insS_two cmpF_ord hr
      have hge : m.length ≤ (nxP homes names rs m).length := by rw [e]; exact insS_ge
      by_cases h4 : (nxP homes names rs m).length = m.length
      · rw [if_pos h4]
        refine ⟨hr, by simp only; omega, fun y hy => ?_, fun y hy => hy, hc, fun z _ h y hy => h y hy, fun y hy => .inl hy⟩
        rw [e] at h4
        exact insS_same h4 y hy
      · rw [if_neg h4] at h0 ⊢
        have hup : Rises cmpF (nxP homes names rs m) := by rw [e]; exact insS_rises cmpF_ord hr
        have F := leaP_fix n hup (by omega) (by omega) (ho h4) h0
        have hin : ∀ y ∈ m, y ∈ nxP homes names rs m := fun y hy => by rw [e]; exact (insS_mem cmpF_ord).2 (.inr hy)
        have hnx : ∀ y ∈ nxP homes names rs m, y ∈ onceF homes names rs m ∨ y ∈ m := fun y hy => by rw [e] at hy; exact (insS_mem cmpF_ord).1 hy
        refine ⟨F.up, F.le, F.cl, fun y hy => F.has y (hin y hy), F.cnt, fun z hz hm y hy => F.min z hz (fun w hw => ?_) y hy, fun y hy => ?_⟩
        · rcases hnx w hw with h | h
          · exact hz w (onceF_mono (fun r hr => hr) hm w h)
          · exact hm w h
        · rcases F.wh y hy with h | h
          · rcases hnx y h with h | h
            · exact .inr (onceF_where h)
            · exact .inl h
          · exact .inr h
/-- A model that is closed is its own least one. -/
theorem leaP_own {homes names : List ByteArray} {rs : List Rl} {m x : List Fa} (F : FixP homes names rs m x) (n : Nat) : leaP homes names rs (n + 1) (insS cmpF [] x) = (x, 0) ∧ OkP homes names rs (n + 1) (insS cmpF [] x) := by
  rw [insS_self cmpF_ord F.up]
  unfold leaP OkP
  have e : nxP homes names rs x = x := by
    unfold nxP
    refine rises_ext cmpF_ord (insS_rises cmpF_ord .nil) F.up fun y => ?_
    rw [insS_mem cmpF_ord, List.mem_append]
    constructor
    · rintro ((h | h) | h)
      · exact h
      · exact F.cl y h
      · cases h
    · exact fun h => .inl (.inl h)
  rw [if_neg (by have := F.le; omega), e, if_pos rfl]
  exact ⟨rfl, fun _ => ⟨F.cnt, fun h => absurd rfl h⟩⟩
end Go.Proofs.YthdfpankebjleaaGreat

/-
  The least model as the laws ask for it; the law ModelNames: its walk.
  Conditions: none.
-/
namespace Go.Proofs.YthdfpankebjleaaGreat
open Go Go.Av

/-- What the laws' least is told to be, if it is good. -/
def LeOk (homes names : List ByteArray) (rs : List Rl) (l x : List Fa) : Prop := OkP homes names rs 402 (insS cmpF [] l) ∧ leaP homes names rs 402 (insS cmpF [] l) = (x, 0) ∧ FixP homes names rs (insS cmpF [] l) x ∧ ∀ f ∈ x, f.Sm
theorem sm_sorted {l : List Fa} (h : ∀ f ∈ l, f.Sm) : ∀ f ∈ insS cmpF [] l, f.Sm := fun f hf => by
  rcases (insS_mem cmpF_ord).1 hf with h1 | h1
  · exact h f h1
  · cases h1
section
variable {σ : St}
theorem least2_at (homes names : List ByteArray) (rs : List Rl) (l : List Fa) (hrs : ∀ r ∈ rs, r.S4) (hh : homes.length ≤ 8) (hn : names.length ≤ 1000000) (hrl : rs.length ≤ 1000) (hbl : l.length ≤ 1000000) (hbs : ∀ f ∈ l, f.Sm) :
    AT Tryz.prog 11 [.agg (c4C homes names rs l)] σ fun v σ' => (∃ (x : List Fa) (b : Bool), v = .tup [.sl 4 (faC x), boo b] ∧ (b = true → LeOk homes names rs l x)) ∧ σ' = σ := by
  refine AT.of_body Tryz.func11 rfl (by decide) (by kernel_rfl) (by kernel_rfl) (Nat.le_of_ble_eq_true rfl) ?_
  have hone : (c4C homes names rs l).all AV.one = true := rfl
  simp only [go_sem, hone]
  refine Ctx.nil.alloc fun p σ1 c1 => ?_
  have ec := c1.g0
  unfold c4C at ec
  simp only [go_sem, ec]
  refine c1.alloc fun q σ2 c2 => ?_
  have hq : σ2 q = some (.cells (wC homes names 0)) := c2.g0
  have h2p := c2.g1.1.2
  have hrl2 : rs.length * homes.length ≤ 100000 := Nat.le_trans (Nat.mul_le_mul hrl hh) (by decide)
  simp only [go_sem, h2p]
  refine (least12_at homes names rs l hrs hh hn hrl hbl hbs hq).mono ?_
  rintro _ σ3 ⟨rfl, e3⟩
  have hsame := lea_same homes names rs hrl2 402 (insS cmpF [] l) 0 (insS_rises cmpF_ord .nil)
  obtain ⟨_, hR3⟩ := leaR_bd (homes := homes) (names := names) hrs 402 (m := insS cmpF [] l) (d := 0) (sm_sorted hbs)
  revert hsame hR3 e3
  generalize leaR homes names rs 402 (insS cmpF [] l) 0 = R
  obtain ⟨x, e, d⟩ := R
  intro e3 hsame hR3
  simp only at hsame hR3
  have h3q : σ3 q = some (.cells (wC homes names d)) := by rw [e3]; exact set_same
  have hsub : ∀ y o, σ y = some o → σ3 y = some o := fun y o hy => by
    rw [e3, set_ne (fun e => by have := c2.f0; rw [← e, hy] at this; cases this)]
    exact c2.sub y o hy
  by_cases hd : 60000 < d
  · have dd := decide_eq_true hd
    simp only [go_sem, h3q, dd]
    exact aRet_view (r := .tup [.sl 4 (faC x), boo false]) rfl _ σ (view_drop hsub) ⟨⟨x, false, rfl, fun h => by cases h⟩, rfl⟩
  · have dd := decide_eq_false hd
    obtain ⟨k1, k2⟩ := hsame (by omega)
    simp only [go_sem, h3q, dd]
    refine aRet_view (r := .tup [.sl 4 (faC x), boo (decide (e = 0))]) rfl _ σ (view_drop hsub) ⟨⟨x, _, rfl, fun h => ?_⟩, rfl⟩
    have he : e = 0 := of_decide_eq_true h
    subst he
    have F := leaP_fix 402 (insS_rises cmpF_ord .nil) (by omega) (by omega) k2 (by rw [k1])
    rw [k1] at F
    exact ⟨k2, k1, F, hR3⟩
theorem modelNames_at (homes names : List ByteArray) (rs : List Rl) (l : List Fa) (hw : C4Wf rs l) : AT Tryz.prog 4 [.agg (c4C homes names rs l)] σ fun v σ' => v = boo true := by
  refine AT.of_body Tryz.func4 rfl (by decide) (by kernel_rfl) (by kernel_rfl) (Nat.le_of_ble_eq_true rfl) ?_
  have hone : (c4C homes names rs l).all AV.one = true := rfl
  simp only [go_sem, hone]
  refine Ctx.nil.alloc fun p σ1 c1 => ?_
  have h1p := c1.g0
  simp only [go_sem, h1p]
  refine (light_at homes names rs l hw).mono ?_
  rintro _ σ1 ⟨⟨b, rfl, hb⟩, rfl⟩
  have lv : ∀ {σ2 : St} {k : AV → St → Prop}, (∀ σ3, k (boo true) σ3) → AT Tryz.prog 10 [] σ2 k := fun hk => mlive_at.mono fun v σ3 ⟨h1, h2⟩ => by rw [h1]; exact hk σ3
  cases b with
  | false =>
    simp only [go_sem]
    refine lv fun σ2 => ?_
    simp only [go_sem]
    exact aRet_as (r := boo true) rfl rfl
  | true =>
    obtain ⟨s1, s2, s3, s4, s5, s6⟩ := hb rfl
    simp only [go_sem, h1p]
    refine (least2_at homes names rs l s4 (by omega) (by omega) (by omega) (by omega) s6).mono ?_
    rintro _ σ1 ⟨⟨x0, b, rfl, hb⟩, rfl⟩
    cases b with
    | false =>
      simp only [go_sem]
      refine lv fun σ2 => ?_
      simp only [go_sem]
      exact aRet_as (r := boo true) rfl rfl
    | true =>
      obtain ⟨k1, k2, F, hsm⟩ := hb rfl
      simp only [go_sem, r_block]
      refine aDraw_plan [.rd 0 true, .rd 2 false, .rd 3 true, .rd 4 false, .rd 5 true, .ef 1 [3, 5], .ef 6 [], .rd 7 false, .rd 8 false, .rd 9 false, .rd 10 false, .rd 11 false] (by kernel_rfl) (by kernel_rfl) (by kernel_rfl) ?_
      simp only [go_sem, r_block, h1p]
      refine (world_at homes names rs l).mono ?_
      rintro _ σ1 ⟨rfl, rfl⟩
      simp only [go_sem, r_block, h1p]
      refine (least_at homes names rs l s4 (by omega) (by omega) (by omega) (by omega) s6 k1).mono ?_
      rintro _ σ1 ⟨rfl, rfl⟩
      rw [k2]
      have hle := F.le
      generalize x0 = x at *
      simp only [go_sem, r_block]
      refine ⟨fun m fr σ' => ∃ i : Nat, m = x.length - i ∧ i ≤ x.length ∧ σ' = σ1 ∧ fr 1 = ptr p ∧ fr 5 = .sl 4 (faC x) ∧ fr 7 = int i, ⟨_, 0, rfl, by omega, rfl, rfl, rfl, rfl⟩, ?_⟩
      rintro m fr σ1 ⟨i, rfl, hi, rfl, f1, f5, f7⟩
      simp only [go_sem, f5, f7]
      refine aIf_by (fun hlt => ?_) (fun hlt => ?_)
      · have hil : i < x.length := by omega
        have hxm := List.getElem_mem hil
        obtain ⟨X, hX⟩ : ∃ X, X = x[i] := ⟨_, rfl⟩
        have eg : (faC x).getD i [] = X.cs := by rw [hX]; exact faC_get hil
        rw [← hX] at hxm
        simp only [go_sem, r_block]
        refine aDraw_plan [.rd 0 false, .rd 1 true, .rd 2 false, .rd 3 false, .rd 4 false, .rd 5 true, .ef 6 []] (by kernel_rfl) (by kernel_rfl) (by kernel_rfl) ?_
        simp only [go_sem, r_block, f1, f5, f7, h1p, eg]
        refine ⟨by omega, (fhas_at l X (by omega) s6 (hsm _ hxm)).mono ?_⟩
        rintro _ σ1 ⟨rfl, rfl⟩
        by_cases hin : X ∈ l
        · have di := decide_eq_true hin
          simp only [go_sem, r_block, di, f1, f5, f7, next64 (show i < 9223372036854775807 by omega)]
          refine ⟨x.length - (i + 1), by omega, i + 1, ?_⟩
          (and_intros <;> first | assumption | rfl | omega)
        · have di := decide_eq_false hin
          have hwh : X.by' ∈ homes ∧ X.at' ∈ names := by
            rcases F.wh X hxm with h | h
            · rcases (insS_mem cmpF_ord).1 h with h | h
              · exact absurd h hin
              · cases h
            · exact h
          simp only [go_sem, r_block, di]
          refine ⟨fun m fr σ' => ∃ j : Nat, m = names.length - j ∧ j ≤ names.length ∧ σ' = σ1 ∧ fr 1 = ptr p ∧ fr 5 = .sl 4 (faC x) ∧ fr 7 = int i ∧ fr 8 = boo (decide (X.at' ∈ names.take j)) ∧ fr 9 = int j, ⟨_, 0, rfl, by omega, rfl, f1, f5, f7, rfl, rfl⟩, ?_⟩
          clear f1 f5 f7 fr
          rintro m fr σ1 ⟨j, rfl, hj, rfl, f1, f5, f7, f8, f9⟩
          simp only [go_sem, f1, f9, h1p]
          refine aIf_by (fun hlt2 => ?_) (fun hlt2 => ?_)
          · have hjl : j < names.length := by omega
            have sg := stC_get hjl
            have hnx : X.at' ∈ names.take (j + 1) ↔ X.at' ∈ names.take j ∨ names[j] = X.at' := by
              rw [List.take_add_one, List.getElem?_eq_getElem hjl]
              simp only [Option.toList, List.mem_append, List.mem_singleton]
              exact ⟨fun h => h.imp _root_.id Eq.symm, fun h => h.imp _root_.id Eq.symm⟩
            simp only [go_sem, r_block]
            refine aDraw_plan [.rd 0 false, .rd 1 false, .rd 2 false, .rd 3 true, .rd 4 false, .rd 5 false, .rd 6 true, .rd 7 false, .rd 8 false, .rd 9 false, .rd 10 false, .rd 11 true, .rd 12 false, .rd 13 false, .rd 14 false] (by kernel_rfl) (by kernel_rfl) (by kernel_rfl) ?_
            by_cases ha : X.at' ∈ names.take j
            · have da := decide_eq_true ha
              have hdd : true = decide (X.at' ∈ names.take (j + 1)) := (decide_eq_true (hnx.2 (.inl ha))).symm
              simp only [go_sem, r_block, f1, f5, f7, f8, f9, da, next64 (show j < 9223372036854775807 by omega)]
              refine ⟨names.length - (j + 1), by omega, j + 1, ?_⟩
              rw [← hdd]
              (and_intros <;> first | assumption | rfl | omega)
            · have da := decide_eq_false ha
              have hdd : decide (names[j] = X.at') = decide (X.at' ∈ names.take (j + 1)) := decide_eq_decide.2 ⟨fun h => hnx.2 (.inr h), fun h => (hnx.1 h).resolve_left ha⟩
              simp only [go_sem, r_block, f1, f5, f7, f8, f9, da, h1p, sg, eg, hdd, next64 (show j < 9223372036854775807 by omega)]
              refine ⟨by omega, by omega, names.length - (j + 1), by omega, j + 1, ?_⟩
              (and_intros <;> first | assumption | rfl | omega)
          · have htk : names.take j = names := List.take_of_length_le (by omega)
            have dh : decide (X.at' ∈ names) = true := decide_eq_true hwh.2
            rw [htk, dh] at f8
            simp only [go_sem, r_block]
            refine ⟨fun m fr σ' => ∃ j : Nat, m = homes.length - j ∧ j ≤ homes.length ∧ σ' = σ1 ∧ fr 1 = ptr p ∧ fr 5 = .sl 4 (faC x) ∧ fr 7 = int i ∧ fr 8 = boo true ∧ fr 10 = boo (decide (X.by' ∈ homes.take j)) ∧ fr 11 = int j, ⟨_, 0, rfl, by omega, rfl, f1, f5, f7, f8, rfl, rfl⟩, ?_⟩
            clear f1 f5 f7 f8 f9 hlt2 htk hj fr
            rintro m fr σ1 ⟨j, rfl, hj, rfl, f1, f5, f7, f8, f10, f11⟩
            simp only [go_sem, f1, f11, h1p]
            refine aIf_by (fun hlt2 => ?_) (fun hlt2 => ?_)
            · have hjl : j < homes.length := by omega
              have sg := stC_get hjl
              have hnx : X.by' ∈ homes.take (j + 1) ↔ X.by' ∈ homes.take j ∨ homes[j] = X.by' := by
                rw [List.take_add_one, List.getElem?_eq_getElem hjl]
                simp only [Option.toList, List.mem_append, List.mem_singleton]
                exact ⟨fun h => h.imp _root_.id Eq.symm, fun h => h.imp _root_.id Eq.symm⟩
              simp only [go_sem, r_block]
              refine aDraw_plan [.rd 0 false, .rd 1 false, .rd 2 false, .rd 3 true, .rd 4 false, .rd 5 false, .rd 6 true, .rd 7 false, .rd 8 false, .rd 9 false, .rd 10 false, .rd 11 true, .rd 12 false, .rd 13 false, .rd 14 false] (by kernel_rfl) (by kernel_rfl) (by kernel_rfl) ?_
              by_cases ha : X.by' ∈ homes.take j
              · have da := decide_eq_true ha
                have hdd : true = decide (X.by' ∈ homes.take (j + 1)) := (decide_eq_true (hnx.2 (.inl ha))).symm
                simp only [go_sem, r_block, f1, f5, f7, f8, f10, f11, da, next64 (show j < 9223372036854775807 by omega)]
                refine ⟨homes.length - (j + 1), by omega, j + 1, ?_⟩
                rw [← hdd]
                (and_intros <;> first | assumption | rfl | omega)
              · have da := decide_eq_false ha
                have hdd : decide (homes[j] = X.by') = decide (X.by' ∈ homes.take (j + 1)) := decide_eq_decide.2 ⟨fun h => hnx.2 (.inr h), fun h => (hnx.1 h).resolve_left ha⟩
                simp only [go_sem, r_block, f1, f5, f7, f8, f10, f11, da, h1p, sg, eg, hdd, next64 (show j < 9223372036854775807 by omega)]
                refine ⟨by omega, by omega, homes.length - (j + 1), by omega, j + 1, ?_⟩
                (and_intros <;> first | assumption | rfl | omega)
            · have htk : homes.take j = homes := List.take_of_length_le (by omega)
              have dh : decide (X.by' ∈ homes) = true := decide_eq_true hwh.1
              rw [htk, dh] at f10
              simp only [go_sem, r_block, f1, f5, f7, f8, f10, Bool.not_true, next64 (show i < 9223372036854775807 by omega)]
              refine ⟨x.length - (i + 1), by omega, i + 1, ?_⟩
              (and_intros <;> first | assumption | rfl | omega)
      · simp only [go_sem, r_block]
        refine lv fun σ2 => ?_
        simp only [go_sem, r_block]
        exact aRet_as (r := boo true) rfl rfl
end
end Go.Proofs.YthdfpankebjleaaGreat

/-
  A case that was made is let go; the law ModelGrows: its walk.
  Conditions: none.
-/
namespace Go.Proofs.YthdfpankebjleaaGreat
open Go Go.Av

theorem let_at {B σ : St} {q : Nat} {rv fv : AV} {homes names : List ByteArray} {rs : List Rl} {l : List Fa} (g1 : Grow B σ rv) (g2 : Grow B σ fv) (hq : σ q = some (.cells [.sl 1 (stC homes), .sl 1 (stC names), rv, fv])) (hn : B q = none) (h1 : Rd 11 σ rv (rlC rs)) (h2 : Rd 4 σ fv (faC l)) :
    SV σ (B.set q (.cells (c4C homes names rs l))) ∧ VW σ (B.set q (.cells (c4C homes names rs l))) (.agg [.sl 1 (stC homes), .sl 1 (stC names), rv, fv]) (.agg (c4C homes names rs l)) := by
  have nq : ∀ {k : Nat} {v : AV} {es : List (List AV)}, Rd k σ v es → ∀ x, Own v x → Grow B σ v → (B.set q (.cells (c4C homes names rs l))) x = none := fun h x ho hg => by
    have hx : x ≠ q := fun e => by
      obtain ⟨cap, hr⟩ := h.own_rows ho
      rw [e, hq] at hr; cases hr
    rw [set_ne hx]
    exact hg.own ho
  have hv : VWs σ (B.set q (.cells (c4C homes names rs l))) [.sl 1 (stC homes), .sl 1 (stC names), rv, fv] (c4C homes names rs l) :=
    vws_same (vws_same (vws_cons (h1.vw fun x ho => nq h1 x ho g1) (vws_cons (h2.vw fun x ho => nq h2 x ho g2) vws_nil)))
  exact ⟨sv_set hq (show OW _ _ (.cells _) (.cells _) from hv) fun x o hne hx => g1.sub x o hx, .agg _ _ rfl hv.2⟩
theorem sm4 {r : Rl} {k : Int} (hk : k ≤ 300) (h : r.Sm k) : r.S4 := ⟨⟨by have := h.2.1; omega, fun y hy => by have := h.2.2 y hy; omega⟩, by have := h.1; omega⟩
theorem rlC_app (a b : List Rl) : rlC a ++ rlC b = rlC (a ++ b) := by simp [rlC]
theorem faC_app (a b : List Fa) : faC a ++ faC b = faC (a ++ b) := by simp [faC]
section
variable {σ : St}
theorem modelGrows_at (homes names : List ByteArray) (rs rx : List Rl) (l lx : List Fa) (hw : C4Wf rs l) (hw2 : C4Wf rx lx) : AT Tryz.prog 5 [.agg (c4C homes names rs l), .sl 4 (faC lx), .sl 11 (rlC rx)] σ fun v σ' => v = boo true := by
  refine AT.of_body Tryz.func5 rfl (by decide) (by kernel_rfl) (by kernel_rfl) (Nat.le_of_ble_eq_true rfl) ?_
  have hone : (c4C homes names rs l).all AV.one = true := rfl
  obtain ⟨v1, v2, v3, v4⟩ := hw2
  simp only [go_sem, hone]
  refine Ctx.nil.alloc fun p σ1 c1 => ?_
  have h1p := c1.g0
  simp only [go_sem, h1p]
  refine (light_at homes names rs l hw).mono ?_
  rintro _ σ1 ⟨⟨b, rfl, hb⟩, rfl⟩
  have lv : ∀ {σ2 : St} {k : AV → St → Prop}, (∀ σ3, k (boo true) σ3) → AT Tryz.prog 10 [] σ2 k := fun hk => mlive_at.mono fun v σ3 ⟨h1, h2⟩ => by rw [h1]; exact hk σ3
  cases b with
  | false =>
    simp only [go_sem, Bool.not_false]
    refine lv fun σ2 => ?_
    simp only [go_sem]
    exact aRet_as (r := boo true) rfl rfl
  | true =>
    obtain ⟨s1, s2, s3, s4, s5, s6⟩ := hb rfl
    simp only [go_sem, Bool.not_true]
    refine (fweight_at lx 60 v3 v4 (by omega) (by omega)).mono ?_
    rintro _ σ1 ⟨⟨x1, rfl, hx1⟩, rfl⟩
    by_cases g1 : 60 < x1
    · have d1 := decide_eq_true g1
      simp only [go_sem, d1]
      refine lv fun σ2 => ?_
      simp only [go_sem]
      exact aRet_as (r := boo true) rfl rfl
    · have d1 := decide_eq_false g1
      obtain ⟨u1, u2⟩ := hx1 (by omega)
      simp only [go_sem, d1]
      refine (weightN_at rx 60 v1 v2 (by omega) (by omega)).mono ?_
      rintro _ σ1 ⟨⟨x2, rfl, hx2⟩, rfl⟩
      by_cases g2 : 60 < x2
      · have d2 := decide_eq_true g2
        simp only [go_sem, d2]
        refine lv fun σ2 => ?_
        simp only [go_sem]
        exact aRet_as (r := boo true) rfl rfl
      · have d2 := decide_eq_false g2
        obtain ⟨u3, u4⟩ := hx2 (by omega)
        have t4 : ∀ r ∈ rx ++ rs, r.S4 := fun r hr => by
          rcases List.mem_append.1 hr with h | h
          · exact sm4 (by omega) (u4 r h)
          · exact s4 r h
        have t6 : ∀ f ∈ lx ++ l, f.Sm := fun f hf => by
          rcases List.mem_append.1 hf with h | h
          · have := u2 f h; unfold Fa.Sm; omega
          · exact s6 f h
        have tl : (lx ++ l).length ≤ 180 := by rw [List.length_append]; omega
        have trl : (rx ++ rs).length ≤ 180 := by rw [List.length_append]; omega
        simp only [go_sem, d2, h1p]
        refine Ctx.nil.alloc fun q σ2 c2 => ?_
        obtain ⟨σ3, e3, c3⟩ := c2.abs 0 rfl (.cells (c4C homes names rs l))
        have hqn : σ1 q = none := c2.f0
        have h3q : σ3 q = some (.cells (c4C homes names rs l)) := c3.g0
        have h3s := c3.sub
        simp only [go_sem, c2.g0, e3, hone]
        clear e3 c3 c2
        refine aDraw_plan [.rd 0 false, .rd 1 false, .rd 3 false, .rd 4 true, .ef 2 [4], .ef 5 [], .rd 6 false, .ef 7 []] (by kernel_rfl) (by kernel_rfl) (by kernel_rfl) ?_
        simp only [go_sem, h3s _ _ h1p]
        refine aApp_by (ys := faC lx) (by simp [src]) (by decide) (by decide) (by decide) (LAt.full.app (by rw [faC_len]; simp only [List.length_nil]; omega) fun fv1 σ4 f1 e1 => ?_)
        rw [List.nil_append] at f1
        have G1 : Grow σ3 σ4 fv1 := fun y o hy => e1 y o hy own_no_fsl
        simp only [go_sem, G1.sub _ _ (h3s _ _ h1p)]
        refine aApp_by (ys := faC l) (by simp [src]) (by decide) (by decide) (by decide) (f1.app (by rw [faC_len, faC_len]; omega) fun fv σ5 f2 e2 => ?_)
        rw [faC_app] at f2
        have G2 : Grow σ3 σ5 fv := G1.step e2
        have h5q := G2.sub _ _ h3q
        have es3 : splice (c4C homes names rs l) 3 [fv] = [.sl 1 (stC homes), .sl 1 (stC names), .sl 11 (rlC rs), fv] := rfl
        simp only [go_sem, h5q, f2.one, f2.cells, es3]
        have h6q : (σ5.set q (.cells [.sl 1 (stC homes), .sl 1 (stC names), .sl 11 (rlC rs), fv])) q = some (.cells [.sl 1 (stC homes), .sl 1 (stC names), .sl 11 (rlC rs), fv]) := set_same
        have n6 : ∀ y, Own fv y → y ≠ q := fun y ho e => f2.not_own h5q (e ▸ ho)
        have f6 : LAt 4 (σ5.set q (.cells [.sl 1 (stC homes), .sl 1 (stC names), .sl 11 (rlC rs), fv])) fv (faC (lx ++ l)) := f2.keep fun y o hy ho => by rw [set_ne (n6 y ho)]; exact hy
        have G6 : Grow σ1 (σ5.set q (.cells [.sl 1 (stC homes), .sl 1 (stC names), .sl 11 (rlC rs), fv])) fv := fun y o hy => by
          rw [set_ne (fun e => by rw [e, hqn] at hy; cases hy)]
          exact G2 y o (h3s _ _ hy)
        revert h6q f6 G6
        generalize σ5.set q (.cells [.sl 1 (stC homes), .sl 1 (stC names), .sl 11 (rlC rs), fv]) = σ6
        intro h6q f6 G6
        refine aDraw_plan [.rd 0 false, .rd 1 false, .rd 3 false, .rd 4 true, .ef 2 [4], .ef 5 [], .rd 6 false, .ef 7 []] (by kernel_rfl) (by kernel_rfl) (by kernel_rfl) ?_
        simp only [go_sem, G6.sub _ _ h1p]
        refine aApp_by (ys := rlC rx) (by simp [src]) (by decide) (by decide) (by decide) (LAt.full.app (by rw [rlC_len]; simp only [List.length_nil]; omega) fun rv1 σ7 r1 e1 => ?_)
        rw [List.nil_append] at r1
        have G7 : Grow σ6 σ7 rv1 := fun y o hy => e1 y o hy own_no_fsl
        simp only [go_sem, G7.sub _ _ (G6.sub _ _ h1p)]
        refine aApp_by (ys := rlC rs) (by simp [src]) (by decide) (by decide) (by decide) (r1.app (by rw [rlC_len, rlC_len]; omega) fun rv σ8 r2 e2 => ?_)
        rw [rlC_app] at r2
        have G8 : Grow σ6 σ8 rv := G7.step e2
        have h8q := G8.sub _ _ h6q
        have es2 : splice [AV.sl 1 (stC homes), .sl 1 (stC names), .sl 11 (rlC rs), fv] 2 [rv] = [.sl 1 (stC homes), .sl 1 (stC names), rv, fv] := rfl
        simp only [go_sem, h8q, r2.one, r2.cells, es2]
        have h9q : (σ8.set q (.cells [.sl 1 (stC homes), .sl 1 (stC names), rv, fv])) q = some (.cells [.sl 1 (stC homes), .sl 1 (stC names), rv, fv]) := set_same
        have r9 : LAt 11 (σ8.set q (.cells [.sl 1 (stC homes), .sl 1 (stC names), rv, fv])) rv (rlC (rx ++ rs)) := r2.keep fun y o hy ho => by
          have hne : y ≠ q := fun e => r2.not_own h8q (e ▸ ho)
          rw [set_ne hne]; exact hy
        have f9 : LAt 4 (σ8.set q (.cells [.sl 1 (stC homes), .sl 1 (stC names), rv, fv])) fv (faC (lx ++ l)) := f6.keep fun y o hy ho => by rw [set_ne (n6 y ho)]; exact G8.sub y o hy
        have G9r : Grow σ1 (σ8.set q (.cells [.sl 1 (stC homes), .sl 1 (stC names), rv, fv])) rv := fun y o hy => by
          rw [set_ne (fun e => by rw [e, hqn] at hy; cases hy)]
          exact G8 y o (G6.sub _ _ hy)
        have G9f : Grow σ1 (σ8.set q (.cells [.sl 1 (stC homes), .sl 1 (stC names), rv, fv])) fv := fun y o hy => by
          rw [set_ne (fun e => by rw [e, hqn] at hy; cases hy)]
          exact ⟨G8.sub y o (G6.sub _ _ hy), (G6 y o hy).2⟩
        revert h9q r9 f9 G9r G9f
        generalize σ8.set q (.cells [.sl 1 (stC homes), .sl 1 (stC names), rv, fv]) = σ9
        intro h9q r9 f9 G9r G9f
        simp only [go_sem, G9r.sub _ _ h1p]
        refine (least2_at homes names rs l s4 (by omega) (by omega) (by omega) (by omega) s6).mono ?_
        rintro _ σ9 ⟨⟨x, b1, rfl, hb1⟩, rfl⟩
        obtain ⟨hSV, hVW⟩ := let_at (homes := homes) (names := names) G9r G9f h9q hqn (.of r9) (.of f9)
        simp only [go_sem, h9q]
        have hw2 := least2_at (σ := σ1.set q (.cells (c4C homes names (rx ++ rs) (lx ++ l)))) homes names (rx ++ rs) (lx ++ l) t4 (by omega) (by omega) (by omega) (by omega) t6
        refine (AT.pre hw2 (by kernel_rfl) hSV (vws_cons hVW vws_nil)).mono ?_
        rintro _ σ10 ⟨⟨x', b2, rfl, hb2⟩, e10⟩
        have h10p : σ10 p = some (.cells (c4C homes names rs l)) := by
          rw [e10, set_ne (fun e => by rw [← e, h1p] at hqn; cases hqn)]; exact h1p
        have h10q : σ10 q = some (.cells (c4C homes names (rx ++ rs) (lx ++ l))) := by rw [e10]; exact set_same
        clear e10 hSV hVW hw2
        cases b1 with
        | false =>
          simp only [go_sem, Bool.not_false]
          refine lv fun σ2 => ?_
          simp only [go_sem]
          exact aRet_as (r := boo true) rfl rfl
        | true =>
          cases b2 with
          | false =>
            simp only [go_sem, Bool.not_true, Bool.not_false]
            refine lv fun σ2 => ?_
            simp only [go_sem]
            exact aRet_as (r := boo true) rfl rfl
          | true =>
            obtain ⟨k1, k2, F, hsm⟩ := hb1 rfl
            obtain ⟨k1', k2', F', hsm'⟩ := hb2 rfl
            have hle := F.le
            have hle' := F'.le
            have hsub : ∀ y ∈ x, y ∈ x' := F.min x' (fun y hy => F'.cl y (onceF_mono (fun r hr => List.mem_append_right _ hr) (fun z hz => hz) y hy)) fun y hy => F'.has y ((insS_mem cmpF_ord).2 (.inl (List.mem_append_right _ (((insS_mem cmpF_ord).1 hy).resolve_right (by simp)))))
            have hz := (left_zero (a := x) (b := x')).2 hsub
            simp only [go_sem, Bool.not_true]
            refine aDraw_plan [.rd 0 true, .rd 2 false, .rd 3 true, .rd 4 false, .rd 5 true, .ef 1 [3, 5], .ef 6 [], .rd 7 false, .rd 8 false, .rd 9 false, .rd 10 false, .rd 11 false] (by kernel_rfl) (by kernel_rfl) (by kernel_rfl) ?_
            simp only [go_sem, h10p]
            refine (world_at homes names rs l).mono ?_
            rintro _ σ10 ⟨rfl, rfl⟩
            simp only [go_sem, h10p]
            refine (least_at homes names rs l s4 (by omega) (by omega) (by omega) (by omega) s6 k1).mono ?_
            rintro _ σ10 ⟨rfl, rfl⟩
            rw [k2]
            simp only [go_sem]
            refine aDraw_plan [.rd 0 true, .rd 2 false, .rd 3 true, .rd 4 false, .rd 5 true, .ef 1 [3, 5], .ef 6 [], .rd 7 false, .rd 8 false, .rd 9 false, .rd 10 false, .rd 11 false] (by kernel_rfl) (by kernel_rfl) (by kernel_rfl) ?_
            simp only [go_sem, h10q]
            refine (world_at homes names (rx ++ rs) (lx ++ l)).mono ?_
            rintro _ σ10 ⟨rfl, rfl⟩
            simp only [go_sem, h10q]
            refine (least_at homes names (rx ++ rs) (lx ++ l) t4 (by omega) (by omega) (by omega) (by omega) t6 k1').mono ?_
            rintro _ σ10 ⟨rfl, rfl⟩
            rw [k2']
            simp only [go_sem]
            refine (minus_at x x' (by omega) hsm (by omega) hsm').mono ?_
            rintro _ σ10 ⟨⟨es, rfl, hes⟩, rfl⟩
            have hel : decide ((es.length : Int) = 0) = true := decide_eq_true (by rw [hes, hz]; rfl)
            simp only [go_sem, hel]
            refine lv fun σ2 => ?_
            simp only [go_sem]
            exact aRet_as (r := boo true) rfl rfl
end
end Go.Proofs.YthdfpankebjleaaGreat

/-
  The law ModelTwice: its walk.
  Conditions: none.
-/
namespace Go.Proofs.YthdfpankebjleaaGreat
open Go Go.Av

/-- A case that is being made: its rules and its facts. -/
def TW (homes names : List ByteArray) (B : St) (q : Nat) (rv fv : AV) (rs : List Rl) (l : List Fa) (σ : St) : Prop := σ q = some (.cells [.sl 1 (stC homes), .sl 1 (stC names), rv, fv]) ∧ LAt 11 σ rv (rlC rs) ∧ LAt 4 σ fv (faC l) ∧ Grow B σ rv ∧ Grow B σ fv
section
variable {homes names : List ByteArray} {B σ σ' : St} {q : Nat} {rv fv rv' fv' : AV} {rs rs' : List Rl} {l l' : List Fa}
theorem TW.apart (h : TW homes names B q rv fv rs l σ) {x : Nat} (h1 : Own rv x) (h2 : Own fv x) : False := by
  obtain ⟨c1, e1⟩ := h.2.1.own_rows h1
  obtain ⟨c2, e2⟩ := h.2.2.1.own_rows h2
  rw [e1] at e2
  injection e2 with e2
  injection e2 with e2
  cases e2
theorem TW.putR (h : TW homes names B q rv fv rs l σ) (hn : B q = none) (e : ∀ y o, σ y = some o → ¬ Own rv y → σ' y = some o ∧ ¬ Own rv' y) (h4 : LAt 11 σ' rv' (rlC rs')) : σ' q = some (.cells [.sl 1 (stC homes), .sl 1 (stC names), rv, fv]) ∧ TW homes names B q rv' fv rs' l (σ'.set q (.cells [.sl 1 (stC homes), .sl 1 (stC names), rv', fv])) := by
  have hap := fun x h1 h2 => h.apart (x := x) h1 h2
  obtain ⟨h1, h2, h3, h5, h6⟩ := h
  have hq := (e _ _ h1 (h2.not_own h1)).1
  refine ⟨hq, set_same, h4.keep fun y o hy ho => ?_, h3.keep fun y o hy ho => ?_, fun y o hy => ?_, fun y o hy => ?_⟩
  · have hne : y ≠ q := fun e => h4.not_own hq (e ▸ ho)
    rw [set_ne hne]; exact hy
  · have hne : y ≠ q := fun e => h3.not_own h1 (e ▸ ho)
    rw [set_ne hne]; exact (e _ _ hy fun h => hap y h ho).1
  · rw [set_ne (fun e => by rw [e, hn] at hy; cases hy)]
    exact e _ _ (h5 y o hy).1 (h5 y o hy).2
  · rw [set_ne (fun e => by rw [e, hn] at hy; cases hy)]
    exact ⟨(e _ _ (h5 y o hy).1 (h5 y o hy).2).1, (h6 y o hy).2⟩
theorem TW.putF (h : TW homes names B q rv fv rs l σ) (hn : B q = none) (e : ∀ y o, σ y = some o → ¬ Own fv y → σ' y = some o ∧ ¬ Own fv' y) (h4 : LAt 4 σ' fv' (faC l')) : σ' q = some (.cells [.sl 1 (stC homes), .sl 1 (stC names), rv, fv]) ∧ TW homes names B q rv fv' rs l' (σ'.set q (.cells [.sl 1 (stC homes), .sl 1 (stC names), rv, fv'])) := by
  have hap := fun x h1 h2 => h.apart (x := x) h1 h2
  obtain ⟨h1, h2, h3, h5, h6⟩ := h
  have hq := (e _ _ h1 (h3.not_own h1)).1
  refine ⟨hq, set_same, h2.keep fun y o hy ho => ?_, h4.keep fun y o hy ho => ?_, fun y o hy => ?_, fun y o hy => ?_⟩
  · have hne : y ≠ q := fun e => h2.not_own h1 (e ▸ ho)
    rw [set_ne hne]; exact (e _ _ hy fun h => hap y ho h).1
  · have hne : y ≠ q := fun e => h4.not_own hq (e ▸ ho)
    rw [set_ne hne]; exact hy
  · rw [set_ne (fun e => by rw [e, hn] at hy; cases hy)]
    exact ⟨(e _ _ (h6 y o hy).1 (h6 y o hy).2).1, (h5 y o hy).2⟩
  · rw [set_ne (fun e => by rw [e, hn] at hy; cases hy)]
    exact e _ _ (h6 y o hy).1 (h6 y o hy).2
end
def twos (l : List Fa) : List Fa := l.flatMap fun x => [x, x]
theorem twos_mem {l : List Fa} {x : Fa} : x ∈ twos l ↔ x ∈ l := by
  unfold twos
  rw [List.mem_flatMap]
  exact ⟨fun ⟨y, h1, h2⟩ => by simp at h2; subst h2; exact h1, fun h => ⟨x, h, by simp⟩⟩
theorem twos_len (l : List Fa) : (twos l).length = 2 * l.length := by
  induction l with
  | nil => rfl
  | cons x l ih =>
    have : twos (x :: l) = x :: x :: twos l := rfl
    rw [this]; simp only [List.length_cons]; omega
theorem twos_app (l : List Fa) (x : Fa) : twos (l ++ [x]) = twos l ++ [x, x] := by unfold twos; rw [List.flatMap_append]; simp
theorem let2_at {B σ : St} {q : Nat} {rv fv : AV} {homes names : List ByteArray} {rs : List Rl} {l : List Fa} (g1 : Grow B σ rv) (g2 : Grow B σ fv) (hq : σ q = some (.cells [.sl 1 (stC homes), .sl 1 (stC names), rv, fv])) (hn : B q = none) (h1 : Rd 11 σ rv (rlC rs)) (h2 : Rd 4 σ fv (faC l)) :
    SV σ (B.set q (.cells (c4C homes names rs l))) ∧ VW σ (B.set q (.cells (c4C homes names rs l))) rv (.sl 11 (rlC rs)) ∧ VW σ (B.set q (.cells (c4C homes names rs l))) fv (.sl 4 (faC l)) := by
  have nq : ∀ {k : Nat} {v : AV} {es : List (List AV)}, Rd k σ v es → ∀ x, Own v x → Grow B σ v → (B.set q (.cells (c4C homes names rs l))) x = none := fun h x ho hg => by
    have hx : x ≠ q := fun e => by
      obtain ⟨cap, hr⟩ := h.own_rows ho
      rw [e, hq] at hr; cases hr
    rw [set_ne hx]
    exact hg.own ho
  exact ⟨(let_at g1 g2 hq hn h1 h2).1, h1.vw fun x ho => nq h1 x ho g1, h2.vw fun x ho => nq h2 x ho g2⟩
section
variable {σ : St}
theorem world2_at (homes names : List ByteArray) (rv fv : AV) (h1 : rv.one = true) (h2 : fv.one = true) : AT Tryz.prog 13 [.agg [.sl 1 (stC homes), .sl 1 (stC names), rv, fv]] σ fun v σ' => v = .agg [.sl 1 (stC homes), .sl 1 (stC names)] ∧ σ' = σ := by
  refine AT.of_body Tryz.func13 rfl (by decide) (by kernel_rfl) (by kernel_rfl) (Nat.le_of_ble_eq_true rfl) ?_
  have hone : [AV.sl 1 (stC homes), AV.sl 1 (stC names), rv, fv].all AV.one = true := by
    simp only [List.all_cons, List.all_nil, h1, h2]
    rfl
  simp only [go_sem, hone]
  refine Ctx.nil.alloc fun p σ1 c1 => ?_
  have h1p := c1.g0
  simp only [go_sem, h1p]
  refine c1.alloc fun q σ2 c2 => ?_
  obtain ⟨σ3, e3, c3⟩ := c2.abs 0 rfl (.cells [.sl 1 (stC homes), .sl 1 (stC names)])
  have h3 : σ3 q = some (.cells [.sl 1 (stC homes), .sl 1 (stC names)]) := c3.g0
  have h2p := c2.g1.1.2
  simp only [go_sem, h2p, c2.g1, e3, h3]
  exact aRet_view (r := .agg [.sl 1 (stC homes), .sl 1 (stC names)]) (by simp [aResult, aResL, aRes1, aResC, oneR, go_sem, Fr.up, h3]) _ σ (c3.view _) ⟨rfl, rfl⟩
theorem modelTwice_at (homes names : List ByteArray) (rs : List Rl) (l : List Fa) (hw : C4Wf rs l) : AT Tryz.prog 3 [.agg (c4C homes names rs l)] σ fun v σ' => v = boo true := by
  refine AT.of_body Tryz.func3 rfl (by decide) (by kernel_rfl) (by kernel_rfl) (Nat.le_of_ble_eq_true rfl) ?_
  have hone : (c4C homes names rs l).all AV.one = true := rfl
  simp only [go_sem, hone]
  refine Ctx.nil.alloc fun p σ1 c1 => ?_
  have h1p := c1.g0
  simp only [go_sem, h1p]
  refine (light_at homes names rs l hw).mono ?_
  rintro _ σ1 ⟨⟨b, rfl, hb⟩, rfl⟩
  have lv : ∀ {σ2 : St} {k : AV → St → Prop}, (∀ σ3, k (boo true) σ3) → AT Tryz.prog 10 [] σ2 k := fun hk => mlive_at.mono fun v σ3 ⟨h1, h2⟩ => by rw [h1]; exact hk σ3
  cases b with
  | false =>
    simp only [go_sem]
    refine lv fun σ2 => ?_
    simp only [go_sem]
    exact aRet_as (r := boo true) rfl rfl
  | true =>
    obtain ⟨s1, s2, s3, s4, s5, s6⟩ := hb rfl
    simp only [go_sem, h1p]
    refine (least2_at homes names rs l s4 (by omega) (by omega) (by omega) (by omega) s6).mono ?_
    rintro _ σ1 ⟨⟨x, b, rfl, hb⟩, rfl⟩
    cases b with
    | false =>
      simp only [go_sem]
      refine lv fun σ2 => ?_
      simp only [go_sem]
      exact aRet_as (r := boo true) rfl rfl
    | true =>
      obtain ⟨k1, k2, F, hsm⟩ := hb rfl
      have hle := F.le
      simp only [go_sem, r_block]
      refine aDraw_plan [.rd 0 true, .rd 2 false, .rd 3 true, .rd 4 false, .rd 5 true, .ef 1 [3, 5], .ef 6 [], .rd 7 false, .rd 8 false, .rd 9 false, .rd 10 false, .rd 11 false] (by kernel_rfl) (by kernel_rfl) (by kernel_rfl) ?_
      simp only [go_sem, r_block, h1p]
      refine (world_at homes names rs l).mono ?_
      rintro _ σ1 ⟨rfl, rfl⟩
      simp only [go_sem, r_block, h1p]
      refine (least_at homes names rs l s4 (by omega) (by omega) (by omega) (by omega) s6 k1).mono ?_
      rintro _ σ1 ⟨rfl, rfl⟩
      rw [k2]
      simp only [go_sem, r_block, h1p]
      refine Ctx.nil.alloc fun q σ2 c2 => ?_
      obtain ⟨σ3, e3, c3⟩ := c2.abs 0 rfl (.cells [.sl 1 (stC homes), .sl 1 (stC names), nilS, nilS])
      have hqn : σ1 q = none := c2.f0
      have T0 : TW homes names σ1 q nilS nilS (rs.drop rs.length).reverse (twos (l.drop l.length).reverse) σ3 := by
        rw [List.drop_length, List.drop_length]
        exact ⟨c3.g0, .none, .none, fun y o hy => ⟨c3.sub y o hy, own_no_nil⟩, fun y o hy => ⟨c3.sub y o hy, own_no_nil⟩⟩
      have h3p := c3.sub _ _ h1p
      have w1 : IntKind.i64.wrap ((rs.length : Int) - 1) = (rs.length : Int) - 1 := wrap64 (by omega)
      simp only [go_sem, r_block, c2.g0, e3, h3p, w1]
      clear c3 c2 e3 h3p
      refine ⟨fun m fr σ' => ∃ (k : Nat) (rv : AV), m = k ∧ k ≤ rs.length ∧ TW homes names σ1 q rv nilS (rs.drop k).reverse (twos (l.drop l.length).reverse) σ' ∧ fr 1 = ptr p ∧ fr 5 = .sl 4 (faC x) ∧ fr 6 = int 0 ∧ fr 7 = ptr q ∧ fr 8 = int ((k : Int) - 1), ⟨_, rs.length, nilS, rfl, Nat.le_refl _, T0, rfl, rfl, rfl, rfl, rfl⟩, ?_⟩
      rintro m fr σ3 ⟨k, rv, rfl, hk, T, f1, f5, f6, f7, f8⟩
      simp only [go_sem, f8]
      refine aIf_by (fun hlt => ?_) (fun hlt => ?_)
      · obtain ⟨k, rfl⟩ : ∃ j, m = j + 1 := ⟨m - 1, by omega⟩
        have hkl : k < rs.length := by omega
        have e8 : (((k + 1 : Nat) : Int) - 1) = (k : Int) := by omega
        rw [e8] at f8
        have w2 : IntKind.i64.wrap ((k : Int) - 1) = (k : Int) - 1 := wrap64 (by omega)
        simp only [go_sem, r_block]
        refine aDraw_plan [.rd 0 false, .rd 1 true, .rd 2 false, .rd 3 true, .rd 4 false, .rd 5 false, .rd 6 true, .rd 7 false, .ef 8 [], .rd 9 false, .ef 10 []] (by kernel_rfl) (by kernel_rfl) (by kernel_rfl) ?_
        simp only [go_sem, r_block, f1, f7, f8, T.1, T.2.2.2.1.sub _ _ h1p, rlC_get hkl]
        refine ⟨by omega, aApp_by (ys := [rs[k].cs]) rfl (by decide) (by decide) (by decide) (T.2.1.app (by rw [rlC_len, List.length_reverse, List.length_drop]; simp only [List.length_cons, List.length_nil]; omega) fun rv' σ4 r4 e4 => ?_)⟩
        have r4' : LAt 11 σ4 rv' (rlC (rs.drop k).reverse) := by
          rw [List.drop_eq_getElem_cons hkl, List.reverse_cons, show rlC ((rs.drop (k + 1)).reverse ++ [rs[k]]) = rlC (rs.drop (k + 1)).reverse ++ [rs[k].cs] by simp [rlC]]
          exact r4
        obtain ⟨q4, T4⟩ := T.putR hqn e4 r4'
        have es2 : splice [AV.sl 1 (stC homes), .sl 1 (stC names), rv, nilS] 2 [rv'] = [.sl 1 (stC homes), .sl 1 (stC names), rv', nilS] := rfl
        simp only [go_sem, r_block, f1, f5, f6, f7, f8, q4, r4.one, r4.cells, es2, w2]
        refine ⟨k, by omega, k, rv', rfl, by omega, T4, ?_⟩
        (and_intros <;> first | assumption | rfl | omega)
      · obtain rfl : m = 0 := by omega
        rw [List.drop_zero] at T
        have w3 : IntKind.i64.wrap ((l.length : Int) - 1) = (l.length : Int) - 1 := wrap64 (by omega)
        simp only [go_sem, r_block, f1, T.2.2.2.1.sub _ _ h1p, w3]
        refine ⟨fun m fr σ' => ∃ (k : Nat) (fv : AV), m = k ∧ k ≤ l.length ∧ TW homes names σ1 q rv fv rs.reverse (twos (l.drop k).reverse) σ' ∧ fr 1 = ptr p ∧ fr 5 = .sl 4 (faC x) ∧ fr 6 = int 0 ∧ fr 7 = ptr q ∧ fr 9 = int ((k : Int) - 1), ⟨_, l.length, nilS, rfl, Nat.le_refl _, T, f1, f5, f6, f7, rfl⟩, ?_⟩
        clear T f1 f5 f6 f7 f8 hlt fr σ3
        rintro m fr σ3 ⟨k, fv, rfl, hk, T, f1, f5, f6, f7, f9⟩
        simp only [go_sem, f9]
        refine aIf_by (fun hlt => ?_) (fun hlt => ?_)
        · obtain ⟨k, rfl⟩ : ∃ j, m = j + 1 := ⟨m - 1, by omega⟩
          have hkl : k < l.length := by omega
          have e9 : (((k + 1 : Nat) : Int) - 1) = (k : Int) := by omega
          rw [e9] at f9
          have w2 : IntKind.i64.wrap ((k : Int) - 1) = (k : Int) - 1 := wrap64 (by omega)
          simp only [go_sem, r_block]
          refine aDraw_plan [.rd 0 false, .rd 1 true, .rd 2 false, .rd 3 true, .rd 4 false, .rd 5 false, .rd 6 true, .rd 7 false, .rd 8 true, .rd 9 false, .rd 10 false, .rd 11 true, .rd 12 false, .ef 13 [], .rd 14 false, .ef 15 []] (by kernel_rfl) (by kernel_rfl) (by kernel_rfl) ?_
          simp only [go_sem, r_block, f1, f7, f9, T.1, T.2.2.2.1.sub _ _ h1p, faC_get hkl]
          refine ⟨by omega, by omega, aApp_by (ys := [l[k].cs, l[k].cs]) rfl (by decide) (by decide) (by decide) (T.2.2.1.app (by rw [faC_len, twos_len, List.length_reverse, List.length_drop]; simp only [List.length_cons, List.length_nil]; omega) fun fv' σ4 r4 e4 => ?_)⟩
          have r4' : LAt 4 σ4 fv' (faC (twos (l.drop k).reverse)) := by
            rw [List.drop_eq_getElem_cons hkl, List.reverse_cons, twos_app, show faC (twos (l.drop (k + 1)).reverse ++ [l[k], l[k]]) = faC (twos (l.drop (k + 1)).reverse) ++ [l[k].cs, l[k].cs] by simp [faC]]
            exact r4
          obtain ⟨q4, T4⟩ := T.putF hqn e4 r4'
          have es2 : splice [AV.sl 1 (stC homes), .sl 1 (stC names), rv, fv] 3 [fv'] = [.sl 1 (stC homes), .sl 1 (stC names), rv, fv'] := rfl
          simp only [go_sem, r_block, f1, f5, f6, f7, f9, q4, r4.one, r4.cells, es2, w2]
          refine ⟨k, by omega, k, fv', rfl, by omega, T4, ?_⟩
          (and_intros <;> first | assumption | rfl | omega)
        · obtain rfl : m = 0 := by omega
          rw [List.drop_zero] at T
          have t6 : ∀ f ∈ twos l.reverse, f.Sm := fun f hf => s6 f (List.mem_reverse.1 (twos_mem.1 hf))
          have t4 : ∀ r ∈ rs.reverse, r.S4 := fun r hr => s4 r (List.mem_reverse.1 hr)
          have tl : (twos l.reverse).length ≤ 240 := by rw [twos_len, List.length_reverse]; omega
          have trl : rs.reverse.length ≤ 120 := by rw [List.length_reverse]; omega
          have hins : insS cmpF [] (twos l.reverse) = insS cmpF [] l := insS_ext fun y => by rw [twos_mem, List.mem_reverse]
          have hperm : rs.Perm rs.reverse := (List.reverse_perm rs).symm
          have kP := leaP_perm (homes := homes) (names := names) hperm 402 (insS cmpF [] l)
          have k1' : OkP homes names rs.reverse 402 (insS cmpF [] (twos l.reverse)) := by rw [hins]; exact kP.2 k1
          have k2' : leaP homes names rs.reverse 402 (insS cmpF [] (twos l.reverse)) = (x, 0) := by rw [hins, ← kP.1]; exact k2
          obtain ⟨k3, k4⟩ := leaP_own F 401
          obtain ⟨T1, T2, T3, T5, T6⟩ := T
          obtain ⟨hSV, hVr, hVf⟩ := let2_at (homes := homes) (names := names) T5 T6 T1 hqn (.of T2) (.of T3)
          simp only [go_sem, r_block]
          refine aDraw_plan [.rd 0 true, .rd 2 false, .rd 3 true, .rd 4 false, .rd 5 true, .ef 1 [3, 5], .ef 6 [], .rd 7 false, .rd 8 false, .rd 9 false, .rd 10 false, .rd 11 false] (by kernel_rfl) (by kernel_rfl) (by kernel_rfl) ?_
          simp only [go_sem, r_block, f7, T1]
          have hw2 := least_at (σ := σ1.set q (.cells (c4C homes names rs.reverse (twos l.reverse)))) homes names rs.reverse (twos l.reverse) t4 (by omega) (by omega) (by omega) (by omega) t6 k1'
          refine (world2_at homes names rv fv T2.one T3.one).mono ?_
          rintro _ σ3 ⟨rfl, rfl⟩
          simp only [go_sem, r_block, f7, T1]
          refine (AT.pre hw2 (by kernel_rfl) hSV (vws_same (vws_cons hVr (vws_cons hVf vws_nil)))).mono ?_
          rintro _ σ4 ⟨rfl, e4⟩
          have h4p : σ4 p = some (.cells (c4C homes names rs l)) := by
            rw [e4, set_ne (fun e => by rw [← e, h1p] at hqn; cases hqn)]; exact h1p
          have h4q : σ4 q = some (.cells (c4C homes names rs.reverse (twos l.reverse))) := by rw [e4]; exact set_same
          clear e4 hSV hVr hVf hw2 T1 T2 T3 T5 T6
          rw [k2']
          simp only [go_sem, r_block]
          refine aDraw_plan [.rd 0 true, .rd 2 false, .rd 3 true, .rd 4 false, .ef 1 [3], .ef 5 [], .rd 6 false, .rd 7 false, .rd 8 false, .rd 9 false, .rd 10 false] (by kernel_rfl) (by kernel_rfl) (by kernel_rfl) ?_
          simp only [go_sem, r_block, f1, f5, h4p]
          refine (world_at homes names rs l).mono ?_
          rintro _ σ4 ⟨rfl, rfl⟩
          simp only [go_sem, r_block, f1, f5, h4p]
          refine (least_at homes names rs x s4 (by omega) (by omega) (by omega) (by omega) hsm k4).mono ?_
          rintro _ σ4 ⟨rfl, rfl⟩
          rw [k3]
          have dx : decide (x = x) = true := decide_eq_true rfl
          simp only [go_sem, r_block, f5, f6]
          refine (likeF_at (a := x) (b := x) .sl .sl (by omega) hsm (by omega) hsm).mono ?_
          rintro _ σ4 ⟨rfl, rfl⟩
          simp only [go_sem, r_block, dx, f5, f6]
          refine (likeF_at (a := x) (b := x) .sl .sl (by omega) hsm (by omega) hsm).mono ?_
          rintro _ σ4 ⟨rfl, rfl⟩
          simp only [go_sem, r_block, dx]
          refine lv fun σ2 => ?_
          simp only [go_sem, r_block]
          exact aRet_as (r := boo true) rfl rfl
end
end Go.Proofs.YthdfpankebjleaaGreat
