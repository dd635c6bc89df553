/-
  The program logic, part 20: runs that are reckoned: values whose blocks have numbers of their own, and what they stand for.
  Conditions: none (a library of definitions and lemmas).
-/
import Derived.Test.YthdfpankebjleaaAvElem
set_option linter.unusedVariables false
set_option linter.unusedSimpArgs false
namespace Go.Av
open Go Go.RowKit

/-! ### Tables -/
inductive Tr (α : Type) where
  | e
  | l (a : α)
  | n (x y : Tr α)
def Tr.get {α : Type} : Nat → Tr α → Nat → Option α
  | 0, t, _ => match t with
    | .l a => some a
    | _ => none
  | d + 1, t, i => match t with
    | .n x y => match Nat.beq (i % 2) 0 with
      | true => x.get d (i / 2)
      | false => y.get d (i / 2)
    | _ => none
def Tr.kids {α : Type} : Tr α → Tr α × Tr α
  | .n x y => (x, y)
  | _ => (.e, .e)
def Tr.set {α : Type} : Nat → Tr α → Nat → α → Tr α
  | 0, _, _, a => .l a
  | d + 1, t, i, a => match t.kids with
    | (x, y) => match Nat.beq (i % 2) 0 with
      | true => .n (x.set d (i / 2) a) y
      | false => .n x (y.set d (i / 2) a)
theorem Tr.get_kids {α : Type} {d : Nat} {t : Tr α} {i : Nat} : t.get (d + 1) i = match Nat.beq (i % 2) 0 with | true => t.kids.1.get d (i / 2) | false => t.kids.2.get d (i / 2) := by
  have he : ∀ d i, (Tr.e : Tr α).get d i = none := fun d i => by cases d <;> rfl
  cases t with
  | n x y => simp only [Tr.get, Tr.kids]
  | _ => simp only [Tr.get, Tr.kids, he]; split <;> rfl
theorem Tr.get_set {α : Type} : ∀ (d : Nat) (t : Tr α) (i j : Nat) (a : α), i < 2 ^ d → j < 2 ^ d → (t.set d i a).get d j = if j = i then some a else t.get d j
  | 0, t, i, j, a, hi, hj => by
    have : j = i := by simp at hi hj; omega
    rw [if_pos this]; rfl
  | d + 1, t, i, j, a, hi, hj => by
    have hi2 : i / 2 < 2 ^ d := by rw [Nat.pow_succ] at hi; omega
    have hj2 : j / 2 < 2 ^ d := by rw [Nat.pow_succ] at hj; omega
    have e : ∀ x : Nat, Nat.beq (x % 2) 0 = decide (x % 2 = 0) := fun x => by
      cases h : Nat.beq (x % 2) 0 with
      | true => exact (decide_eq_true (Nat.eq_of_beq_eq_true h)).symm
      | false => exact (decide_eq_false (Nat.ne_of_beq_eq_false h)).symm
    rw [Tr.get_kids (t := t)]
    simp only [Tr.set]
    generalize hk : t.kids = p
    obtain ⟨x, y⟩ := p
    simp only [e]
    by_cases h1 : i % 2 = 0 <;> by_cases h2 : j % 2 = 0
    · rw [decide_eq_true h1, decide_eq_true h2]
      simp only [Tr.get, e, decide_eq_true h2]
      rw [Tr.get_set d x _ _ a hi2 hj2]
      have : (j / 2 = i / 2) ↔ j = i := by omega
      simp only [this]
    · rw [decide_eq_true h1, decide_eq_false h2]
      simp only [Tr.get, e, decide_eq_false h2]
      rw [if_neg (by omega)]
    · rw [decide_eq_false h1, decide_eq_true h2]
      simp only [Tr.get, e, decide_eq_true h2]
      rw [if_neg (by omega)]
    · rw [decide_eq_false h1, decide_eq_false h2]
      simp only [Tr.get, e, decide_eq_false h2]
      rw [Tr.get_set d y _ _ a hi2 hj2]
      have : (j / 2 = i / 2) ↔ j = i := by omega
      simp only [this]

/-- All that a table holds. -/
def Tr.All {α : Type} : Nat → Tr α → (Nat → α → Prop) → Prop
  | 0, t, p => match t with
    | .l a => p 0 a
    | _ => True
  | d + 1, t, p => match t with
    | .n x y => x.All d (fun i a => p (2 * i) a) ∧ y.All d (fun i a => p (2 * i + 1) a)
    | _ => True
theorem Tr.all_get {α : Type} : ∀ {d : Nat} {t : Tr α} {p : Nat → α → Prop} {i : Nat} {a : α}, t.All d p → i < 2 ^ d → t.get d i = some a → p i a
  | 0, t, p, i, a, h, hi, hg => by
    have : i = 0 := by simpa using hi
    subst this
    cases t with
    | l b => simp only [Tr.get, Option.some.injEq] at hg; subst hg; exact h
    | _ => cases hg
  | d + 1, t, p, i, a, h, hi, hg => by
    have hi2 : i / 2 < 2 ^ d := by rw [Nat.pow_succ] at hi; omega
    cases t with
    | n x y =>
      simp only [Tr.get] at hg
      split at hg
      · rename_i hb
        have hb := Nat.eq_of_beq_eq_true hb
        have := Tr.all_get h.1 hi2 hg
        rwa [show 2 * (i / 2) = i by omega] at this
      · rename_i hb
        have hb := Nat.ne_of_beq_eq_false hb
        have := Tr.all_get h.2 hi2 hg
        rwa [show 2 * (i / 2) + 1 = i by omega] at this
    | _ => cases hg

/-! ### Values -/
/-- A value: as it is (no block in it); one that is not looked at; a pointer into block i; into a row; a slice: a whole row; a part of one; an empty part; and so on. -/
inductive RS where
  | v (x : Value)
  | opq (i : Nat)
  | ptr (i o : Nat)
  | rp (i k j f : Nat)
  | row (i n : Nat)
  | part (i q l n : Nat)
  | mt (i : Nat) (p c : Nat → Nat)
  | sl (k : Nat) (es : List (List RS))
  | fsl (k : Nat) (es : List (List RS))
  | fp (cs : List RS)
  | agg (cs : List RS)
  | tup (cs : List RS)
  | fn (f : Nat) (fi ca : List RS)
  | yld (l : Nat)
  | ifc (t : TypeId) (x : RS)
  | mp (i : Nat)
instance : Inhabited RS := ⟨.v undef⟩

/-- What the numbers stand for: blocks; what Go leaves open of them (a row's capacity; how many slots a frame has); values that are not looked at. -/
structure Cx where
  r : Nat → Nat
  k : Nat → Nat
  a : Nat → AV
mutual
def RS.vv (c : Cx) : RS → Value
  | .v x => x
  | .ptr i o => .pointer (some ⟨c.r i, o, none⟩)
  | .row i n => .slice (some ⟨c.r i, 0, none⟩) n (c.k i)
  | .part i q l n => .slice (some ⟨c.r i, l * q, none⟩) n (c.k i - l)
  | .mt i p q => .slice (some ⟨c.r i, p (c.k i), none⟩) 0 (q (c.k i))
  | .fn f fi ca => .func (.func f) (RS.vvs c fi).toArray (RS.vvs c ca).toArray
  | .yld l => .func (.yield (c.r l)) #[] #[]
  | .ifc t x => .iface t (x.vv c)
  | .mp i => .map (some (c.r i))
  | _ => undef
def RS.vvs (c : Cx) : List RS → List Value
  | [] => []
  | x :: l => x.vv c :: RS.vvs c l
end
mutual
def RS.iv (c : Cx) : RS → AV
  | .opq i => c.a i
  | .rp i k j f => .rp (c.r i) k j f
  | .sl k es => .sl k (RS.ivss c es)
  | .fsl k es => .fsl k (RS.ivss c es)
  | .fp cs => .fp (RS.ivs c cs)
  | .agg cs => .agg (RS.ivs c cs)
  | .tup cs => .tup (RS.ivs c cs)
  | x => .v (x.vv c)
def RS.ivs (c : Cx) : List RS → List AV
  | [] => []
  | x :: l => x.iv c :: RS.ivs c l
def RS.ivss (c : Cx) : List (List RS) → List (List AV)
  | [] => []
  | x :: l => RS.ivs c x :: RS.ivss c l
end
theorem ivs_map (c : Cx) : ∀ l : List RS, RS.ivs c l = l.map (RS.iv c)
  | [] => rfl
  | x :: l => by simp only [RS.ivs, ivs_map c l, List.map_cons]
theorem ivss_map (c : Cx) : ∀ l : List (List RS), RS.ivss c l = l.map (RS.ivs c)
  | [] => rfl
  | x :: l => by simp only [RS.ivss, ivss_map c l, List.map_cons]
theorem vvs_map (c : Cx) : ∀ l : List RS, RS.vvs c l = l.map (RS.vv c)
  | [] => rfl
  | x :: l => by simp only [RS.vvs, vvs_map c l, List.map_cons]
/-- Is it an exact value? -/
def RS.isV : RS → Bool
  | .opq _ | .rp .. | .sl .. | .fsl .. | .fp _ | .agg _ | .tup _ => false
  | _ => true
theorem iv_v {c : Cx} {x : RS} (h : x.isV = true) : x.iv c = .v (x.vv c) := by cases x <;> first | (cases h; done) | simp only [RS.iv]

/-! ### No number is too great -/
mutual
def RS.wf (n : Nat) : RS → Prop
  | .v _ => True
  | .opq _ => True
  | .ptr i _ => i < n
  | .rp i _ _ _ => i < n
  | .row i _ => i < n
  | .part i _ _ _ => i < n
  | .mt i _ _ => i < n
  | .sl _ es => RS.wfss n es
  | .fsl _ es => RS.wfss n es
  | .fp cs => RS.wfs n cs
  | .agg cs => RS.wfs n cs
  | .tup cs => RS.wfs n cs
  | .fn _ fi ca => RS.wfs n fi ∧ RS.wfs n ca
  | .yld l => l < n
  | .ifc _ x => x.wf n
  | .mp i => i < n
def RS.wfs (n : Nat) : List RS → Prop
  | [] => True
  | x :: l => x.wf n ∧ RS.wfs n l
def RS.wfss (n : Nat) : List (List RS) → Prop
  | [] => True
  | x :: l => RS.wfs n x ∧ RS.wfss n l
end
theorem wfs_iff {n : Nat} : ∀ {l : List RS}, RS.wfs n l ↔ ∀ x ∈ l, x.wf n
  | [] => by simp [RS.wfs]
  | x :: l => by simp [RS.wfs, wfs_iff (l := l)]
theorem wfss_iff {n : Nat} : ∀ {l : List (List RS)}, RS.wfss n l ↔ ∀ x ∈ l, RS.wfs n x
  | [] => by simp [RS.wfss]
  | x :: l => by simp [RS.wfss, wfss_iff (l := l)]
/-- They stand for the same, below n. -/
structure Agree (n : Nat) (c c' : Cx) : Prop where
  r : ∀ i, i < n → c'.r i = c.r i
  k : ∀ i, i < n → c'.k i = c.k i
  a : c'.a = c.a
theorem Agree.refl (n : Nat) (c : Cx) : Agree n c c := ⟨fun _ _ => rfl, fun _ _ => rfl, rfl⟩
theorem Agree.trans {n m : Nat} {c c' c'' : Cx} (h : Agree n c c') (h' : Agree m c' c'') (hn : n ≤ m) : Agree n c c'' :=
  ⟨fun i hi => (h'.r i (by omega)).trans (h.r i hi), fun i hi => (h'.k i (by omega)).trans (h.k i hi), h'.a.trans h.a⟩
section
variable {n : Nat} {c c' : Cx}
mutual
theorem vv_agree (h : Agree n c c') : ∀ (x : RS), x.wf n → x.vv c' = x.vv c
  | .v _, _ => by simp only [RS.vv]
  | .opq _, _ => by simp only [RS.vv]
  | .ptr i _, hw => by simp only [RS.wf] at hw; simp only [RS.vv, h.r i hw]
  | .rp i _ _ _, _ => by simp only [RS.vv]
  | .row i _, hw => by simp only [RS.wf] at hw; simp only [RS.vv, h.r i hw, h.k i hw]
  | .part i _ _ _, hw => by simp only [RS.wf] at hw; simp only [RS.vv, h.r i hw, h.k i hw]
  | .mt i _ _, hw => by simp only [RS.wf] at hw; simp only [RS.vv, h.r i hw, h.k i hw]
  | .sl _ _, _ => by simp only [RS.vv]
  | .fsl _ _, _ => by simp only [RS.vv]
  | .fp _, _ => by simp only [RS.vv]
  | .agg _, _ => by simp only [RS.vv]
  | .tup _, _ => by simp only [RS.vv]
  | .fn _ fi ca, hw => by simp only [RS.wf] at hw; simp only [RS.vv, vvs_agree h fi hw.1, vvs_agree h ca hw.2]
  | .yld l, hw => by simp only [RS.wf] at hw; simp only [RS.vv, h.r l hw]
  | .ifc _ x, hw => by simp only [RS.wf] at hw; simp only [RS.vv, vv_agree h x hw]
  | .mp i, hw => by simp only [RS.wf] at hw; simp only [RS.vv, h.r i hw]
theorem vvs_agree (h : Agree n c c') : ∀ (l : List RS), RS.wfs n l → RS.vvs c' l = RS.vvs c l
  | [], _ => by simp only [RS.vvs]
  | x :: l, hw => by simp only [RS.wfs] at hw; simp only [RS.vvs, vv_agree h x hw.1, vvs_agree h l hw.2]
end
mutual
theorem iv_agree (h : Agree n c c') : ∀ (x : RS), x.wf n → x.iv c' = x.iv c
  | .opq _, _ => by simp only [RS.iv, h.a]
  | .rp i _ _ _, hw => by simp only [RS.wf] at hw; simp only [RS.iv, h.r i hw]
  | .sl _ es, hw => by simp only [RS.wf] at hw; simp only [RS.iv, ivss_agree h es hw]
  | .fsl _ es, hw => by simp only [RS.wf] at hw; simp only [RS.iv, ivss_agree h es hw]
  | .fp cs, hw => by simp only [RS.wf] at hw; simp only [RS.iv, ivs_agree h cs hw]
  | .agg cs, hw => by simp only [RS.wf] at hw; simp only [RS.iv, ivs_agree h cs hw]
  | .tup cs, hw => by simp only [RS.wf] at hw; simp only [RS.iv, ivs_agree h cs hw]
  | .v x, hw => by rw [iv_v rfl, iv_v rfl, vv_agree h _ hw]
  | .ptr i o, hw => by rw [iv_v rfl, iv_v rfl, vv_agree h _ hw]
  | .row i o, hw => by rw [iv_v rfl, iv_v rfl, vv_agree h _ hw]
  | .part i o _ _, hw => by rw [iv_v rfl, iv_v rfl, vv_agree h _ hw]
  | .mt i o _, hw => by rw [iv_v rfl, iv_v rfl, vv_agree h _ hw]
  | .fn i o _, hw => by rw [iv_v rfl, iv_v rfl, vv_agree h _ hw]
  | .yld i, hw => by rw [iv_v rfl, iv_v rfl, vv_agree h _ hw]
  | .ifc i o, hw => by rw [iv_v rfl, iv_v rfl, vv_agree h _ hw]
  | .mp i, hw => by rw [iv_v rfl, iv_v rfl, vv_agree h _ hw]
theorem ivs_agree (h : Agree n c c') : ∀ (l : List RS), RS.wfs n l → RS.ivs c' l = RS.ivs c l
  | [], _ => by simp only [RS.ivs]
  | x :: l, hw => by simp only [RS.wfs] at hw; simp only [RS.ivs, iv_agree h x hw.1, ivs_agree h l hw.2]
theorem ivss_agree (h : Agree n c c') : ∀ (l : List (List RS)), RS.wfss n l → RS.ivss c' l = RS.ivss c l
  | [], _ => by simp only [RS.ivss]
  | x :: l, hw => by simp only [RS.wfss] at hw; simp only [RS.ivss, ivs_agree h x hw.1, ivss_agree h l hw.2]
end
end
mutual
theorem wf_mono {n m : Nat} (h : n ≤ m) : ∀ (x : RS), x.wf n → x.wf m
  | .v _, _ => by simp only [RS.wf]
  | .opq _, _ => by simp only [RS.wf]
  | .ptr i _, hw => by simp only [RS.wf] at hw ⊢; omega
  | .rp i _ _ _, hw => by simp only [RS.wf] at hw ⊢; omega
  | .row i _, hw => by simp only [RS.wf] at hw ⊢; omega
  | .part i _ _ _, hw => by simp only [RS.wf] at hw ⊢; omega
  | .mt i _ _, hw => by simp only [RS.wf] at hw ⊢; omega
  | .sl _ es, hw => by simp only [RS.wf] at hw ⊢; exact wfss_mono h es hw
  | .fsl _ es, hw => by simp only [RS.wf] at hw ⊢; exact wfss_mono h es hw
  | .fp cs, hw => by simp only [RS.wf] at hw ⊢; exact wfs_mono h cs hw
  | .agg cs, hw => by simp only [RS.wf] at hw ⊢; exact wfs_mono h cs hw
  | .tup cs, hw => by simp only [RS.wf] at hw ⊢; exact wfs_mono h cs hw
  | .fn _ fi ca, hw => by simp only [RS.wf] at hw ⊢; exact ⟨wfs_mono h fi hw.1, wfs_mono h ca hw.2⟩
  | .yld l, hw => by simp only [RS.wf] at hw ⊢; omega
  | .ifc _ x, hw => by simp only [RS.wf] at hw ⊢; exact wf_mono h x hw
  | .mp i, hw => by simp only [RS.wf] at hw ⊢; omega
theorem wfs_mono {n m : Nat} (h : n ≤ m) : ∀ (l : List RS), RS.wfs n l → RS.wfs m l
  | [], _ => by simp only [RS.wfs]
  | x :: l, hw => by simp only [RS.wfs] at hw ⊢; exact ⟨wf_mono h x hw.1, wfs_mono h l hw.2⟩
theorem wfss_mono {n m : Nat} (h : n ≤ m) : ∀ (l : List (List RS)), RS.wfss n l → RS.wfss m l
  | [], _ => by simp only [RS.wfss]
  | x :: l, hw => by simp only [RS.wfss] at hw ⊢; exact ⟨wfs_mono h x hw.1, wfss_mono h l hw.2⟩
end
end Go.Av
