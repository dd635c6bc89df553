/-
  Two ends and what is on its way between them (avowallaw23.pair): what its functions compute.
  Conditions: none.
-/
import Derived.Test.YtpdbmnogfanpmaaLe
import Derived.Test.YtpdbmnogfanpmaaLf
set_option linter.unusedVariables false
set_option linter.unusedSimpArgs false
namespace Go.Proofs.Ytpdbmnogfanpmaa
open Go Go.Av

/-- One side. -/
structure Sd where
  e : Nat
  m : Nat
  s : Ls
  way : List Frm
  wl : AV
  pu : Int
  told : List Itm
  tl : AV
def Sd.foot (A : Sd) (x : Nat) : Prop := x = A.e ∨ x = A.m ∨ Own A.wl x ∨ Own A.tl x
structure SdAt (σ : St) (A : Sd) : Prop where
  lk : LAt' σ A.e A.m A.s
  wl : LAt 40 σ A.wl (A.way.map Frm.cs)
  tl : LAt 38 σ A.tl (A.told.map Itm.cs)
def upd (D : Nat → Sd) (i : Nat) (A : Sd) : Nat → Sd := fun j => if j = i then A else D j
def pairC (D : Nat → Sd) : List AV := [ptr (D 0).e, ptr (D 1).e, (D 0).wl, (D 1).wl, int (D 0).pu, int (D 1).pu, (D 0).tl, (D 1).tl]
structure PairAt (σ : St) (p : Nat) (D : Nat → Sd) : Prop where
  ob : σ p = some (.cells (pairC D))
  sd : ∀ i, i < 2 → SdAt σ (D i)
  dis : ∀ i j, i < 2 → j < 2 → i ≠ j → ∀ x, (D i).foot x → ¬ (D j).foot x
  np : ∀ i, i < 2 → ¬ (D i).foot p

section
variable {σ σ' : St} {p i : Nat} {D : Nat → Sd} {A : Sd}
set_option maxRecDepth 100000

theorem upd_same : upd D i A i = A := by simp [upd]
theorem upd_ne {j : Nat} (h : j ≠ i) : upd D i A j = D j := by simp [upd, h]
theorem two (h : i < 2) : i = 0 ∨ i = 1 := by omega
theorem pc0 (h : i < 2) : (pairC D).getD i (.v undef) = ptr (D i).e := by rcases two h with rfl | rfl <;> rfl
theorem pc2 (h : i < 2) : (pairC D).getD (2 + i) (.v undef) = (D i).wl := by rcases two h with rfl | rfl <;> rfl
theorem pc4 (h : i < 2) : (pairC D).getD (4 + i) (.v undef) = int (D i).pu := by rcases two h with rfl | rfl <;> rfl
theorem pc6 (h : i < 2) : (pairC D).getD (6 + i) (.v undef) = (D i).tl := by rcases two h with rfl | rfl <;> rfl
theorem pc_len : (pairC D).length = 8 := rfl
theorem pw2 (h : i < 2) {l : AV} {w : List Frm} : splice (pairC D) (2 + i) [l] = pairC (upd D i { D i with wl := l, way := w }) := by rcases two h with rfl | rfl <;> rfl
theorem pw4 (h : i < 2) {n : Int} : splice (pairC D) (4 + i) [int n] = pairC (upd D i { D i with pu := n }) := by rcases two h with rfl | rfl <;> rfl
theorem pw6 (h : i < 2) {l : AV} {w : List Itm} : splice (pairC D) (6 + i) [l] = pairC (upd D i { D i with tl := l, told := w }) := by rcases two h with rfl | rfl <;> rfl
theorem pws (h : i < 2) {s : Ls} : pairC (upd D i { D i with s := s }) = pairC D := by rcases two h with rfl | rfl <;> rfl

theorem SdAt.some (h : SdAt σ A) {x : Nat} (hx : A.foot x) : ∃ o, σ x = some o := by
  rcases hx with rfl | rfl | hx | hx
  · exact ⟨_, h.lk.ob⟩
  · exact ⟨_, h.lk.er⟩
  · obtain ⟨c, hc⟩ := h.wl.own_rows hx; exact ⟨_, hc⟩
  · obtain ⟨c, hc⟩ := h.tl.own_rows hx; exact ⟨_, hc⟩
theorem SdAt.keep (h : SdAt σ A) (hk : ∀ x o, σ x = Option.some o → A.foot x → σ' x = Option.some o) : SdAt σ' A :=
  ⟨h.lk.keep fun x o hx hq => hk x o hx (by rcases hq with rfl | rfl <;> simp [Sd.foot]), h.wl.keep fun x o hx ho => hk x o hx (.inr (.inr (.inl ho))), h.tl.keep fun x o hx ho => hk x o hx (.inr (.inr (.inr ho)))⟩
theorem SdAt.we (h : SdAt σ A) : ¬ Own A.wl A.e := h.wl.not_own h.lk.ob
theorem SdAt.te (h : SdAt σ A) : ¬ Own A.tl A.e := h.tl.not_own h.lk.ob
theorem SdAt.wm (h : SdAt σ A) : ¬ Own A.wl A.m := fun ho => by obtain ⟨c, hc⟩ := h.wl.own_rows ho; rw [h.lk.er] at hc; cases hc
theorem SdAt.tm (h : SdAt σ A) : ¬ Own A.tl A.m := fun ho => by obtain ⟨c, hc⟩ := h.tl.own_rows ho; rw [h.lk.er] at hc; cases hc
theorem SdAt.wt (h : SdAt σ A) {x : Nat} (h1 : Own A.wl x) (h2 : Own A.tl x) : False := by
  obtain ⟨c, hc⟩ := h.wl.own_rows h1
  obtain ⟨d, hd⟩ := h.tl.own_rows h2
  rw [hc] at hd
  injection hd with hd
  injection hd with hd
  cases hd

/-- One side becomes another. -/
theorem PairAt.side (h : PairAt σ p D) (hi : i < 2) (hA : SdAt σ' A) (hf : ∀ x, A.foot x → (D i).foot x ∨ σ x = none) (hk : ∀ x o, σ x = some o → ¬ (D i).foot x → x ≠ p → σ' x = some o) (hp : σ' p = some (.cells (pairC (upd D i A)))) (hnp : ¬ A.foot p) : PairAt σ' p (upd D i A) := by
  have hoth : ∀ j, j < 2 → j ≠ i → SdAt σ' (D j) := fun j hj hji => (h.sd j hj).keep fun x o hx hfx => hk x o hx (h.dis j i hj hi hji x hfx) fun e => h.np j hj (e ▸ hfx)
  have hdis : ∀ j, j < 2 → j ≠ i → ∀ x, A.foot x → ¬ (D j).foot x := fun j hj hji x hx hfx => by
    rcases hf x hx with h1 | h1
    · exact h.dis i j hi hj hji.symm x h1 hfx
    · obtain ⟨o, ho⟩ := (h.sd j hj).some hfx
      rw [h1] at ho
      cases ho
  refine ⟨hp, fun j hj => ?_, fun j k hj hk' hjk x hx hx' => ?_, fun j hj => ?_⟩
  · by_cases hji : j = i
    · subst hji; rw [upd_same]; exact hA
    · rw [upd_ne hji]; exact hoth j hj hji
  · by_cases hji : j = i
    · subst hji
      rw [upd_same] at hx
      rw [upd_ne hjk.symm] at hx'
      exact hdis k hk' hjk.symm x hx hx'
    · rw [upd_ne hji] at hx
      by_cases hki : k = i
      · subst hki
        rw [upd_same] at hx'
        exact hdis j hj hji x hx' hx
      · rw [upd_ne hki] at hx'
        exact h.dis j k hj hk' hjk x hx hx'
  · by_cases hji : j = i
    · subst hji; rw [upd_same]; exact hnp
    · rw [upd_ne hji]; exact h.np j hj
/-- The side's end took a step. -/
theorem PairAt.link (h : PairAt σ p D) (hi : i < 2) (s' : Ls) : PairAt ((σ.set (D i).e (lO s' (D i).m)).set (D i).m (.map (erC s'.early))) p (upd D i { D i with s := s' }) := by
  have hs := h.sd i hi
  have ne : p ≠ (D i).e := fun e => h.np i hi (by simp [Sd.foot, ← e])
  have nm : p ≠ (D i).m := fun e => h.np i hi (by simp [Sd.foot, ← e])
  have oth : ∀ x o, σ x = some o → x ≠ (D i).e → x ≠ (D i).m → ((σ.set (D i).e (lO s' (D i).m)).set (D i).m (.map (erC s'.early))) x = some o := fun x o hx h1 h2 => by rw [set_ne h2, set_ne h1]; exact hx
  refine h.side hi ⟨hs.lk.set2, hs.wl.keep fun x o hx ho => oth x o hx (fun e => hs.we (e ▸ ho)) (fun e => hs.wm (e ▸ ho)), hs.tl.keep fun x o hx ho => oth x o hx (fun e => hs.te (e ▸ ho)) (fun e => hs.tm (e ▸ ho))⟩ (fun x hx => .inl hx) (fun x o hx hn _ => oth x o hx (fun e => hn (.inl e)) (fun e => hn (.inr (.inl e)))) ?_ (h.np i hi)
  rw [pws hi]
  exact oth _ _ h.ob ne nm
theorem PairAt.link1 (h : PairAt σ p D) (hi : i < 2) {s' : Ls} (he : s'.early = (D i).s.early) : PairAt (σ.set (D i).e (lO s' (D i).m)) p (upd D i { D i with s := s' }) := by
  have := h.link hi s'
  have e : (σ.set (D i).e (lO s' (D i).m)).set (D i).m (.map (erC s'.early)) = σ.set (D i).e (lO s' (D i).m) := set_id (by
    have hs := (h.sd i hi).lk
    rw [set_ne (hs.ne hs).symm, he]; exact hs.er)
  rwa [e] at this
/-- More is told. -/
theorem PairAt.tell (h : PairAt σ p D) (hi : i < 2) {told : List Itm} {tl : AV} (hL : LAt 38 σ' tl (told.map Itm.cs)) (hk : ∀ x o, σ x = some o → ¬ Own (D i).tl x → σ' x = some o ∧ ¬ Own tl x) :
    PairAt (σ'.set p (.cells (pairC (upd D i { D i with tl := tl, told := told })))) p (upd D i { D i with tl := tl, told := told }) := by
  have hs := h.sd i hi
  have npf := h.np i hi
  have hp := hk p _ h.ob (fun ho => npf (.inr (.inr (.inr ho))))
  have cl : ∀ x, (x = p → False) → ∀ o, σ x = some o → ¬ Own (D i).tl x → (σ'.set p (.cells (pairC (upd D i { D i with tl := tl, told := told })))) x = some o := fun x hx o ho hn => by rw [set_ne hx]; exact (hk x o ho hn).1
  refine h.side hi ⟨⟨cl _ (fun e => npf (.inl e.symm)) _ hs.lk.ob hs.te, cl _ (fun e => npf (.inr (.inl e.symm))) _ hs.lk.er hs.tm⟩, hs.wl.keep fun x o hx ho => cl x (fun e => npf (.inr (.inr (.inl (e ▸ ho))))) o hx fun h2 => hs.wt ho h2, hL.keep fun x o hx ho => by
    have hne : x ≠ p := by rintro rfl; exact hp.2 ho
    rw [set_ne hne]; exact hx⟩ (fun x hx => ?_) (fun x o hx hn hxp => cl x hxp o hx fun ho => hn (.inr (.inr (.inr ho)))) set_same ?_
  · rcases hx with hx | hx | hx | hx
    · exact .inl (.inl hx)
    · exact .inl (.inr (.inl hx))
    · exact .inl (.inr (.inr (.inl hx)))
    · by_cases ho : Own (D i).tl x
      · exact .inl (.inr (.inr (.inr ho)))
      · cases h' : σ x with
        | none => exact .inr rfl
        | some o => exact absurd hx (hk x o h' ho).2
  · rintro (hx | hx | hx | hx)
    · exact npf (.inl hx)
    · exact npf (.inr (.inl hx))
    · exact npf (.inr (.inr (.inl hx)))
    · exact hp.2 hx
/-- More, or less, is on its way. -/
theorem PairAt.ways (h : PairAt σ p D) (hi : i < 2) {way : List Frm} {wl : AV} (hL : LAt 40 σ' wl (way.map Frm.cs)) (hk : ∀ x o, σ x = some o → ¬ Own (D i).wl x → σ' x = some o ∧ ¬ Own wl x) :
    PairAt (σ'.set p (.cells (pairC (upd D i { D i with wl := wl, way := way })))) p (upd D i { D i with wl := wl, way := way }) := by
  have hs := h.sd i hi
  have npf := h.np i hi
  have hp := hk p _ h.ob (fun ho => npf (.inr (.inr (.inl ho))))
  have cl : ∀ x, (x = p → False) → ∀ o, σ x = some o → ¬ Own (D i).wl x → (σ'.set p (.cells (pairC (upd D i { D i with wl := wl, way := way })))) x = some o := fun x hx o ho hn => by rw [set_ne hx]; exact (hk x o ho hn).1
  refine h.side hi ⟨⟨cl _ (fun e => npf (.inl e.symm)) _ hs.lk.ob hs.we, cl _ (fun e => npf (.inr (.inl e.symm))) _ hs.lk.er hs.wm⟩, hL.keep fun x o hx ho => by
    have hne : x ≠ p := by rintro rfl; exact hp.2 ho
    rw [set_ne hne]; exact hx, hs.tl.keep fun x o hx ho => cl x (fun e => npf (.inr (.inr (.inr (e ▸ ho))))) o hx fun h2 => hs.wt h2 ho⟩ (fun x hx => ?_) (fun x o hx hn hxp => cl x hxp o hx fun ho => hn (.inr (.inr (.inl ho)))) set_same ?_
  · rcases hx with hx | hx | hx | hx
    · exact .inl (.inl hx)
    · exact .inl (.inr (.inl hx))
    · by_cases ho : Own (D i).wl x
      · exact .inl (.inr (.inr (.inl ho)))
      · cases h' : σ x with
        | none => exact .inr rfl
        | some o => exact absurd hx (hk x o h' ho).2
    · exact .inl (.inr (.inr (.inr hx)))
  · rintro (hx | hx | hx | hx)
    · exact npf (.inl hx)
    · exact npf (.inr (.inl hx))
    · exact hp.2 hx
    · exact npf (.inr (.inr (.inr hx)))
theorem PairAt.keep (h : PairAt σ p D) (hk : ∀ x o, σ x = some o → σ' x = some o) : PairAt σ' p D :=
  ⟨hk _ _ h.ob, fun i hi => (h.sd i hi).keep fun x o hx _ => hk x o hx, h.dis, h.np⟩
theorem PairAt.pushed (h : PairAt σ p D) (hi : i < 2) {n : Int} : PairAt (σ.set p (.cells (pairC (upd D i { D i with pu := n })))) p (upd D i { D i with pu := n }) := by
  have hs := h.sd i hi
  have npf := h.np i hi
  have hk : ∀ x o, σ x = some o → x ≠ p → (σ.set p (.cells (pairC (upd D i { D i with pu := n })))) x = some o := fun x o hx hxp => by rw [set_ne hxp]; exact hx
  have hA : SdAt (σ.set p (.cells (pairC (upd D i { D i with pu := n })))) (D i) := hs.keep fun x o hx hf => hk x o hx (by rintro rfl; exact npf hf)
  exact h.side (A := { D i with pu := n }) hi ⟨hA.lk, hA.wl, hA.tl⟩ (fun x hx => .inl hx) (fun x o hx _ hxp => hk x o hx hxp) set_same npf
end
end Go.Proofs.Ytpdbmnogfanpmaa
