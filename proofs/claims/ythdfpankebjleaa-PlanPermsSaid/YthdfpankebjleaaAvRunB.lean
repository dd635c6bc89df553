/-
  The program logic, part 21: runs that are reckoned: what is tracked, under numbers of its own; the operations, each with what it comes to.
  Conditions: none (a library of definitions and lemmas).
-/
import Derived.Test.YthdfpankebjleaaAvRunA
set_option linter.unusedVariables false
set_option linter.unusedSimpArgs false
namespace Go.Av
open Go Go.RowKit

def gd {α : Type} : Bool → Option α → Option α
  | true, x => x
  | false, _ => none
theorem gd_some {α : Type} {b : Bool} {x : Option α} {y : α} : gd b x = some y ↔ b = true ∧ x = some y := by cases b <;> simp [gd]
theorem ble_iff {a b : Nat} : Nat.ble a b = true ↔ a ≤ b := ⟨Nat.le_of_ble_eq_true, Nat.ble_eq_true_of_le⟩
theorem beq_iff {a b : Nat} : Nat.beq a b = true ↔ a = b := ⟨Nat.eq_of_beq_eq_true, fun h => by subst h; exact Nat.beq_refl a⟩
theorem blt_iff {a b : Nat} : Nat.blt a b = true ↔ a < b := ⟨Nat.le_of_ble_eq_true, Nat.ble_eq_true_of_le⟩

/-! ### What is tracked -/
abbrev Pls := List (Nat × List PS)
inductive SO where
  | gone
  | cells (cs : List RS)
  | rows (k : Nat) (es : List (List RS)) (frz : Bool)
  | map (kv : List (Value × RS))
  | loop (fr : Tr RS) (ps : List Nat) (assign body : Code) (st : LoopState) (pend : Option Code) (pls : Pls)
structure Sto where
  n : Nat
  t : Tr SO
def Sto.get (h : Sto) (i : Nat) : SO := match h.t.get 16 i with
  | some o => o
  | none => .gone
def Sto.put (h : Sto) (i : Nat) (o : SO) : Sto := ⟨h.n, h.t.set 16 i o⟩
def Sto.new (h : Sto) (o : SO) : Option (Nat × Sto) := gd (Nat.blt h.n 65536) (some (h.n, ⟨h.n + 1, h.t.set 16 h.n o⟩))
def ifr (c : Cx) (fr : Tr RS) : Fr := fun t => if t < 1024 then match fr.get 10 t with
  | some v => v.iv c
  | none => .v undef else .v undef
def io (c : Cx) (i : Nat) : SO → Option AObj
  | .gone => none
  | .cells cs => some (.cells (RS.ivs c cs))
  | .rows k es frz => some (.rows k (RS.ivss c es) frz (c.k i))
  | .map kv => some (.map (kv.map fun p => (p.1, p.2.iv c)))
  | .loop fr ps a b st pend _ => some (.loop (ifr c fr) (c.k i) ps a b st pend)
def wfr (n : Nat) (fr : Tr RS) : Prop := ∀ t v, t < 1024 → fr.get 10 t = some v → v.wf n
def SO.wf (n : Nat) : SO → Prop
  | .gone => True
  | .cells cs => RS.wfs n cs
  | .rows _ es _ => RS.wfss n es
  | .map kv => ∀ p ∈ kv, p.2.wf n
  | .loop fr _ _ _ _ _ _ => wfr n fr
def SO.len : SO → Nat
  | .rows _ es _ => es.length
  | _ => 0
structure WfS (h : Sto) : Prop where
  lt : h.n ≤ 65536
  ob : ∀ i, i < h.n → (h.get i).wf h.n
/-- What stands for the store. σ0: what was there before. -/
structure Mt (σ0 : St) (c : Cx) (h : Sto) (σ : St) : Prop where
  a : ∀ i, (c.a i).one = true ∧ (c.a i).cells = [c.a i]
  wf : WfS h
  base : ∀ y o, σ0 y = some o → σ y = some o
  ob : ∀ i o, i < h.n → io c i (h.get i) = some o → σ (c.r i) = some o
  sep : ∀ i y o, i < h.n → h.get i ≠ .gone → σ0 y = some o → y ≠ c.r i
  inj : ∀ i j, i < h.n → j < h.n → h.get i ≠ .gone → h.get j ≠ .gone → c.r i = c.r j → i = j
  cap : ∀ i, i < h.n → (h.get i).len ≤ c.k i

section
variable {σ0 σ : St} {c c' : Cx} {h h' : Sto} {n : Nat}
theorem Sto.get_put {h : Sto} {i j : Nat} {o : SO} (hi : i < 65536) (hj : j < 65536) : (h.put i o).get j = if j = i then o else h.get j := by
  unfold Sto.get Sto.put
  simp only
  rw [Tr.get_set 16 _ _ _ _ (by simpa using hi) (by simpa using hj)]
  by_cases e : j = i
  · rw [if_pos e, if_pos e]
  · rw [if_neg e, if_neg e]
theorem io_some {i : Nat} {o : SO} (h : o ≠ .gone) : ∃ x, io c i o = some x := by
  cases o <;> first | exact absurd rfl h | exact ⟨_, rfl⟩
theorem ifr_agree (ha : Agree n c c') {fr : Tr RS} (hw : wfr n fr) : ifr c' fr = ifr c fr := by
  funext t
  unfold ifr
  split
  · rename_i ht
    split
    · rename_i v hv; exact iv_agree ha v (hw t v ht hv)
    · rfl
  · rfl
theorem io_agree (ha : Agree n c c') {i : Nat} (hi : i < n) {o : SO} (hw : o.wf n) : io c' i o = io c i o := by
  cases o with
  | gone => rfl
  | cells cs => simp only [io, ivs_agree ha cs hw]
  | rows k es frz => simp only [io, ivss_agree ha es hw, ha.k i hi]
  | map kv =>
    simp only [io]
    congr 2
    refine List.map_congr_left fun p hp => ?_
    rw [iv_agree ha p.2 (hw p hp)]
  | loop fr ps a b st pend pls => simp only [io, ifr_agree ha hw, ha.k i hi]
theorem so_mono {n m : Nat} (h : n ≤ m) {o : SO} (hw : o.wf n) : o.wf m := by
  cases o with
  | gone => trivial
  | cells cs => exact wfs_mono h cs hw
  | rows k es frz => exact wfss_mono h es hw
  | map kv => exact fun p hp => wf_mono h p.2 (hw p hp)
  | loop fr ps a b st pend pls => exact fun t v ht hv => wf_mono h v (hw t v ht hv)
theorem wfr_mono {n m : Nat} (h : n ≤ m) {fr : Tr RS} (hw : wfr n fr) : wfr m fr := fun t v ht hv => wf_mono h v (hw t v ht hv)

/-- A block is laid anew. -/
theorem Mt.put (hM : Mt σ0 c h σ) {i : Nat} {o : SO} {x : AObj} (hi : i < h.n) (hne : h.get i ≠ .gone) (ho : io c i o = some x) (hw : o.wf h.n) (hc : o.len ≤ c.k i) : Mt σ0 c (h.put i o) (σ.set (c.r i) x) := by
  have hlt := hM.wf.lt
  have hg : ∀ j, j < h.n → (h.put i o).get j = if j = i then o else h.get j := fun j hj => Sto.get_put (by omega) (by omega)
  have hgone : o ≠ .gone := by rintro rfl; cases ho
  have hal : ∀ j, j < h.n → (h.put i o).get j ≠ .gone → h.get j ≠ .gone := fun j hj hh => by
    rw [hg j hj] at hh
    split at hh
    · rename_i e; subst e; exact hne
    · exact hh
  refine ⟨hM.a, ⟨hlt, fun j hj => ?_⟩, fun y o hy => ?_, fun j x' hj hx => ?_, fun j y o' hj hn hy => hM.sep j y o' hj (hal j hj hn) hy, fun j k hj hk h1 h2 e => hM.inj j k hj hk (hal j hj h1) (hal k hk h2) e, fun j hj => ?_⟩
  · rw [hg j hj]
    split
    · exact hw
    · exact hM.wf.ob j hj
  · have := hM.sep i y o hi hne hy
    simp only [St.set, if_neg this]
    exact hM.base y o hy
  · rw [hg j hj] at hx
    split at hx
    · rename_i e; subst e
      rw [ho] at hx
      injection hx with hx
      subst hx
      simp [St.set]
    · rename_i e
      have hjg : h.get j ≠ .gone := by intro e2; rw [e2] at hx; cases hx
      have : c.r j ≠ c.r i := fun e2 => e (hM.inj j i hj hi hjg hne e2)
      simp only [St.set, if_neg this]
      exact hM.ob j x' hj hx
  · rw [hg j hj]
    split
    · rename_i e; subst e; exact hc
    · exact hM.cap j hj
/-- A block is let go. -/
theorem Mt.del (hM : Mt σ0 c h σ) {i : Nat} (hi : i < h.n) (hne : h.get i ≠ .gone) : Mt σ0 c (h.put i .gone) (σ.del (c.r i)) := by
  have hlt := hM.wf.lt
  have hg : ∀ j, j < h.n → (h.put i .gone).get j = if j = i then .gone else h.get j := fun j hj => Sto.get_put (by omega) (by omega)
  have hal : ∀ j, j < h.n → (h.put i .gone).get j ≠ .gone → j ≠ i ∧ h.get j ≠ .gone := fun j hj hh => by
    rw [hg j hj] at hh
    split at hh
    · exact absurd rfl hh
    · rename_i e; exact ⟨e, hh⟩
  refine ⟨hM.a, ⟨hlt, fun j hj => ?_⟩, fun y o hy => ?_, fun j x' hj hx => ?_, fun j y o' hj hn hy => hM.sep j y o' hj (hal j hj hn).2 hy, fun j k hj hk h1 h2 e => hM.inj j k hj hk (hal j hj h1).2 (hal k hk h2).2 e, fun j hj => ?_⟩
  · rw [hg j hj]
    split
    · trivial
    · exact hM.wf.ob j hj
  · have := hM.sep i y o hi hne hy
    simp only [St.del, if_neg this]
    exact hM.base y o hy
  · rw [hg j hj] at hx
    split at hx
    · cases hx
    · rename_i e
      have hjg : h.get j ≠ .gone := by intro e2; rw [e2] at hx; cases hx
      have : c.r j ≠ c.r i := fun e2 => e (hM.inj j i hj hi hjg hne e2)
      simp only [St.del, if_neg this]
      exact hM.ob j x' hj hx
  · rw [hg j hj]
    split
    · exact Nat.zero_le _
    · exact hM.cap j hj
/-- With a number more. -/
def Cx.more (c : Cx) (n b k : Nat) : Cx := ⟨fun i => if i = n then b else c.r i, fun i => if i = n then k else c.k i, c.a⟩
theorem more_agree (c : Cx) (n b k : Nat) : Agree n c (c.more n b k) :=
  ⟨fun i hi => by simp only [Cx.more]; rw [if_neg (by omega)], fun i hi => by simp only [Cx.more]; rw [if_neg (by omega)], rfl⟩
theorem Mt.new (hM : Mt σ0 c h σ) {o : SO} {x : AObj} {b k i : Nat} (hb : σ b = none) (hn : h.new o = some (i, h')) (hx : io (c.more h.n b k) h.n o = some x) (hw : o.wf h.n) (hc : o.len ≤ k) :
    i = h.n ∧ h'.n = h.n + 1 ∧ Mt σ0 (c.more h.n b k) h' (σ.set b x) := by
  unfold Sto.new at hn
  rw [gd_some, blt_iff] at hn
  obtain ⟨hlt, hn⟩ := hn
  injection hn with hn
  injection hn with h1 h2
  subst h1; subst h2
  have hag := more_agree c h.n b k
  have hr : (c.more h.n b k).r h.n = b := by simp [Cx.more]
  have hk : (c.more h.n b k).k h.n = k := by simp [Cx.more]
  have hg : ∀ j, j < h.n + 1 → (Sto.mk (h.n + 1) (h.t.set 16 h.n o)).get j = if j = h.n then o else h.get j := fun j hj => by
    have := Sto.get_put (h := h) (o := o) hlt (show j < 65536 by omega)
    exact this
  have hwo : o.wf (h.n + 1) := so_mono (by omega) hw
  have hfresh : ∀ j, j < h.n → h.get j ≠ .gone → c.r j ≠ b := fun j hj hne e => by
    obtain ⟨y, hy⟩ := io_some (c := c) (i := j) hne
    have := hM.ob j y hj hy
    rw [e, hb] at this; cases this
  refine ⟨rfl, rfl, ⟨hM.a, ⟨by show h.n + 1 ≤ 65536; omega, fun j hj => ?_⟩, fun y o' hy => ?_, fun j x' hj hx' => ?_, fun j y o' hj hne hy => ?_, fun j l hj hl h1 h2 e => ?_, fun j hj => ?_⟩⟩
  · have hj' : j < h.n + 1 := hj
    rw [hg j hj']
    split
    · exact hwo
    · exact so_mono (show h.n ≤ h.n + 1 by omega) (hM.wf.ob j (by omega))
  · have h1 := hM.base y o' hy
    have : y ≠ b := fun e => by subst e; rw [hb] at h1; cases h1
    simp only [St.set, if_neg this]
    exact h1
  · have hj' : j < h.n + 1 := hj
    rw [hg j hj'] at hx'
    split at hx'
    · rename_i e; subst e
      rw [hx] at hx'
      injection hx' with hx'
      subst hx'
      rw [hr]; simp [St.set]
    · rename_i e
      have hjn : j < h.n := by omega
      rw [io_agree hag hjn (hM.wf.ob j hjn)] at hx'
      have hne : h.get j ≠ .gone := by intro e2; rw [e2] at hx'; cases hx'
      rw [hag.r j hjn]
      simp only [St.set, if_neg (hfresh j hjn hne)]
      exact hM.ob j x' hjn hx'
  · have hj' : j < h.n + 1 := hj
    rw [hg j hj'] at hne
    split at hne
    · rename_i e; subst e
      rw [hr]
      have h1 := hM.base y o' hy
      intro e; subst e; rw [hb] at h1; cases h1
    · have hjn : j < h.n := by omega
      rw [hag.r j hjn]
      exact hM.sep j y o' hjn hne hy
  · have hj' : j < h.n + 1 := hj
    have hl' : l < h.n + 1 := hl
    rw [hg j hj'] at h1
    rw [hg l hl'] at h2
    by_cases ej : j = h.n <;> by_cases el : l = h.n
    · omega
    · rw [if_neg el] at h2
      rw [ej, hr, hag.r l (by omega)] at e
      exact absurd e.symm (hfresh l (by omega) h2)
    · rw [if_neg ej] at h1
      rw [el, hr, hag.r j (by omega)] at e
      exact absurd e (hfresh j (by omega) h1)
    · rw [if_neg ej] at h1
      rw [if_neg el] at h2
      rw [hag.r j (by omega), hag.r l (by omega)] at e
      exact hM.inj j l (by omega) (by omega) h1 h2 e
  · have hj' : j < h.n + 1 := hj
    rw [hg j hj']
    split
    · rename_i e; subst e; rw [hk]; exact hc
    · rename_i e
      rw [hag.k j (by omega)]
      exact hM.cap j (by omega)
theorem Mt.get (hM : Mt σ0 c h σ) {i : Nat} {o : AObj} (hi : i < h.n) (ho : io c i (h.get i) = some o) : σ (c.r i) = some o := hM.ob i o hi ho
/-- What is made of a loop over a function stays what it is. -/
structure Keep (h h' : Sto) : Prop where
  lp : ∀ i fr ps a b st pend pls, i < h.n → h.get i = .loop fr ps a b st pend pls → h'.get i = .gone ∨ ∃ st' pend', h'.get i = .loop fr ps a b st' pend' pls
  gn : ∀ i, i < h.n → h.get i = .gone → h'.get i = .gone
theorem Keep.refl (h : Sto) : Keep h h := ⟨fun _ _ _ _ _ st pend _ _ he => .inr ⟨st, pend, he⟩, fun _ _ he => he⟩
theorem Keep.trans {h1 h2 h3 : Sto} (h : Keep h1 h2) (h' : Keep h2 h3) (hn : h1.n ≤ h2.n) : Keep h1 h3 := by
  refine ⟨fun i fr ps a b st pend pls hi he => ?_, fun i hi he => h'.gn i (by omega) (h.gn i hi he)⟩
  rcases h.lp i fr ps a b st pend pls hi he with h1 | ⟨st', pend', h1⟩
  · exact .inl (h'.gn i (by omega) h1)
  · exact h'.lp i fr ps a b st' pend' pls (by omega) h1
theorem Keep.put {h : Sto} {i : Nat} {o : SO} (hlt : h.n ≤ 65536) (hi : i < h.n) (hl : ∀ fr ps a b st pend pls, h.get i = .loop fr ps a b st pend pls → o = .gone ∨ ∃ st' pend', o = .loop fr ps a b st' pend' pls) (hg : h.get i = .gone → o = .gone) : Keep h (h.put i o) := by
  have hgp : ∀ j, j < h.n → (h.put i o).get j = if j = i then o else h.get j := fun j hj => Sto.get_put (by omega) (by omega)
  refine ⟨fun j fr ps a b st pend pls hj he => ?_, fun j hj he => ?_⟩
  · rw [hgp j hj]
    split
    · rename_i e; subst e; exact hl _ _ _ _ _ _ _ he
    · exact .inr ⟨st, pend, he⟩
  · rw [hgp j hj]
    split
    · rename_i e; subst e; exact hg he
    · exact he
theorem Keep.new {h h' : Sto} {o : SO} {i : Nat} (hn : h.new o = some (i, h')) : Keep h h' := by
  unfold Sto.new at hn
  rw [gd_some, blt_iff] at hn
  obtain ⟨hlt, hn⟩ := hn
  injection hn with hn
  injection hn with h1 h2
  subst h1; subst h2
  have hg : ∀ j, j < h.n → (Sto.mk (h.n + 1) (h.t.set 16 h.n o)).get j = h.get j := fun j hj => by
    have := Sto.get_put (h := h) (o := o) hlt (show j < 65536 by omega)
    rw [if_neg (by omega)] at this
    exact this
  exact ⟨fun j fr ps a b st pend pls hj he => .inr ⟨st, pend, by rw [hg j hj]; exact he⟩, fun j hj he => by rw [hg j hj]; exact he⟩
end
end Go.Av
