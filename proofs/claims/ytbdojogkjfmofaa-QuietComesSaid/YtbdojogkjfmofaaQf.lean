/-
  The plain law of the net of four nodes: what holds through all moves (no program in sight).
  Conditions: none.
-/
import Derived.Test.YtbdojogkjfmofaaQe
set_option linter.unusedVariables false
set_option linter.unusedSimpArgs false
namespace Go.Proofs.Ytbdojogkjfmofaa
open Go Go.Av

/-- Is it one for which node i waits? -/
def W.of (i : Nat) (w : W) : Bool := if w.sig then w.to == i else w.frm == i
def due (ws : List W) (i : Nat) : Nat := ws.countP (W.of i)
/-- The nodes that i has engaged. -/
def kids (S : Nat → Qs) (p : Nat → Nat) (i : Nat) : Nat := (if (S 1).busy && p 1 == i then 1 else 0) + (if (S 2).busy && p 2 == i then 1 else 0) + (if (S 3).busy && p 3 == i then 1 else 0)

structure Inv (S : Nat → Qs) (ws : List W) (d : Bool) (p dep : Nat → Nat) : Prop where
  made : ∀ i, i < 4 → (S i).made = true
  root : ∀ i, i < 4 → (S i).root = decide (i = 0)
  wok : ∀ w ∈ ws, w.to < 4 ∧ w.frm < 4
  par : ∀ i, i < 4 → i ≠ 0 → (S i).busy = true → p i < 4 ∧ (S i).by' = nm (p i) ∧ dep (p i) < dep i
  debt : ∀ i, i < 4 → (S i).debt = due ws i + kids S p i
  idle : ∀ i, i < 4 → (S i).busy = false → (S i).debt = 0
  done : d = !(S 0).busy

section
variable {S : Nat → Qs} {ws : List W} {d : Bool} {p dep : Nat → Nat}

theorem Inv.busy (h : Inv S ws d p dep) {i : Nat} (hi : i < 4) (hd : 0 < (S i).debt) : (S i).busy = true := by
  cases hb : (S i).busy with
  | true => rfl
  | false => rw [h.idle i hi hb] at hd; cases hd
theorem Inv.ge (h : Inv S ws d p dep) {i : Nat} (hi : i < 4) : 0 ≤ (S i).debt := by
  rw [h.debt i hi]; omega
theorem kids_le {i : Nat} : kids S p i ≤ 3 := by
  unfold kids
  have f : ∀ b : Bool, (if b = true then 1 else (0 : Nat)) ≤ 1 := by intro b; cases b <;> simp
  have h1 := f ((S 1).busy && p 1 == i)
  have h2 := f ((S 2).busy && p 2 == i)
  have h3 := f ((S 3).busy && p 3 == i)
  omega
theorem due_le {i : Nat} : due ws i ≤ ws.length := List.countP_le_length
theorem Inv.le (h : Inv S ws d p dep) {i : Nat} (hi : i < 4) : (S i).debt ≤ ws.length + 3 := by
  rw [h.debt i hi]
  have := kids_le (S := S) (p := p) (i := i)
  have := due_le (ws := ws) (i := i)
  omega
theorem kid_of {j : Nat} (hj : j < 4) (h0 : j ≠ 0) (hb : (S j).busy = true) : 0 < kids S p (p j) := by
  unfold kids
  rcases (by omega : j = 1 ∨ j = 2 ∨ j = 3) with rfl | rfl | rfl <;> simp [hb] <;> omega
/-- Its engager is busy. -/
theorem Inv.par_busy (h : Inv S ws d p dep) {j : Nat} (hj : j < 4) (h0 : j ≠ 0) (hb : (S j).busy = true) : (S (p j)).busy = true := by
  have hp := (h.par j hj h0 hb).1
  refine h.busy hp ?_
  rw [h.debt _ hp]
  have := kid_of (p := p) hj h0 hb
  omega
/-- If the root is not busy, nobody is. -/
theorem Inv.all_idle (h : Inv S ws d p dep) (h0 : (S 0).busy = false) : ∀ m i, dep i = m → i < 4 → (S i).busy = false := by
  intro m
  induction m using Nat.strongRecOn with
  | _ m ih =>
    intro i hm hi
    cases hb : (S i).busy with
    | false => rfl
    | true =>
      by_cases hi0 : i = 0
      · subst hi0; rw [h0] at hb; cases hb
      · have hp := h.par i hi hi0 hb
        have := ih (dep (p i)) (by omega) (p i) rfl hp.1
        rw [h.par_busy hi hi0 hb] at this
        cases this
theorem Inv.quiet (h : Inv S ws d p dep) (h0 : (S 0).busy = false) : ws = [] ∧ ∀ i, i < 4 → (S i).free = true ∧ (S i).owes = 0 := by
  have hz : ∀ i, i < 4 → (S i).debt = 0 := fun i hi => h.idle i hi (h.all_idle h0 _ i rfl hi)
  refine ⟨?_, fun i hi => ⟨by simp [Qs.free, h.all_idle h0 _ i rfl hi], by simp [Qs.owes, hz i hi]⟩⟩
  cases ws with
  | nil => rfl
  | cons w ws =>
    have hw := h.wok w (by simp)
    have key : ∀ i, i < 4 → W.of i w = true → False := fun i hi ho => by
      have := h.debt i hi
      rw [hz i hi] at this
      have : 0 < due (w :: ws) i := by
        unfold due
        rw [List.countP_cons_of_pos ho]
        omega
      omega
    cases hs : w.sig with
    | true => exact (key w.to hw.1 (by simp [W.of, hs])).elim
    | false => exact (key w.frm hw.2 (by simp [W.of, hs])).elim

theorem due_app {w : W} {i : Nat} : due (ws ++ [w]) i = due ws i + if W.of i w then 1 else 0 := by
  unfold due
  rw [List.countP_append, List.countP_singleton]
theorem ws_cut {j : Nat} (hj : j < ws.length) : ws = ws.take j ++ ws.getD j ⟨0, 0, false⟩ :: ws.drop (j + 1) := by
  have e : ws.getD j ⟨0, 0, false⟩ = ws[j] := by simp [List.getD_eq_getElem?_getD, hj]
  rw [e, List.getElem_cons_drop, List.take_append_drop]
theorem due_cut {j i : Nat} (hj : j < ws.length) : due ws i = due (ws.take j ++ ws.drop (j + 1)) i + if W.of i (ws.getD j ⟨0, 0, false⟩) then 1 else 0 := by
  conv => lhs; rw [ws_cut hj]
  unfold due
  rw [List.countP_append, List.countP_append, List.countP_cons]
  omega
theorem mem_cut {j : Nat} {w : W} (h : w ∈ ws.take j ++ ws.drop (j + 1)) : w ∈ ws := by
  rcases List.mem_append.1 h with h | h
  · exact List.mem_of_mem_take h
  · exact List.mem_of_mem_drop h

theorem upd_same {i : Nat} {s : Qs} : upd S i s i = s := by simp [upd]
theorem upd_ne {i j : Nat} {s : Qs} (h : j ≠ i) : upd S i s j = S j := by simp [upd, h]
/-- Who is busy has not turned. -/
theorem kids_congr {S' : Nat → Qs} {i : Nat} (h : ∀ j, j < 4 → (S' j).busy = (S j).busy) : kids S' p i = kids S p i := by
  unfold kids
  rw [h 1 (by omega), h 2 (by omega), h 3 (by omega)]

theorem Inv.send (h : Inv S ws d p dep) {a b : Nat} (ha : a < 4) (hb : b < 4) (hf : (S a).free = false) (hl : ws.length ≤ 100000) :
    (S a).sent.1 = 0 ∧ Inv (upd S a (S a).sent.2) (ws ++ [⟨b, a, false⟩]) d p dep := by
  have hm := h.made a ha
  have hbz : (S a).busy = true := by simpa [Qs.free, hm] using hf
  have hle := h.le ha
  have hge := h.ge ha
  have e : (S a).sent = (0, { S a with debt := (S a).debt + 1 }) := by
    simp only [Qs.sent, hm, hbz, Bool.not_true]
    rw [wrap64 (by omega)]
    rfl
  rw [e]
  refine ⟨rfl, ?_⟩
  have hbusy : ∀ j, j < 4 → (upd S a { S a with debt := (S a).debt + 1 } j).busy = (S j).busy := fun j _ => by
    unfold upd; split
    · rename_i hj; subst hj; rfl
    · rfl
  refine ⟨fun i hi => ?_, fun i hi => ?_, fun w hw => ?_, fun i hi h0 hbi => ?_, fun i hi => ?_, fun i hi hbi => ?_, ?_⟩
  · unfold upd; split
    · exact hm
    · exact h.made i hi
  · unfold upd; split
    · rename_i hj; subst hj; exact h.root i hi
    · exact h.root i hi
  · rcases List.mem_append.1 hw with hw | hw
    · exact h.wok w hw
    · obtain rfl := List.mem_singleton.1 hw
      exact ⟨hb, ha⟩
  · rw [hbusy i hi] at hbi
    obtain ⟨p1, p2, p3⟩ := h.par i hi h0 hbi
    refine ⟨p1, ?_, p3⟩
    unfold upd; split
    · rename_i hj; subst hj; exact p2
    · exact p2
  · rw [due_app, kids_congr hbusy]
    by_cases hia : i = a
    · subst hia
      rw [upd_same]
      simp only [W.of, Bool.false_eq_true, if_false, beq_self_eq_true, if_true]
      have := h.debt i hi
      omega
    · rw [upd_ne hia, h.debt i hi]
      simp only [W.of, Bool.false_eq_true, if_false, beq_iff_eq]
      rw [if_neg (fun e => hia e.symm)]
      omega
  · rw [hbusy i hi] at hbi
    have : i ≠ a := fun e => by subst e; rw [hbz] at hbi; cases hbi
    rw [upd_ne this]
    exact h.idle i hi hbi
  · rw [hbusy 0 (by omega)]
    exact h.done

/-- A signal arrives. -/
theorem Inv.arrSig (h : Inv S ws d p dep) {j : Nat} (hj : j < ws.length) (hs : (ws.getD j ⟨0, 0, false⟩).sig = true) (hl : ws.length ≤ 100000) :
    (arr S ws j).1 = true ∧ Inv (arr S ws j).2.1 (arr S ws j).2.2 d p dep := by
  obtain ⟨w, hw⟩ : ∃ w, w = ws.getD j ⟨0, 0, false⟩ := ⟨_, rfl⟩
  have hcut := fun i => due_cut (ws := ws) (i := i) hj
  unfold arr
  rw [← hw] at hs hcut ⊢
  rw [if_pos hs]
  have hwm : w ∈ ws := by
    rw [hw, List.getD_eq_getElem?_getD, List.getElem?_eq_getElem hj]
    exact List.getElem_mem hj
  obtain ⟨wt, wf⟩ := h.wok w hwm
  have hto : 0 < (S w.to).debt := by
    rw [h.debt _ wt, hcut w.to]
    simp [W.of, hs]
    omega
  have hm := h.made _ wt
  have hle := h.le wt
  have hb := h.busy wt hto
  have e : (S w.to).signal = (0, { S w.to with debt := (S w.to).debt - 1 }) := by
    have h0 : ¬ (S w.to).debt = 0 := by omega
    simp only [Qs.signal, hm, h0, Bool.not_true, if_false]
    rw [wrap64 (by omega)]
    rfl
  rw [e]
  refine ⟨by simp, ?_⟩
  have hbusy : ∀ i, i < 4 → (upd S w.to { S w.to with debt := (S w.to).debt - 1 } i).busy = (S i).busy := fun i _ => by
    unfold upd; split
    · rename_i hj; subst hj; rfl
    · rfl
  refine ⟨fun i hi => ?_, fun i hi => ?_, fun w' hw' => h.wok w' (mem_cut hw'), fun i hi h0 hbi => ?_, fun i hi => ?_, fun i hi hbi => ?_, ?_⟩
  · simp only [upd]; split
    · exact hm
    · exact h.made i hi
  · simp only [upd]; split
    · rename_i hj; subst hj; exact h.root _ hi
    · exact h.root i hi
  · rw [hbusy i hi] at hbi
    obtain ⟨p1, p2, p3⟩ := h.par i hi h0 hbi
    refine ⟨p1, ?_, p3⟩
    simp only [upd]; split
    · rename_i hj; subst hj; exact p2
    · exact p2
  · rw [kids_congr hbusy]
    have := h.debt i hi
    rw [hcut i] at this
    by_cases hia : i = w.to
    · subst hia
      simp only [upd_same]
      simp [W.of, hs] at this
      omega
    · simp only [upd_ne hia]
      rw [this]
      have : W.of i w = false := by simp [W.of, hs]; exact fun e => hia e.symm
      rw [this]
      simp
  · rw [hbusy i hi] at hbi
    have : i ≠ w.to := fun e => by subst e; rw [hb] at hbi; cases hbi
    simp only [upd_ne this]
    exact h.idle i hi hbi
  · rw [hbusy 0 (by omega)]
    exact h.done

/-- A message arrives. -/
theorem Inv.arrMsg (h : Inv S ws d p dep) {j : Nat} (hj : j < ws.length) (hs : (ws.getD j ⟨0, 0, false⟩).sig = false) :
    (arr S ws j).1 = true ∧ ∃ p' dep', Inv (arr S ws j).2.1 (arr S ws j).2.2 d p' dep' := by
  obtain ⟨w, hw⟩ : ∃ w, w = ws.getD j ⟨0, 0, false⟩ := ⟨_, rfl⟩
  have hcut := fun i => due_cut (ws := ws) (i := i) hj
  unfold arr
  rw [← hw] at hs hcut ⊢
  rw [if_neg (by simp [hs])]
  refine ⟨rfl, ?_⟩
  have hwm : w ∈ ws := by
    rw [hw, List.getD_eq_getElem?_getD, List.getElem?_eq_getElem hj]
    exact List.getElem_mem hj
  obtain ⟨wt, wf⟩ := h.wok w hwm
  have hof : ∀ i, W.of i w = (w.frm == i) := fun i => by simp [W.of, hs]
  have hfr : 0 < (S w.frm).debt := by
    rw [h.debt _ wf, hcut w.frm, hof]
    simp
    omega
  have hfb := h.busy wf hfr
  have hm := h.made _ wt
  have hr := h.root _ wt
  by_cases hrb : ((S w.to).root || (S w.to).busy) = true
  · have e : (S w.to).got (nm w.frm) = (true, S w.to) := by
      simp [Qs.got, hm, hrb]
    rw [e]
    simp only [if_true]
    have eu : upd S w.to (S w.to) = S := by
      funext i; unfold upd; split
      · rename_i hi; rw [hi]
      · rfl
    rw [eu]
    refine ⟨p, dep, h.made, h.root, fun w' hw' => ?_, h.par, fun i hi => ?_, h.idle, h.done⟩
    · rcases List.mem_append.1 hw' with hw' | hw'
      · exact h.wok w' (mem_cut hw')
      · obtain rfl := List.mem_singleton.1 hw'
        exact ⟨wf, wt⟩
    · rw [h.debt i hi, hcut i, due_app, hof]
      simp [W.of]
  · have hnb : (S w.to).busy = false := by
      cases hb : (S w.to).busy with
      | false => rfl
      | true => simp [hb] at hrb
    have hnr : (S w.to).root = false := by
      cases hb : (S w.to).root with
      | false => rfl
      | true => simp [hb] at hrb
    have ht0 : w.to ≠ 0 := fun e => by rw [hr] at hnr; simp [e] at hnr
    have e : (S w.to).got (nm w.frm) = (false, { S w.to with busy := true, by' := nm w.frm }) := by
      simp [Qs.got, hm, hnb, hnr]
    rw [e]
    simp only [Bool.false_eq_true, if_false]
    have hft : w.frm ≠ w.to := fun e => by rw [e, hnb] at hfb; cases hfb
    have hd0 : (S w.to).debt = 0 := h.idle _ wt hnb
    have hk0 : kids S p w.to = 0 := by
      have := h.debt _ wt
      rw [hd0] at this
      omega
    refine ⟨fun i => if i = w.to then w.frm else p i, fun i => if i = w.to then dep w.frm + 1 else dep i, fun i hi => ?_, fun i hi => ?_, fun w' hw' => h.wok w' (mem_cut hw'), fun i hi h0 hbi => ?_, fun i hi => ?_, fun i hi hbi => ?_, ?_⟩
    · simp only [upd]; split
      · exact hm
      · exact h.made i hi
    · simp only [upd]; split
      · rename_i hi'; subst hi'; exact h.root _ hi
      · exact h.root i hi
    · by_cases hit : i = w.to
      · subst hit
        simp only [upd_same, if_true]
        refine ⟨wf, trivial, ?_⟩
        rw [if_neg hft]
        omega
      · simp only [upd_ne hit] at hbi ⊢
        rw [if_neg hit, if_neg hit]
        obtain ⟨p1, p2, p3⟩ := h.par i hi h0 hbi
        refine ⟨p1, p2, ?_⟩
        have hne : p i ≠ w.to := fun e => by
          have := kid_of (S := S) (p := p) hi h0 hbi
          rw [e, hk0] at this
          cases this
        rw [if_neg hne]
        exact p3
    · have hk : kids (upd S w.to { S w.to with busy := true, by' := nm w.frm }) (fun i => if i = w.to then w.frm else p i) i = kids S p i + (if w.frm == i then 1 else 0) := by
        unfold kids
        rcases (by omega : w.to = 1 ∨ w.to = 2 ∨ w.to = 3) with h1 | h1 | h1 <;> rw [h1] at hnb ⊢ <;> simp [upd, hnb] <;> omega
      have hdi : (upd S w.to { S w.to with busy := true, by' := nm w.frm } i).debt = (S i).debt := by
        unfold upd; split
        · rename_i hi'; subst hi'; rfl
        · rfl
      rw [hdi, hk, h.debt i hi, hcut i, hof]
      omega
    · by_cases hit : i = w.to
      · subst hit; simp [upd_same] at hbi
      · simp only [upd_ne hit] at hbi ⊢
        exact h.idle i hi hbi
    · rw [upd_ne (Ne.symm ht0)]
      exact h.done

/-- It is free. -/
def Qs.off (s : Qs) : Qs := { s with busy := false, by' := nost, debt := 0 }
/-- A node rests. -/
theorem Inv.rest (h : Inv S ws d p dep) {a : Nat} (ha : a < 4) :
    ((S a).rest.1.2.1 = true → p a < 4 ∧ (S a).rest.1.1 = nm (p a) ∧ (S a).rest.1.2.2 = false) ∧ ((S a).rest.1.2.2 = true → a = 0) ∧
    Inv (rst S ws d a (p a)).1 (rst S ws d a (p a)).2.1 (rst S ws d a (p a)).2.2 p dep := by
  have hm := h.made a ha
  have hr := h.root a ha
  have hge := h.ge ha
  by_cases hq : ((S a).busy = true ∧ (S a).debt = 0)
  · obtain ⟨hb, hd0⟩ := hq
    have e : (S a).rest = (((S a).by', !(S a).root, (S a).root), (S a).off) := by
      simp [Qs.rest, hm, hb, hd0, Qs.off]
    unfold rst
    rw [e]
    simp only
    have hbusy : ∀ j, j ≠ a → (upd S a (S a).off j).busy = (S j).busy := fun j hj => by rw [upd_ne hj]
    refine ⟨fun hs => ?_, fun hs => ?_, fun i hi => ?_, fun i hi => ?_, fun w hw => ?_, fun i hi h0 hbi => ?_, fun i hi => ?_, fun i hi hbi => ?_, ?_⟩
    · have ha0 : a ≠ 0 := fun e => by rw [hr] at hs; simp [e] at hs
      obtain ⟨p1, p2, p3⟩ := h.par a ha ha0 hb
      exact ⟨p1, p2, by rw [hr]; simp [ha0]⟩
    · rw [hr] at hs
      simpa using hs
    · simp only [upd]; split
      · exact hm
      · exact h.made i hi
    · simp only [upd]; split
      · rename_i hi'; subst hi'; exact h.root _ hi
      · exact h.root i hi
    · by_cases ha0 : a = 0
      · rw [hr, if_neg (by simp [ha0])] at hw
        exact h.wok w hw
      · rw [hr, if_pos (by simp [ha0])] at hw
        rcases List.mem_append.1 hw with hw | hw
        · exact h.wok w hw
        · obtain rfl := List.mem_singleton.1 hw
          exact ⟨(h.par a ha ha0 hb).1, ha⟩
    · by_cases hia : i = a
      · subst hia; simp [upd_same, Qs.off] at hbi
      · simp only [upd_ne hia] at hbi ⊢
        exact h.par i hi h0 hbi
    · by_cases ha0 : a = 0
      · subst ha0
        rw [hr, if_neg (by simp)]
        have hk : kids (upd S 0 (S 0).off) p i = kids S p i := by
          unfold kids
          simp [upd]
        rw [hk]
        by_cases hi0 : i = 0
        · subst hi0
          rw [upd_same, ← h.debt 0 hi, hd0]; rfl
        · rw [upd_ne hi0]
          exact h.debt i hi
      · rw [hr, if_pos (by simp [ha0]), due_app]
        have hk : kids S p i = kids (upd S a (S a).off) p i + (if p a == i then 1 else 0) := by
          unfold kids
          rcases (by omega : a = 1 ∨ a = 2 ∨ a = 3) with h1 | h1 | h1 <;> rw [h1] at hb ⊢ <;> simp [upd, hb, Qs.off] <;> omega
        have hdi : (upd S a (S a).off i).debt = (S i).debt := by
          by_cases hia : i = a
          · subst hia; rw [upd_same, hd0]; rfl
          · rw [upd_ne hia]
        rw [hdi, h.debt i hi, hk]
        simp only [W.of, if_true]
        omega
    · by_cases hia : i = a
      · subst hia; rw [upd_same]; rfl
      · rw [upd_ne hia] at hbi ⊢
        exact h.idle i hi hbi
    · by_cases ha0 : a = 0
      · subst ha0
        rw [upd_same, hr]
        simp [Qs.off]
      · rw [upd_ne (Ne.symm ha0), hr, h.done]
        simp [ha0]
  · have e : (S a).rest = ((nost, false, false), S a) := by
      have : (S a).busy = false ∨ 0 < (S a).debt := by
        cases hb : (S a).busy with
        | false => exact .inl rfl
        | true =>
          right
          have : (S a).debt ≠ 0 := fun e => hq ⟨hb, e⟩
          omega
      rcases this with h1 | h1
      · simp [Qs.rest, hm, h1]
      · simp [Qs.rest, hm, h1]
    unfold rst
    rw [e]
    have eu : upd S a (S a) = S := by
      funext i; unfold upd; split
      · rename_i hi; rw [hi]
      · rfl
    refine ⟨fun h => (by cases h), fun h => (by cases h), ?_⟩
    simp only [Bool.false_eq_true, if_false, Bool.or_false, eu]
    exact h
end
end Go.Proofs.Ytbdojogkjfmofaa
