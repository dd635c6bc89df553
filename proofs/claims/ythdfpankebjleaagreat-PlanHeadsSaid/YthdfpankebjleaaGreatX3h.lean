/-
  Contracts of the functions that the statement reaches, and the plain laws of what they reckon.
  Conditions: none.
-/
import Derived.Test.YthdfpankebjleaaGreatV1
import Derived.Test.YthdfpankebjleaaGreatV2
import Derived.Test.YthdfpankebjleaaGreatV3
import Derived.Test.YthdfpankebjleaaGreatX1h
import Derived.Test.YthdfpankebjleaaGreatX2h
set_option linter.unusedVariables false
set_option linter.unusedSimpArgs false
set_option linter.unusedSectionVars false
set_option maxRecDepth 100000
/-
  Which bodies are found: by what each place may hold.
  Conditions: none.
-/
namespace Go.Proofs.YthdfpankebjleaaGreat
open Go Go.Av

/-- Literals held against facts, one by one. -/
def chkF (ho : Tm) : List Li → List Fa → List Bi → Option (List Bi)
  | [], [], e => some e
  | l :: ls, x :: xs, e => (litF ho l x e).bind (chkF ho ls xs)
  | _, _, _ => none
theorem chk_len {ho : Tm} : ∀ {ls : List Li} {xs : List Fa} {e e' : List Bi}, chkF ho ls xs e = some e' → xs.length = ls.length
  | [], [], _, _, _ => rfl
  | l :: ls, x :: xs, e, e', h => by
    obtain ⟨m, _, h2⟩ := Option.bind_eq_some_iff.1 h
    rw [List.length_cons, List.length_cons, chk_len h2]
  | [], _ :: _, _, _, h => by cases h
  | _ :: _, [], _, _, h => by cases h
theorem mem_lv {ho : Tm} {b : List Fa} : ∀ {ls : List (Li × List Fa)} {env : List Bi} {got : List Fa}, b ∈ lvF ho ls env got ↔ ∃ t, b = got ++ t ∧ (chkF ho (ls.map Prod.fst) t env).isSome = true ∧ ∀ i (h1 : i < ls.length) (h2 : i < t.length), t[i] ∈ ls[i].2
  | [], env, got => by
    simp only [lvF, List.mem_singleton, List.map_nil]
    constructor
    · rintro rfl
      exact ⟨[], by simp, rfl, fun i h1 => by simp at h1⟩
    · rintro ⟨t, rfl, h, _⟩
      cases t with
      | nil => simp
      | cons x t => simp [chkF] at h
  | p :: ls, env, got => by
    simp only [lvF, List.mem_flatMap, List.map_cons]
    constructor
    · rintro ⟨x, hx, h⟩
      cases hl : litF ho p.1 x env with
      | none => rw [hl] at h; cases h
      | some e =>
        rw [hl] at h
        obtain ⟨t, rfl, h1, h2⟩ := mem_lv.1 h
        refine ⟨x :: t, by simp, ?_, fun i k1 k2 => ?_⟩
        · show ((litF ho p.1 x env).bind _).isSome = true
          rw [hl]; exact h1
        · cases i with
          | zero => exact hx
          | succ i => exact h2 i (by simpa using k1) (by simpa using k2)
    · rintro ⟨t, rfl, h, h2⟩
      cases t with
      | nil => simp [chkF] at h
      | cons x t =>
        have h : ((litF ho p.1 x env).bind (chkF ho (ls.map Prod.fst) t)).isSome = true := h
        cases hl : litF ho p.1 x env with
        | none => rw [hl] at h; cases h
        | some e =>
          rw [hl] at h
          refine ⟨x, h2 0 (by simp) (by simp), ?_⟩
          rw [hl]
          exact mem_lv.2 ⟨t, by simp, h, fun i k1 k2 => h2 (i + 1) (by simpa using k1) (by simpa using k2)⟩
theorem ls_fst (r : Rl) (first : Int) (f : Fa) (l : List Fa) : (lsF r first f l 0 r.bo.length).map Prod.fst = r.bo := by
  unfold lsF
  rw [List.map_map]
  refine List.ext_getElem (by simp) fun i h1 h2 => ?_
  simp [List.getD_eq_getElem?_getD, h2]
theorem mem_each {r : Rl} {first : Int} {f : Fa} {l : List Fa} {env : List Bi} {b : List Fa} : b ∈ eachF r.ho r.bo (candF first f l) (ordR r first) env (List.replicate r.bo.length .zero) ↔ (chkF r.ho r.bo b env).isSome = true ∧ ∀ i (h : i < b.length), b[i] ∈ candF first f l i := by
  rw [(each_perm (ordR_perm r first) (ordR_nodup r first) env _).mem_iff, each_lv r.ho r.bo _ r.bo.length 0 env _ (by simp), List.take_zero]
  have e2 : lvF r.ho ((List.range' 0 r.bo.length).map fun i => (r.bo.getD i .zero, candF first f l i)) env [] = lvF r.ho (lsF r first f l 0 r.bo.length) env [] := rfl
  rw [e2, mem_lv, ls_fst]
  have hl : (lsF r first f l 0 r.bo.length).length = r.bo.length := by simp [lsF]
  have hg : ∀ i (h : i < (lsF r first f l 0 r.bo.length).length), (lsF r first f l 0 r.bo.length)[i].2 = candF first f l i := fun i h => by simp [lsF]
  constructor
  · rintro ⟨t, rfl, h1, h2⟩
    obtain ⟨e', he⟩ := Option.isSome_iff_exists.1 h1
    have := chk_len he
    exact ⟨h1, fun i h => by
      have h3 := h2 i (by rw [hl]; omega) h
      rw [hg] at h3; exact h3⟩
  · rintro ⟨h1, h2⟩
    exact ⟨b, rfl, h1, fun i k1 k2 => by rw [hg]; exact h2 i k2⟩
theorem mem_bod {r : Rl} {me : ByteArray} {first : Int} {f : Fa} {l : List Fa} {b : List Fa} : b ∈ bodF r me first f l ↔ ∃ env, uniF r.ho (nmC me) [] = some env ∧ (chkF r.ho r.bo b env).isSome = true ∧ ∀ i (h : i < b.length), b[i] ∈ candF first f l i := by
  unfold bodF fndP
  rw [insS_mem cmpB_ord]
  cases hu : uniF r.ho (nmC me) [] with
  | none => simp
  | some env => simp only [mem_each, List.not_mem_nil, or_false, Option.some.injEq, exists_eq_left']
theorem bod_rises (r : Rl) (me : ByteArray) (first : Int) (f : Fa) (l : List Fa) : Rises cmpB (bodF r me first f l) := insS_rises cmpB_ord .nil
theorem bod_len {r : Rl} {me : ByteArray} {first : Int} {f : Fa} {l : List Fa} {b : List Fa} (h : b ∈ bodF r me first f l) : b.length = r.bo.length := by
  obtain ⟨env, _, h2, _⟩ := mem_bod.1 h
  obtain ⟨e, he⟩ := Option.isSome_iff_exists.1 h2
  exact chk_len he
/-- Less to choose from: no more is found. -/
theorem fnd_mono {r : Rl} {me : ByteArray} {first first' : Int} {f f' : Fa} {l l' : List Fa} (h : ∀ k, (candF first f l k).Sublist (candF first' f' l' k)) : (fndP r me first f l).length ≤ (fndP r me first' f' l').length := by
  unfold fndP
  cases hu : uniF r.ho (nmC me) [] with
  | none => exact Nat.le_refl _
  | some env =>
    simp only
    rw [(each_perm (ordR_perm r first) (ordR_nodup r first) env _).length_eq, (each_perm (ordR_perm r first') (ordR_nodup r first') env _).length_eq]
    exact (each_sub h _ _ _).length_le
theorem rises_len {α : Type} {c : α → α → Int} (h : Ord3 c) : ∀ {k l : List α}, Rises c l → Rises c k → (∀ y, y ∈ l → y ∈ k) → l.length ≤ k.length
  | k, [], _, _, _ => by simp
  | [], x :: l, _, _, hs => by have := hs x (by simp); cases this
  | y :: k, x :: l, hl, hk, hs => by
    obtain ⟨h1, h2⟩ := List.pairwise_cons.1 hl
    obtain ⟨k1, k2⟩ := List.pairwise_cons.1 hk
    have irr : ∀ z, ¬ c z z < 0 := fun z hz => by rw [h.self] at hz; omega
    have : l.length ≤ k.length := by
      refine rises_len h h2 k2 fun z hz => ?_
      rcases List.mem_cons.1 (hs z (by simp [hz])) with e | hz'
      · exfalso
        subst e
        have hx := h1 z hz
        rcases List.mem_cons.1 (hs x (by simp)) with e | hx'
        · subst e; exact irr _ hx
        · exact irr _ (h.trans _ _ _ hx (k1 x hx'))
      · exact hz'
    simp only [List.length_cons]
    omega
/-! ### With a fact more -/
section
variable {r : Rl} {me : ByteArray} {f : Fa} {l : List Fa}
theorem cand_neg (k : Nat) : candF (-1) f l k = l := by unfold candF; rw [if_neg (by omega)]
theorem more_mem {b : List Fa} : b ∈ bodF r me (-1) f l ↔ b ∈ bodF r me (-1) f (l ++ [f]) ∧ (f ∉ b ∨ f ∈ l) := by
  rw [mem_bod, mem_bod]
  constructor
  · rintro ⟨env, h1, h2, h3⟩
    refine ⟨⟨env, h1, h2, fun i h => ?_⟩, ?_⟩
    · have := h3 i h
      rw [cand_neg] at this ⊢
      exact List.mem_append_left _ this
    · by_cases hf : f ∈ b
      · obtain ⟨i, hi, e⟩ := List.mem_iff_getElem.1 hf
        have := h3 i hi
        rw [cand_neg, e] at this
        exact .inr this
      · exact .inl hf
  · rintro ⟨⟨env, h1, h2, h3⟩, h4⟩
    refine ⟨env, h1, h2, fun i h => ?_⟩
    have := h3 i h
    rw [cand_neg] at this ⊢
    rcases List.mem_append.1 this with h5 | h5
    · exact h5
    · rw [List.mem_singleton] at h5
      rcases h4 with h4 | h4
      · exact absurd (h5 ▸ List.getElem_mem h) h4
      · rw [h5]; exact h4
theorem more_len : (bodF r me (-1) f l).length ≤ (bodF r me (-1) f (l ++ [f])).length := rises_len cmpB_ord (bod_rises _ _ _ _ _) (bod_rises _ _ _ _ _) fun y hy => (more_mem.1 hy).1
theorem more_with {b : List Fa} {k : Nat} (hb : b ∈ bodF r me (-1) f (l ++ [f])) (hk : k < b.length) (e : b[k] = f) : b ∈ bodF r me (k : Int) f (l ++ [f]) := by
  obtain ⟨env, h1, h2, h3⟩ := mem_bod.1 hb
  refine mem_bod.2 ⟨env, h1, h2, fun i h => ?_⟩
  unfold candF
  by_cases hi : i = k
  · subst hi; rw [if_pos rfl, e]; simp
  · rw [if_neg (by omega)]
    have := h3 i h
    rwa [cand_neg] at this
theorem more_fnd : (fndP r me (-1) f l).length ≤ (fndP r me (-1) f (l ++ [f])).length := fnd_mono fun k => by
  rw [cand_neg, cand_neg]; exact List.sublist_append_left _ _
theorem more_fndk (k : Int) : (fndP r me k f (l ++ [f])).length ≤ (fndP r me (-1) f (l ++ [f])).length := fnd_mono fun i => by
  rw [cand_neg]
  unfold candF
  split
  · exact List.sublist_append_right _ _
  · exact .refl _
end
end Go.Proofs.YthdfpankebjleaaGreat

/-
  What follows from rules and facts: heads, what follows at once, the least model.
  Conditions: none.
-/
namespace Go.Proofs.YthdfpankebjleaaGreat
open Go Go.Av

/-- A term's value, if that is a text. -/
def nameF (t : Tm) (env : List Bi) : Option ByteArray := match valF t env with
  | some c => if c = nmC c.s then some c.s else none
  | none => none
def valsF : List Tm → List Bi → Option (List Cn)
  | [], _ => some []
  | t :: l, env => match valF t env with
    | some c => (valsF l env).map (c :: ·)
    | none => none
/-- A rule's head, its variables bound. -/
def headF (r : Rl) (env : List Bi) : Option Fa := (nameF r.ho env).bind fun b => (nameF (orT r.at' r.ho) env).bind fun a => (valsF r.ar env).map fun args => ⟨a, b, r.nm, args⟩
/-- The bindings by which a body is among some facts. -/
def lvE (ho : Tm) (m : List Fa) : List Li → List Bi → List (List Bi)
  | [], env => [env]
  | l :: ls, env => m.flatMap fun x => match litF ho l x env with
    | some e => lvE ho m ls e
    | none => []
/-- The head, if it stands at one of these names. -/
def hdN (names : List ByteArray) (r : Rl) (env : List Bi) : Option Fa := match headF r env with
  | some f => if f.at' ∈ names then some f else none
  | none => none
def onceH (names : List ByteArray) (m : List Fa) (r : Rl) (h : ByteArray) : List Fa := match uniF r.ho (nmC h) [] with
  | some env => (lvE r.ho m r.bo env).filterMap (hdN names r)
  | none => []
/-- What follows at once. -/
def onceL (homes names : List ByteArray) (rs : List Rl) (m : List Fa) : List Fa := rs.flatMap fun r => homes.flatMap fun h => onceH names m r h
def onceF (homes names : List ByteArray) (rs : List Rl) (m : List Fa) : List Fa := insS cmpF [] (onceL homes names rs m)
/-- How many bindings are gone through. -/
def cntH (m : List Fa) (r : Rl) (h : ByteArray) : Nat := match uniF r.ho (nmC h) [] with
  | some env => (lvE r.ho m r.bo env).length
  | none => 0
def cntL (homes : List ByteArray) (rs : List Rl) (m : List Fa) : Nat := ((rs.map fun r => (homes.map fun h => cntH m r h).sum).sum)
theorem onceH_len (names : List ByteArray) (m : List Fa) (r : Rl) (h : ByteArray) : (onceH names m r h).length ≤ cntH m r h := by
  unfold onceH cntH
  split
  · exact List.length_filterMap_le _ _
  · simp
theorem onceL_len (homes names : List ByteArray) (rs : List Rl) (m : List Fa) : (onceL homes names rs m).length ≤ cntL homes rs m := by
  unfold onceL cntL
  induction rs with
  | nil => simp
  | cons r rs ih =>
    simp only [List.flatMap_cons, List.length_append, List.map_cons, List.sum_cons]
    have : (homes.flatMap fun h => onceH names m r h).length ≤ (homes.map fun h => cntH m r h).sum := by
      clear ih
      induction homes with
      | nil => simp
      | cons h hs ih =>
        simp only [List.flatMap_cons, List.length_append, List.map_cons, List.sum_cons]
        have := onceH_len names m r h
        omega
    omega

/-! ### The document's way -/
def frE (names : List ByteArray) (m : List Fa) (r : Rl) : List Li → List Bi → List Fa × Nat → List Fa × Nat
  | [], env, s => (match hdN names r env with
    | some f => insF cmpF f s.1
    | none => s.1, s.2)
  | l :: ls, env, s => m.foldl (fun s x => if 60000 < s.2 then s else match litF r.ho l x env with
    | some e => frE names m r ls e (s.1, s.2 + 1)
    | none => (s.1, s.2 + 1)) s
def stE (names : List ByteArray) (m : List Fa) (r : Rl) (l : Li) (ls : List Li) (env : List Bi) (s : List Fa × Nat) (x : Fa) : List Fa × Nat := if 60000 < s.2 then s else match litF r.ho l x env with
    | some e => frE names m r ls e (s.1, s.2 + 1)
    | none => (s.1, s.2 + 1)
theorem frE_cons {names : List ByteArray} {m : List Fa} {r : Rl} {l : Li} {ls : List Li} {env : List Bi} {s : List Fa × Nat} : frE names m r (l :: ls) env s = m.foldl (stE names m r l ls env) s := rfl
def onHR (names : List ByteArray) (m : List Fa) (r : Rl) (s : List Fa × Nat) (h : ByteArray) : List Fa × Nat := match uniF r.ho (nmC h) [] with
  | some env => frE names m r r.bo env s
  | none => s
def onRR (homes names : List ByteArray) (m : List Fa) (s : List Fa × Nat) (r : Rl) : List Fa × Nat := homes.foldl (onHR names m r) s
def onceR (homes names : List ByteArray) (rs : List Rl) (m : List Fa) (d : Nat) : List Fa × Nat := rs.foldl (onRR homes names m) ([], d)
theorem stE_heavy {names : List ByteArray} {m : List Fa} {r : Rl} {l : Li} {ls : List Li} {env : List Bi} {s : List Fa × Nat} (h : 60000 < s.2) : ∀ k : List Fa, k.foldl (stE names m r l ls env) s = s
  | [] => rfl
  | x :: k => by rw [List.foldl_cons]; unfold stE; rw [if_pos h]; exact stE_heavy h k
theorem foldl_inv {α β : Type} {f : β → α → β} {p : β → Prop} (hf : ∀ s x, p s → p (f s x)) : ∀ (l : List α) (s : β), p s → p (l.foldl f s)
  | [], s, h => h
  | x :: l, s, h => foldl_inv hf l _ (hf s x h)
theorem frE_ge {names : List ByteArray} {m : List Fa} {r : Rl} : ∀ (ls : List Li) (env : List Bi) (s : List Fa × Nat), s.2 ≤ (frE names m r ls env s).2
  | [], env, s => Nat.le_refl _
  | l :: ls, env, s => by
    rw [frE_cons]
    refine foldl_inv (p := fun t => s.2 ≤ t.2) (fun t x ht => ?_) m s (Nat.le_refl _)
    unfold stE
    split
    · exact ht
    · split
      · exact Nat.le_trans (Nat.le_succ_of_le ht) (frE_ge ls _ (t.1, t.2 + 1))
      · exact Nat.le_succ_of_le ht
/-- What it has found while it has not done too much; how much is in it at most. -/
theorem frE_ok {names : List ByteArray} {m : List Fa} {r : Rl} : ∀ (ls : List Li) (env : List Bi) (s : List Fa × Nat), (frE names m r ls env s).2 ≤ 60000 →
    (frE names m r ls env s).1 = insS cmpF s.1 ((lvE r.ho m ls env).filterMap (hdN names r)) ∧ (lvE r.ho m ls env).length + s.2 ≤ (frE names m r ls env s).2 + (if ls = [] then 1 else 0)
  | [], env, s, h => by
    refine ⟨?_, by simp [lvE, frE]; omega⟩
    show (match hdN names r env with
      | some f => insF cmpF f s.1
      | none => s.1) = insS cmpF s.1 (([env] : List (List Bi)).filterMap (hdN names r))
    cases hh : hdN names r env with
    | none => simp [hh, insS]
    | some f => simp [hh, insS]
  | l :: ls, env, s, h => by
    rw [if_neg (by simp), frE_cons] at *
    have key : ∀ (k : List Fa) (s : List Fa × Nat), (k.foldl (stE names m r l ls env) s).2 ≤ 60000 →
        (k.foldl (stE names m r l ls env) s).1 = insS cmpF s.1 ((k.flatMap fun x => match litF r.ho l x env with
          | some e => lvE r.ho m ls e
          | none => []).filterMap (hdN names r)) ∧ (k.flatMap fun x => match litF r.ho l x env with
          | some e => lvE r.ho m ls e
          | none => []).length + s.2 ≤ (k.foldl (stE names m r l ls env) s).2 := by
      intro k
      induction k with
      | nil => exact fun s h => ⟨rfl, by simp⟩
      | cons x k ih =>
        intro s h
        rw [List.foldl_cons] at h ⊢
        rw [List.flatMap_cons, List.filterMap_append, insS_app, List.length_append]
        have hm : (stE names m r l ls env s x).2 ≤ (k.foldl (stE names m r l ls env) (stE names m r l ls env s x)).2 :=
          foldl_inv (p := fun t : List Fa × Nat => (stE names m r l ls env s x).2 ≤ t.2) (fun t y ht => by
            have hh : t.2 ≤ (stE names m r l ls env t y).2 := by
              unfold stE
              split
              · exact Nat.le_refl _
              · split
                · exact Nat.le_trans (Nat.le_succ _) (frE_ge ls _ (t.1, t.2 + 1))
                · exact Nat.le_succ _
            exact Nat.le_trans ht hh) k _ (Nat.le_refl _)
        obtain ⟨i1, i2⟩ := ih _ h
        rw [i1]
        have hs : ¬ 60000 < s.2 := fun hs => by
          have h1 : (stE names m r l ls env s x).2 = s.2 := by unfold stE; rw [if_pos hs]
          omega
        cases hx : litF r.ho l x env with
        | none =>
          have e : stE names m r l ls env s x = (s.1, s.2 + 1) := by unfold stE; rw [if_neg hs, hx]
          rw [e] at i2 hm ⊢
          exact ⟨rfl, by simp only [List.length_nil] at i2 ⊢; omega⟩
        | some e' =>
          have e : stE names m r l ls env s x = frE names m r ls e' (s.1, s.2 + 1) := by unfold stE; rw [if_neg hs, hx]
          rw [e] at i2 hm h ⊢
          obtain ⟨j1, j2⟩ := frE_ok (names := names) (m := m) (r := r) ls e' (s.1, s.2 + 1) (by omega)
          refine ⟨by rw [j1], ?_⟩
          split at j2 <;> simp only at j2 ⊢ <;> omega
    exact key m s h
theorem frE_bd {names : List ByteArray} {m : List Fa} {r : Rl} : ∀ (ls : List Li) (env : List Bi) (s : List Fa × Nat) (c : Nat), s.1.length ≤ s.2 + c → s.2 ≤ 60001 → (frE names m r ls env s).1.length ≤ (frE names m r ls env s).2 + (c + 1) ∧ (frE names m r ls env s).2 ≤ 60001
  | [], env, s, c, h1, h2 => by
    refine ⟨?_, h2⟩
    show (match hdN names r env with
      | some f => insF cmpF f s.1
      | none => s.1).length ≤ s.2 + (c + 1)
    split
    · exact Nat.le_trans ins_len (by omega)
    · omega
  | l :: ls, env, s, c, h1, h2 => by
    rw [frE_cons]
    refine foldl_inv (p := fun t => t.1.length ≤ t.2 + (c + 1) ∧ t.2 ≤ 60001) (fun t x ht => ?_) m s ⟨by omega, h2⟩
    unfold stE
    split
    · exact ht
    · split
      · exact frE_bd ls _ (t.1, t.2 + 1) c (by simp only; omega) (by simp only; omega)
      · exact ⟨by simp only; omega, by simp only; omega⟩
end Go.Proofs.YthdfpankebjleaaGreat

/-
  A term's value as a text; the values of terms; a rule's head: as both packages reckon them.
  Conditions: none.
-/
namespace Go.Proofs.YthdfpankebjleaaGreat
open Go Go.Av

abbrev resN (s : ByteArray) (o : Bool) : AV := .tup [str s, boo o]
def resL (o : Option (List Cn)) : AV := .tup [.sl 3 (cnC (o.getD [])), boo o.isSome]
def Fa.nil : Fa := ⟨emp, emp, emp, []⟩
def resH (o : Option Fa) : AV := .tup [.agg (o.getD .nil).cs, boo o.isSome]
section
variable {σ : St} {K : AV → Prop}
@[go_sem] theorem resL_0 {o : Option (List Cn)} : aExt (resL o) 0 K = K (.sl 3 (cnC (o.getD []))) := by simp [resL, aExt]
@[go_sem] theorem resL_1 {o : Option (List Cn)} : aExt (resL o) 1 K = K (boo o.isSome) := by simp [resL, aExt]
@[go_sem] theorem resH_0 {o : Option Fa} : aExt (resH o) 0 K = K (.agg (o.getD .nil).cs) := by simp [resH, aExt]
@[go_sem] theorem resH_1 {o : Option Fa} : aExt (resH o) 1 K = K (boo o.isSome) := by simp [resH, aExt]
theorem nameF_none {t : Tm} {env : List Bi} (h : valF t env = none) : nameF t env = none := by unfold nameF; rw [h]
theorem nameF_yes {t : Tm} {env : List Bi} {c : Cn} (h : valF t env = some c) (h1 : c = nmC c.s) : nameF t env = some c.s := by unfold nameF; rw [h]; simp only; rw [if_pos h1]
theorem nameF_no {t : Tm} {env : List Bi} {c : Cn} (h : valF t env = some c) (h1 : ¬ c = nmC c.s) : nameF t env = none := by unfold nameF; rw [h]; simp only; rw [if_neg h1]
/-- A text and whether it is one: of the text nothing is told if it is none. -/
def NameIs (o : Option ByteArray) (r : AV) : Prop := ∃ s, r = resN s o.isSome ∧ (∀ x, o = some x → s = x)
theorem name_at' (t : Tm) (env : List Bi) (hl : env.length ≤ 1000000) : AT Tryz.prog 62 [.agg t.cs, .sl 4 (biC env)] σ fun r σ' => NameIs (nameF t env) r ∧ σ' = σ := by
  refine AT.of_body Tryz.func62 rfl (by decide) (by kernel_rfl) (by kernel_rfl) (Nat.le_of_ble_eq_true rfl) ?_
  simp only [go_sem]
  refine Ctx.nil.alloc fun p σ1 c1 => ?_
  simp only [go_sem, c1.g0]
  refine (value_at t env (by omega)).mono ?_
  rintro _ σ1 ⟨rfl, rfl⟩
  simp only [go_sem]
  refine c1.alloc fun q σ2 c2 => ?_
  cases hv : valF t env with
  | none =>
    obtain ⟨σ3, e3, c3⟩ := c2.abs 0 rfl (.cells Cn.zero.cs)
    have e0 : ((none : Option Cn).getD .zero).cs = Cn.zero.cs := rfl
    simp only [go_sem, c2.g1, e0, e3]
    refine aDraw_plan [.rd 0 false, .rd 1 true, .rd 2 false, .rd 3 false, .rd 4 true, .rd 5 false, .rd 6 true, .ef 7 [1, 4], .rd 8 false, .rd 9 false, .rd 10 false, .rd 11 false] (by kernel_rfl) (by kernel_rfl) (by kernel_rfl) ?_
    simp only [go_sem, c3.g1]
    exact aRet_view (r := .tup [str emp, boo false]) rfl _ σ (c3.view _) ⟨⟨emp, by rw [nameF_none hv]; rfl, fun x hx => by rw [nameF_none hv] at hx; cases hx⟩, rfl⟩
  | some c =>
    obtain ⟨σ3, e3, c3⟩ := c2.abs 0 rfl (.cells c.cs)
    have e0 : ((some c).getD .zero).cs = c.cs := rfl
    simp only [go_sem, c2.g1, e0, e3]
    refine aDraw_plan [.rd 0 false, .rd 1 true, .rd 2 false, .rd 3 false, .rd 4 true, .rd 5 false, .rd 6 true, .ef 7 [1, 4], .rd 8 false, .rd 9 false, .rd 10 false, .rd 11 false] (by kernel_rfl) (by kernel_rfl) (by kernel_rfl) ?_
    simp only [go_sem, c3.g1]
    refine (text_at c.s).mono ?_
    rintro _ σ3 ⟨rfl, rfl⟩
    simp only [go_sem, c3.g1]
    refine cn_eq ?_
    simp only [go_sem]
    by_cases h1 : c = nmC c.s
    · exact aRet_view (r := .tup [str c.s, boo (decide (c = nmC c.s))]) rfl _ σ (c3.view _) ⟨⟨c.s, by rw [nameF_yes hv h1, decide_eq_true h1]; rfl, fun x hx => by rw [nameF_yes hv h1] at hx; injection hx⟩, rfl⟩
    · exact aRet_view (r := .tup [str c.s, boo (decide (c = nmC c.s))]) rfl _ σ (c3.view _) ⟨⟨c.s, by rw [nameF_no hv h1, decide_eq_false h1]; rfl, fun x hx => by rw [nameF_no hv h1] at hx; cases hx⟩, rfl⟩
theorem vals_take {l : List Tm} {env : List Bi} {i : Nat} (h : i < l.length) : valsF (l.take (i + 1)) env = (valsF (l.take i) env).bind fun a => (valF l[i] env).map fun c => a ++ [c] := by
  induction l generalizing i with
  | nil => simp at h
  | cons t l ih =>
    cases i with
    | zero =>
      simp only [Nat.zero_add, List.take_succ_cons, List.take_zero, valsF, List.getElem_cons_zero, Option.bind_some]
      cases valF t env <;> rfl
    | succ i =>
      simp only [List.take_succ_cons, valsF, List.getElem_cons_succ]
      cases valF t env with
      | none => rfl
      | some c =>
        have h' : i < l.length := by simpa using h
        simp only
        rw [ih h']
        cases valsF (l.take i) env with
        | none => rfl
        | some a => cases valF l[i] env <;> rfl
theorem vals_none {l : List Tm} {env : List Bi} {i : Nat} (h : i ≤ l.length) (hn : valsF (l.take i) env = none) : valsF l env = none := by
  induction l generalizing i with
  | nil => simp [valsF] at hn
  | cons t l ih =>
    cases i with
    | zero => simp [valsF] at hn
    | succ i =>
      simp only [List.take_succ_cons, valsF] at hn ⊢
      cases hv : valF t env with
      | none => rfl
      | some c =>
        rw [hv] at hn
        simp only at hn ⊢
        rw [Option.map_eq_none_iff] at hn
        rw [ih (by simpa using h) hn]
        rfl
theorem values_at (l : List Tm) (env : List Bi) (hl : l.length ≤ 1000000) (he : env.length ≤ 1000000) : AT Tryz.prog 63 [.sl 4 (tmC l), .sl 4 (biC env)] σ fun r σ' => r = resL (valsF l env) ∧ σ' = σ := by
  refine AT.of_body Tryz.func63 rfl (by decide) (by kernel_rfl) (by kernel_rfl) (Nat.le_of_ble_eq_true rfl) ?_
  simp only [go_sem, r_block]
  refine ⟨fun m fr σ' => ∃ (i : Nat) (lv : AV) (a : List Cn), m = l.length - i ∧ i ≤ l.length ∧ LAt 3 σ' lv (cnC a) ∧ Grow σ σ' lv ∧ a.length = i ∧ valsF (l.take i) env = some a ∧ fr 1 = .sl 4 (biC env) ∧ fr 6 = lv ∧ fr 11 = .sl 4 (tmC l) ∧ fr 12 = int l.length ∧ fr 13 = int i, ⟨_, 0, nilS, [], rfl, by omega, .none, .nil, rfl, rfl, rfl, rfl, rfl, rfl, rfl⟩, ?_⟩
  rintro m fr σ1 ⟨i, lv, a, rfl, hi, hL, hG, ha, hv, f1, f6, f11, f12, f13⟩
  simp only [go_sem, f12, f13]
  refine aIf_by (fun hlt => ?_) (fun hlt => ?_)
  · have hil : i < l.length := by omega
    simp only [go_sem, r_block, f11, f13, tmC_get hil]
    refine ⟨by omega, Ctx.nil.alloc fun p σ2 c1 => ?_⟩
    obtain ⟨σ3, e3, c2⟩ := c1.abs 0 rfl (.cells l[i].cs)
    simp only [go_sem, r_block, c1.g0, e3, c2.g0, f1]
    refine (value_at l[i] env (by omega)).mono ?_
    rintro _ σ3 ⟨rfl, rfl⟩
    simp only [go_sem, r_block]
    refine c2.alloc fun q σ4 c3 => ?_
    have hs := vals_take (env := env) hil
    rw [hv, Option.bind_some] at hs
    cases hc : valF l[i] env with
    | none =>
      rw [hc] at hs
      obtain ⟨σ5, e5, c4⟩ := c3.abs 0 rfl (.cells Cn.zero.cs)
      have e0 : ((none : Option Cn).getD .zero).cs = Cn.zero.cs := rfl
      simp only [go_sem, r_block, c3.g1, e0, e5]
      exact aRet_view (r := .tup [nilS, boo false]) rfl (resL none) σ (ret_nil2 (fun y o hy => c4.sub _ _ (hG.sub y o hy)) _) ⟨by rw [vals_none (by omega) hs], rfl⟩
    | some c =>
      rw [hc] at hs
      obtain ⟨σ5, e5, c4⟩ := c3.abs 0 rfl (.cells c.cs)
      have e0 : ((some c).getD .zero).cs = c.cs := rfl
      simp only [go_sem, r_block, c3.g1, e0, e5, c4.g1, f6]
      have hL4 : LAt 3 σ5 lv (cnC a) := hL.keep fun y o hy _ => c4.sub y o hy
      refine aApp_by (ys := [c.cs]) (by rfl) (by decide) (by decide) (by decide) (hL4.app (by rw [cnC_len, ha]; simp only [List.length_cons, List.length_nil]; omega) fun lv' σ6 h1 g1 => ?_)
      have e6 : cnC a ++ [c.cs] = cnC (a ++ [c]) := by simp [cnC]
      rw [e6] at h1
      simp only [go_sem, r_block, f1, f11, f12, f13, next64 (show i < 9223372036854775807 by omega)]
      have hG' : Grow σ σ6 lv' := fun y o hy => g1 y o (c4.sub _ _ (hG y o hy).1) (hG y o hy).2
      exact ⟨l.length - (i + 1), by omega, i + 1, lv', a ++ [c], rfl, by omega, h1, hG', by simp [ha], hs, rfl, rfl⟩
  · rw [List.take_of_length_le (by omega)] at hv
    simp only [go_sem, r_block, f6]
    exact aRet_view (r := .tup [lv, boo true]) rfl (resL (some a)) σ (ret_sl2 hL hG _) ⟨by rw [hv], rfl⟩
end
end Go.Proofs.YthdfpankebjleaaGreat

/-
  A rule's head, as both packages reckon it.
  Conditions: none.
-/
namespace Go.Proofs.YthdfpankebjleaaGreat
open Go Go.Av

section
variable {σ σ1 : St}
theorem rname_at (t : Tm) (env : List Bi) (hl : env.length ≤ 1000000) : AT Tryz.prog 124 [.agg t.cs, .sl 4 (biC env)] σ fun r σ' => NameIs (nameF t env) r ∧ σ' = σ := by
  refine AT.of_body Tryz.func124 rfl (by decide) (by kernel_rfl) (by kernel_rfl) (Nat.le_of_ble_eq_true rfl) ?_
  simp only [go_sem]
  refine Ctx.nil.alloc fun p σ1 c1 => ?_
  simp only [go_sem, c1.g0]
  refine (rvalue_at t env (by omega)).mono ?_
  rintro _ σ1 ⟨rfl, rfl⟩
  simp only [go_sem]
  refine c1.alloc fun q σ2 c2 => ?_
  cases hv : valF t env with
  | none =>
    obtain ⟨σ3, e3, c3⟩ := c2.abs 0 rfl (.cells Cn.zero.cs)
    have e0 : ((none : Option Cn).getD .zero).cs = Cn.zero.cs := rfl
    simp only [go_sem, c2.g1, e0, e3]
    refine aDraw_plan [.rd 0 false, .rd 1 false, .rd 2 false, .rd 3 true, .rd 4 false, .rd 5 true, .ef 6 [3], .rd 7 false, .rd 8 false] (by kernel_rfl) (by kernel_rfl) (by kernel_rfl) ?_
    simp only [go_sem, c3.g1]
    exact aRet_view (r := .tup [str emp, boo false]) rfl _ σ (c3.view _) ⟨⟨emp, by rw [nameF_none hv]; rfl, fun x hx => by rw [nameF_none hv] at hx; cases hx⟩, rfl⟩
  | some c =>
    obtain ⟨σ3, e3, c3⟩ := c2.abs 0 rfl (.cells c.cs)
    have e0 : ((some c).getD .zero).cs = c.cs := rfl
    simp only [go_sem, c2.g1, e0, e3]
    refine aDraw_plan [.rd 0 false, .rd 1 false, .rd 2 false, .rd 3 true, .rd 4 false, .rd 5 true, .ef 6 [3], .rd 7 false, .rd 8 false] (by kernel_rfl) (by kernel_rfl) (by kernel_rfl) ?_
    simp only [go_sem, c3.g1]
    refine (name_at c.s).mono ?_
    rintro _ σ3 ⟨rfl, rfl⟩
    simp only [go_sem, c3.g1]
    refine cn_ne ?_
    simp only [go_sem]
    by_cases h1 : c = nmC c.s
    · have d := decide_eq_true h1
      simp only [go_sem, d, Bool.not_true, c3.g1]
      exact aRet_view (r := .tup [str c.s, boo true]) rfl _ σ (c3.view _) ⟨⟨c.s, by rw [nameF_yes hv h1]; rfl, fun x hx => by rw [nameF_yes hv h1] at hx; injection hx⟩, rfl⟩
    · have d := decide_eq_false h1
      simp only [go_sem, d, Bool.not_false]
      exact aRet_view (r := .tup [str emp, boo false]) rfl _ σ (c3.view _) ⟨⟨emp, by rw [nameF_no hv h1]; rfl, fun x hx => by rw [nameF_no hv h1] at hx; cases hx⟩, rfl⟩
theorem rvalues_at (l : List Tm) (env : List Bi) (hl : l.length ≤ 1000000) (he : env.length ≤ 1000000) : AT Tryz.prog 125 [.sl 4 (tmC l), .sl 4 (biC env)] σ fun r σ' => r = resL (valsF l env) ∧ σ' = σ := by
  refine AT.of_body Tryz.func125 rfl (by decide) (by kernel_rfl) (by kernel_rfl) (Nat.le_of_ble_eq_true rfl) ?_
  simp only [go_sem, r_block]
  refine ⟨fun m fr σ' => ∃ (i : Nat) (lv : AV) (a : List Cn), m = l.length - i ∧ i ≤ l.length ∧ LAt 3 σ' lv (cnC a) ∧ Grow σ σ' lv ∧ a.length = i ∧ valsF (l.take i) env = some a ∧ fr 0 = .sl 4 (tmC l) ∧ fr 1 = .sl 4 (biC env) ∧ fr 6 = lv ∧ fr 7 = int i, ⟨_, 0, nilS, [], rfl, by omega, .none, .nil, rfl, rfl, rfl, rfl, rfl, rfl⟩, ?_⟩
  rintro m fr σ1 ⟨i, lv, a, rfl, hi, hL, hG, ha, hv, f0, f1, f6, f7⟩
  simp only [go_sem, f0, f7]
  refine aIf_by (fun hlt => ?_) (fun hlt => ?_)
  · have hil : i < l.length := by omega
    simp only [go_sem, r_block, f0, f1, f7, tmC_get hil]
    refine ⟨by omega, (rvalue_at l[i] env (by omega)).mono ?_⟩
    rintro _ σ3 ⟨rfl, rfl⟩
    simp only [go_sem, r_block]
    refine Ctx.nil.alloc fun q σ4 c3 => ?_
    have hs := vals_take (env := env) hil
    rw [hv, Option.bind_some] at hs
    cases hc : valF l[i] env with
    | none =>
      rw [hc] at hs
      obtain ⟨σ5, e5, c4⟩ := c3.abs 0 rfl (.cells Cn.zero.cs)
      have e0 : ((none : Option Cn).getD .zero).cs = Cn.zero.cs := rfl
      simp only [go_sem, r_block, c3.g0, e0, e5]
      exact aRet_view (r := .tup [nilS, boo false]) rfl (resL none) σ (ret_nil2 (fun y o hy => c4.sub _ _ (hG.sub y o hy)) _) ⟨by rw [vals_none (by omega) hs], rfl⟩
    | some c =>
      rw [hc] at hs
      obtain ⟨σ5, e5, c4⟩ := c3.abs 0 rfl (.cells c.cs)
      have e0 : ((some c).getD .zero).cs = c.cs := rfl
      simp only [go_sem, r_block, c3.g0, e0, e5, c4.g0, f6]
      have hL4 : LAt 3 σ5 lv (cnC a) := hL.keep fun y o hy _ => c4.sub y o hy
      refine aApp_by (ys := [c.cs]) (by rfl) (by decide) (by decide) (by decide) (hL4.app (by rw [cnC_len, ha]; simp only [List.length_cons, List.length_nil]; omega) fun lv' σ6 h1 g1 => ?_)
      have e6 : cnC a ++ [c.cs] = cnC (a ++ [c]) := by simp [cnC]
      rw [e6] at h1
      simp only [go_sem, r_block, f0, f1, f7, next64 (show i < 9223372036854775807 by omega)]
      have hG' : Grow σ σ6 lv' := fun y o hy => g1 y o (c4.sub _ _ (hG y o hy).1) (hG y o hy).2
      exact ⟨l.length - (i + 1), by omega, i + 1, lv', a ++ [c], rfl, by omega, h1, hG', by simp [ha], hs, rfl, rfl⟩
  · rw [List.take_of_length_le (by omega)] at hv
    simp only [go_sem, r_block, f6]
    exact aRet_view (r := .tup [lv, boo true]) rfl (resL (some a)) σ (ret_sl2 hL hG _) ⟨by rw [hv], rfl⟩
theorem view_zero (h : ∀ x o, σ x = some o → σ1 x = some o) (x : AV) : View σ1 (.tup [.agg [str emp, str emp, str emp, nilS], x]) σ (.tup [.agg Fa.nil.cs, x]) := by
  have h1 : VWs σ1 σ [str emp, str emp, str emp, nilS] Fa.nil.cs := vws_same (vws_same (vws_same (vws_cons (.nil 3) vws_nil)))
  have h2 : VWs σ1 σ [.agg [str emp, str emp, str emp, nilS], x] [.agg Fa.nil.cs, x] := vws_cons (.agg _ _ rfl h1.2) (vws_refl _)
  exact view_of (sv_of fun y o hy => .inl (h y o hy)) (.tup _ _ rfl h2.2)
theorem headF_some {r : Rl} {env : List Bi} {b a : ByteArray} {l : List Cn} (h1 : nameF r.ho env = some b) (h2 : nameF (orT r.at' r.ho) env = some a) (h3 : valsF r.ar env = some l) : headF r env = some ⟨a, b, r.nm, l⟩ := by
  unfold headF; rw [h1, h2, h3]; rfl
theorem headF_none {r : Rl} {env : List Bi} (h : nameF r.ho env = none ∨ nameF (orT r.at' r.ho) env = none ∨ valsF r.ar env = none) : headF r env = none := by
  unfold headF
  rcases h with h | h | h
  · rw [h]; rfl
  · rw [h]; cases nameF r.ho env <;> rfl
  · rw [h]; cases nameF r.ho env <;> cases nameF (orT r.at' r.ho) env <;> rfl
@[go_sem] theorem Rl.at6 (r : Rl) : (r.cs.drop 6).take 4 = r.at'.cs := rfl
@[go_sem] theorem Rl.nm4' (r : Rl) : r.cs.getD 4 (.v undef) = str r.nm := rfl
@[go_sem] theorem Rl.ar5' (r : Rl) : r.cs.getD 5 (.v undef) = .sl 4 (tmC r.ar) := rfl
theorem head_at (r : Rl) (env : List Bi) (hl : r.ar.length ≤ 1000000) (he : env.length ≤ 1000000) : AT Tryz.prog 31 [.agg r.cs, .sl 4 (biC env)] σ fun v σ' => v = resH (headF r env) ∧ σ' = σ := by
  refine AT.of_body Tryz.func31 rfl (by decide) (by kernel_rfl) (by kernel_rfl) (Nat.le_of_ble_eq_true rfl) ?_
  simp only [go_sem]
  refine Ctx.nil.alloc fun p σ1 c1 => ?_
  simp only [go_sem]
  refine c1.alloc fun q σ2 c2 => ?_
  simp only [go_sem, c2.g1]
  refine (name_at' r.ho env he).mono ?_
  rintro _ σ2 ⟨⟨s1, rfl, hs1⟩, rfl⟩
  simp only [go_sem, c2.g1]
  refine (or_at' r.at' r.ho).mono ?_
  rintro _ σ2 ⟨rfl, rfl⟩
  simp only [go_sem, c2.g1]
  refine (name_at' (orT r.at' r.ho) env he).mono ?_
  rintro _ σ2 ⟨⟨s2, rfl, hs2⟩, rfl⟩
  simp only [go_sem, c2.g1]
  refine (values_at r.ar env hl he).mono ?_
  rintro _ σ2 ⟨rfl, rfl⟩
  have fail : ∀ {fr : Fr} {σ3 : St}, fr 4 = ptr q → fr 5 = boo false → (∀ y o, σ y = some o → σ3 y = some o) → σ3 q = some (.cells [str emp, str emp, str emp, nilS]) → headF r env = none → aRet Tryz.prog (fun v σ' => v = resH (headF r env) ∧ σ' = σ) [.cell 4 47, .tmp 5] fr σ3 := fun h4 h5 hs hq hn =>
    aRet_ct σ (resH none) h4 hq tk47 rfl rfl (by rw [h5]; exact view_zero hs _) ⟨by rw [hn], rfl⟩
  cases h1 : nameF r.ho env with
  | none =>
    simp only [go_sem, c2.g1]
    exact fail rfl rfl (c2.upd 0 rfl).sub set_same (headF_none (.inl h1))
  | some b =>
    cases h2 : nameF (orT r.at' r.ho) env with
    | none =>
      simp only [go_sem, c2.g1]
      exact fail rfl rfl (c2.upd 0 rfl).sub set_same (headF_none (.inr (.inl h2)))
    | some a =>
      cases h3 : valsF r.ar env with
      | none =>
        simp only [go_sem, c2.g1]
        exact fail rfl rfl (c2.upd 0 rfl).sub set_same (headF_none (.inr (.inr h3)))
      | some l =>
        obtain rfl := hs1 b h1
        obtain rfl := hs2 a h2
        simp only [go_sem, c2.g1]
        exact aRet_ct σ (resH (some ⟨s2, s1, r.nm, l⟩)) rfl set_same tk47 rfl rfl ((c2.upd 0 rfl).view _) ⟨by rw [headF_some h1 h2 h3], rfl⟩
theorem rhead_at (r : Rl) (env : List Bi) (hl : r.ar.length ≤ 1000000) (he : env.length ≤ 1000000) : AT Tryz.prog 86 [.agg r.cs, .sl 4 (biC env)] σ fun v σ' => v = resH (headF r env) ∧ σ' = σ := by
  refine AT.of_body Tryz.func86 rfl (by decide) (by kernel_rfl) (by kernel_rfl) (Nat.le_of_ble_eq_true rfl) ?_
  simp only [go_sem]
  refine Ctx.nil.alloc fun p σ1 c1 => ?_
  simp only [go_sem]
  refine c1.alloc fun q σ2 c2 => ?_
  simp only [go_sem, c2.g1]
  refine c2.alloc fun t σ3 c3 => ?_
  obtain ⟨σ4, e4, c4⟩ := c3.abs 0 rfl (.cells r.at'.cs)
  simp only [go_sem, c3.g2, e4, c4.g2]
  refine (none_at r.at').mono ?_
  rintro _ σ4 ⟨rfl, rfl⟩
  simp only [go_sem]
  refine aIf_meet (fun fr σ' => Ctx σ [(t, .cells (orT r.at' r.ho).cs), (q, .cells [str emp, str emp, str emp, nilS]), (p, .cells r.cs)] σ' ∧ fr 1 = .sl 4 (biC env) ∧ fr 2 = ptr p ∧ fr 4 = ptr q ∧ fr 5 = boo false ∧ fr 6 = ptr t) (fun h0 => ?_) (fun h0 => ?_) ?_
  · obtain ⟨σ6, e6, c6⟩ := c4.abs 0 rfl (.cells r.ho.cs)
    simp only [go_sem, c4.g2, e6]
    unfold orT; rw [if_pos h0]; exact c6
  · simp only [go_sem]
    unfold orT; rw [if_neg h0]; exact c4
  clear c4 c3 c2 c1 e4
  rintro fr σ6 ⟨c, f1, f2, f4, f5, f6⟩
  simp only [go_sem, f1, f2, c.g2]
  refine (rname_at r.ho env he).mono ?_
  rintro _ σ6 ⟨⟨s1, rfl, hs1⟩, rfl⟩
  simp only [go_sem, f1, f6, c.g2]
  refine (rname_at (orT r.at' r.ho) env he).mono ?_
  rintro _ σ6 ⟨⟨s2, rfl, hs2⟩, rfl⟩
  simp only [go_sem, f1, f2, c.g2]
  refine (rvalues_at r.ar env hl he).mono ?_
  rintro _ σ6 ⟨rfl, rfl⟩
  have fail : ∀ {fr : Fr} {σ3 : St}, fr 4 = ptr q → fr 5 = boo false → (∀ y o, σ y = some o → σ3 y = some o) → σ3 q = some (.cells [str emp, str emp, str emp, nilS]) → headF r env = none → aRet Tryz.prog (fun v σ' => v = resH (headF r env) ∧ σ' = σ) [.cell 4 47, .tmp 5] fr σ3 := fun h4 h5 hs hq hn =>
    aRet_ct σ (resH none) h4 hq tk47 rfl rfl (by rw [h5]; exact view_zero hs _) ⟨by rw [hn], rfl⟩
  cases h1 : nameF r.ho env with
  | none =>
    simp only [go_sem, f4, c.g2]
    exact fail f4 rfl (c.upd 1 rfl).sub set_same (headF_none (.inl h1))
  | some b =>
    cases h2 : nameF (orT r.at' r.ho) env with
    | none =>
      simp only [go_sem, f4, c.g2]
      exact fail f4 rfl (c.upd 1 rfl).sub set_same (headF_none (.inr (.inl h2)))
    | some a =>
      cases h3 : valsF r.ar env with
      | none =>
        simp only [go_sem, f4, c.g2]
        exact fail f4 rfl (c.upd 1 rfl).sub set_same (headF_none (.inr (.inr h3)))
      | some l =>
        obtain rfl := hs1 b h1
        obtain rfl := hs2 a h2
        simp only [go_sem, f2, f4, c.g2]
        exact aRet_ct σ (resH (some ⟨s2, s1, r.nm, l⟩)) f4 set_same tk47 rfl rfl ((c.upd 1 rfl).view _) ⟨by rw [headF_some h1 h2 h3], rfl⟩
theorem inN_at {l : List ByteArray} {s : ByteArray} (hl : l.length ≤ 1000000000) : AT Tryz.prog 87 [.sl 1 (stC l), str s] σ fun r σ' => r = boo (decide (s ∈ l)) ∧ σ' = σ := by
  refine AT.of_body Tryz.func87 rfl (by decide) (by kernel_rfl) (by kernel_rfl) (Nat.le_of_ble_eq_true rfl) ?_
  simp only [go_sem, r_block]
  refine ⟨fun m fr σ' => ∃ i : Nat, m = l.length - i ∧ i ≤ l.length ∧ σ' = σ ∧ fr 0 = .sl 1 (stC l) ∧ fr 1 = str s ∧ fr 5 = int i ∧ s ∉ l.take i, ⟨_, 0, rfl, by omega, rfl, rfl, rfl, rfl, by simp⟩, ?_⟩
  rintro m fr σ ⟨i, rfl, h1, rfl, f0, f1, f5, g⟩
  simp only [go_sem, f0, f1, f5]
  refine aIf_by (fun hlt => ?_) (fun hlt => ?_)
  · have hi : i < l.length := by omega
    simp only [go_sem, r_block, f0, f1, f5, stC_get hi]
    refine ⟨by omega, aIf_by (fun he => ?_) (fun he => ?_)⟩
    · simp only [go_sem, r_block]
      exact aRet_as (r := boo true) rfl ⟨by rw [decide_eq_true]; exact he ▸ List.getElem_mem hi, rfl⟩
    · simp only [go_sem, r_block, f0, f1, f5, next64 (show i < 9223372036854775807 by omega)]
      refine ⟨l.length - (i + 1), by omega, i + 1, rfl, by omega, rfl, ?_⟩
      rw [List.take_add_one, List.getElem?_eq_getElem hi]
      simp only [Option.toList, List.mem_append, List.mem_singleton, not_or]
      exact ⟨g, fun e => he e.symm⟩
  · simp only [go_sem, r_block, f0, f1, f5]
    rw [List.take_of_length_le (by simp at hlt; omega)] at g
    exact aRet_as (r := boo false) rfl ⟨by rw [decide_eq_false g], rfl⟩
end
end Go.Proofs.YthdfpankebjleaaGreat

/-
  What was bound stays bound; how many values there are.
  Conditions: none.
-/
namespace Go.Proofs.YthdfpankebjleaaGreat
open Go Go.Av

theorem look_more {v : ByteArray} {c : Cn} {k : List Bi} : ∀ {e : List Bi}, look e v = some c → look (e ++ k) v = some c
  | [], h => by cases h
  | x :: e, h => by
    rw [List.cons_append]
    unfold look at h ⊢
    split
    · rename_i h1; rw [if_pos h1] at h; exact h
    · rename_i h1; rw [if_neg h1] at h; exact look_more h
theorem val_more {t : Tm} {c : Cn} {e k : List Bi} (h : valF t e = some c) : valF t (e ++ k) = some c := by
  unfold valF at h ⊢
  split
  · rename_i h1; rw [if_pos h1] at h; cases h
  · rename_i h1
    rw [if_neg h1] at h
    split
    · rename_i h2; rw [if_pos h2] at h; exact h
    · rename_i h2; rw [if_neg h2] at h; exact look_more h
theorem uni_more {t : Tm} {c : Cn} {e e' : List Bi} (h : uniF t c e = some e') : ∃ k, e' = e ++ k := by
  unfold uniF at h
  split at h
  · split at h
    · injection h with h; exact ⟨[], by simp [h]⟩
    · cases h
  · split at h
    · cases h
    · injection h with h; exact ⟨_, h.symm⟩
theorem uni_val {t : Tm} {c : Cn} {e e' : List Bi} (h : uniF t c e = some e') : valF t e' = some c := by
  unfold uniF at h
  split at h
  · rename_i x hx
    split at h
    · rename_i h1
      injection h with h
      rw [← h, ← h1]; exact hx
    · cases h
  · rename_i hx
    split at h
    · cases h
    · rename_i h1
      injection h with h
      have hz : t ≠ .zero := fun e => h1 (by rw [e]; rfl)
      unfold valF at hx ⊢
      rw [if_neg hz, if_neg h1] at hx ⊢
      rw [← h, look_app, hx]
      simp
theorem uniS_more : ∀ {l : List (Tm × Cn)} {e e' : List Bi}, uniS l e = some e' → ∃ k, e' = e ++ k
  | [], e, e', h => by injection h with h; exact ⟨[], by simp [h]⟩
  | p :: l, e, e', h => by
    unfold uniS at h
    obtain ⟨e1, h1, h2⟩ := Option.bind_eq_some_iff.1 h
    obtain ⟨k1, rfl⟩ := uni_more h1
    obtain ⟨k2, rfl⟩ := uniS_more h2
    exact ⟨k1 ++ k2, by rw [List.append_assoc]⟩
theorem lit_more {ho : Tm} {l : Li} {f : Fa} {e e' : List Bi} (h : litF ho l f e = some e') : ∃ k, e' = e ++ k := by
  unfold litF at h
  split at h
  · exact uniS_more h
  · cases h
theorem vals_len : ∀ {l : List Tm} {env : List Bi} {a : List Cn}, valsF l env = some a → a.length = l.length
  | [], env, a, h => by injection h with h; subst h; rfl
  | t :: l, env, a, h => by
    unfold valsF at h
    split at h
    · obtain ⟨b, h1, rfl⟩ := Option.map_eq_some_iff.1 h
      rw [List.length_cons, List.length_cons, vals_len h1]
    · cases h
end Go.Proofs.YthdfpankebjleaaGreat

/-
  Is a derivation one by a rule?
  Conditions: none.
-/
namespace Go.Proofs.YthdfpankebjleaaGreat
open Go Go.Av

theorem chk_step {ho : Tm} {ls : List Li} {xs : List Fa} {e : List Bi} {i : Nat} (h1 : i < ls.length) (h2 : i < xs.length) : chkF ho (ls.drop i) (xs.drop i) e = (litF ho ls[i] xs[i] e).bind (chkF ho (ls.drop (i + 1)) (xs.drop (i + 1))) := by
  rw [List.drop_eq_getElem_cons h1, List.drop_eq_getElem_cons h2]; rfl
theorem chk_done {ho : Tm} {ls : List Li} {xs : List Fa} {e : List Bi} {i : Nat} (h1 : i = ls.length) (h2 : i = xs.length) : chkF ho (ls.drop i) (xs.drop i) e = some e := by
  rw [List.drop_eq_nil_of_le (by omega), List.drop_eq_nil_of_le (by omega)]; rfl
/-- Is it one? -/
def folF (r : Rl) (f : Fa) (xs : List Fa) : Bool := decide (((uniF r.ho (nmC f.by') []).bind fun e0 => (chkF r.ho r.bo xs e0).bind fun e => headF r e) = some f)
section
variable {σ : St}
theorem headF_sm {r : Rl} {env : List Bi} {f : Fa} (ha : r.ar.length ≤ 1000000) (h : headF r env = some f) : f.Sm := by
  unfold headF at h
  obtain ⟨b, _, h⟩ := Option.bind_eq_some_iff.1 h
  obtain ⟨a, _, h⟩ := Option.bind_eq_some_iff.1 h
  obtain ⟨l, hl, rfl⟩ := Option.map_eq_some_iff.1 h
  show l.length ≤ 1000000000
  rw [vals_len hl]
  omega
theorem follows_at (r : Rl) (d : De) (hr : r.S3) (ha : r.ar.length ≤ 1000000) (sh : d.hd.Sm) (hx : d.bo.length ≤ 1000000) : AT Tryz.prog 32 [.agg r.cs, .agg d.cs] σ fun v σ' => v = boo (folF r d.hd d.bo) ∧ σ' = σ := by
  refine AT.of_body Tryz.func32 rfl (by decide) (by kernel_rfl) (by kernel_rfl) (Nat.le_of_ble_eq_true rfl) ?_
  obtain ⟨hr1, hr2⟩ := hr
  have xl : (faC d.bo).length = d.bo.length := faC_len _
  simp only [go_sem]
  refine Ctx.nil.alloc fun p σ1 c1 => ?_
  simp only [go_sem]
  refine c1.alloc fun q σ2 c2 => ?_
  have hq := c2.g1.1.1
  have hp := c2.g1.1.2
  have hs := c2.sub
  have out : ∀ {fr : Fr} {σ' : St} {b : Bool}, (∀ y o, σ y = some o → σ' y = some o) → b = folF r d.hd d.bo → aResult Tryz.prog fr σ' (Tryz.f32).results.toList = some (boo b) → aRet Tryz.prog (fun v σ' => v = boo (folF r d.hd d.bo) ∧ σ' = σ) (Tryz.f32).results.toList fr σ' := fun h hb hr =>
    aRet_view hr _ σ (view_drop h) ⟨by rw [hb], rfl⟩
  clear c1 c2
  simp only [go_sem]
  refine aDraw_plan [.rd 0 false, .rd 1 true, .rd 2 false, .rd 3 false, .rd 4 true, .ef 5 [1], .ef 6 [], .rd 7 false, .rd 8 false, .rd 9 false, .rd 10 false, .rd 11 false] (by kernel_rfl) (by kernel_rfl) (by kernel_rfl) ?_
  simp only [go_sem, hp, hq]
  refine (text_at d.hd.by').mono ?_
  rintro _ σ2 ⟨rfl, rfl⟩
  simp only [go_sem]
  refine ⟨fun k hk => by simp only [go_sem, hp]
                         exact hk, (AT.weak (unify_at r.ho (nmC d.hd.by') [] (by simp)) (vws_same (vws_same (vws_cons (.nil 4) vws_nil)))).mono ?_⟩
  rintro _ σ2 ⟨rfl, rfl⟩
  cases hu : uniF r.ho (nmC d.hd.by') [] with
  | none =>
    have e : false = folF r d.hd d.bo := by unfold folF; rw [hu]; rfl
    simp only [go_sem, Option.isSome_none, Bool.not_false]
    exact out hs e rfl
  | some e0 =>
    have hel := uni_len hu
    simp only [List.length_nil] at hel
    have ef : folF r d.hd d.bo = decide (((chkF r.ho r.bo d.bo e0).bind fun e => headF r e) = some d.hd) := by unfold folF; rw [hu]; rfl
    by_cases h1 : r.bo.length = d.bo.length
    case neg =>
      have e : false = folF r d.hd d.bo := by
        rw [ef]
        cases hc : chkF r.ho r.bo d.bo e0 with
        | none => simp
        | some e => exact absurd (chk_len hc).symm h1
      have d1 : (!decide ((r.bo.length : Int) = d.bo.length)) = true := by rw [decide_eq_false (by omega)]; rfl
      simp only [go_sem, Option.isSome_some, Bool.not_true, hp, hq, d1]
      exact out hs e rfl
    case pos =>
    have d1 : (!decide ((r.bo.length : Int) = d.bo.length)) = false := by rw [decide_eq_true (by omega)]; rfl
    simp only [go_sem, r_block, Option.isSome_some, Bool.not_true, hp, hq, d1]
    refine ⟨fun m fr σ' => ∃ (i : Nat) (e : List Bi), m = r.bo.length - i ∧ i ≤ r.bo.length ∧ e.length ≤ 10 + 302 * i ∧ chkF r.ho (r.bo.drop i) (d.bo.drop i) e = chkF r.ho r.bo d.bo e0 ∧ (∀ y o, σ y = some o → σ' y = some o) ∧ σ' p = some (.cells r.cs) ∧ σ' q = some (.cells d.cs) ∧ fr 2 = ptr p ∧ fr 3 = ptr q ∧ fr 5 = .sl 4 (biC e) ∧ fr 32 = .sl 10 (liC r.bo) ∧ fr 33 = int r.bo.length ∧ fr 34 = int i, ⟨_, 0, e0, rfl, by omega, by omega, rfl, hs, hp, hq, rfl, rfl, rfl, rfl, rfl, rfl⟩, ?_⟩
    clear hs hp hq hel
    rintro m fr σ3 ⟨i, e, rfl, hi, hel, hc, hs, hp, hq, f2, f3, f5, f32, f33, f34⟩
    simp only [go_sem, f33, f34]
    refine aIf_by (fun hlt => ?_) (fun hlt => ?_)
    · have hil : i < r.bo.length := by omega
      have hix : i < d.bo.length := by omega
      have lg := liC_get hil
      have xg := faC_get hix
      have hla := hr2 _ (List.getElem_mem hil)
      rw [chk_step hil hix] at hc
      simp only [go_sem, r_block, f32, f34, lg]
      refine ⟨by omega, Ctx.nil.alloc fun t σ4 c4 => ?_⟩
      obtain ⟨σ5, e5, c5⟩ := c4.abs 0 rfl (.cells r.bo[i].cs)
      have ht := c5.g0
      have hp5 := c5.sub _ _ hp
      have hq5 := c5.sub _ _ hq
      have hs5 : ∀ y o, σ y = some o → σ5 y = some o := fun y o hy => c5.sub _ _ (hs y o hy)
      simp only at ht
      simp only [go_sem, r_block, c4.g0, e5]
      clear e5 c5 c4
      refine aDraw_plan [.rd 0 false, .rd 1 true, .rd 2 true, .rd 3 false, .rd 4 true, .rd 5 false, .rd 6 false, .rd 7 true, .rd 8 false, .ef 9 [], .rd 10 false, .rd 11 false, .rd 12 false, .rd 13 false, .rd 14 false] (by kernel_rfl) (by kernel_rfl) (by kernel_rfl) ?_
      simp only [go_sem, r_block, f2, f3, f5, hp5, hq5, ht, xg, xl]
      refine ⟨by omega, (lit_at r.ho r.bo[i] d.bo[i] e (by omega) (by omega)).mono ?_⟩
      rintro _ σ5 ⟨rfl, rfl⟩
      cases hl : litF r.ho r.bo[i] d.bo[i] e with
      | none =>
        rw [hl] at hc
        have e : false = folF r d.hd d.bo := by rw [ef, ← hc]; simp
        simp only [go_sem, r_block, Option.isSome_none, Bool.not_false]
        exact out hs5 e rfl
      | some e' =>
        rw [hl] at hc
        have hc' : chkF r.ho (r.bo.drop (i + 1)) (d.bo.drop (i + 1)) e' = chkF r.ho r.bo d.bo e0 := hc
        have := lit_len hl
        simp only [go_sem, r_block, Option.isSome_some, Bool.not_true, f2, f3, f32, f33, f34, next64 (show i < 9223372036854775807 by omega)]
        refine ⟨r.bo.length - (i + 1), by omega, i + 1, e', ?_⟩
        have hbl : e'.length ≤ 10 + 302 * (i + 1) := by omega
        (and_intros <;> first | assumption | rfl | omega)
    · rw [chk_done (by omega) (by omega)] at hc
      have ef2 : folF r d.hd d.bo = decide (headF r e = some d.hd) := by rw [ef, ← hc]; rfl
      simp only [go_sem, r_block, f2, f5, hp]
      refine (head_at r e ha (by omega)).mono ?_
      rintro _ σ3 ⟨rfl, rfl⟩
      simp only [go_sem]
      refine Ctx.nil.alloc fun t σ4 c4 => ?_
      obtain ⟨σ5, e5, c5⟩ := c4.abs 0 rfl (.cells ((headF r e).getD .nil).cs)
      have ht := c5.g0
      have hq5 := c5.sub _ _ hq
      have hs5 : ∀ y o, σ y = some o → σ5 y = some o := fun y o hy => c5.sub _ _ (hs y o hy)
      simp only at ht
      simp only [go_sem, c4.g0, e5]
      clear e5 c5 c4
      cases hh : headF r e with
      | none =>
        have e : false = folF r d.hd d.bo := by rw [ef2, hh]; rfl
        simp only [go_sem, Option.isSome_none]
        exact out hs5 e rfl
      | some f =>
        rw [hh] at ht
        have hf := headF_sm ha hh
        simp only [go_sem, Option.isSome_some, f3, ht, hq5, Option.getD_some]
        refine (cmpF_at f d.hd hf sh).mono ?_
        rintro _ σ5 ⟨rfl, rfl⟩
        have e : decide (cmpF f d.hd = 0) = folF r d.hd d.bo := by
          rw [ef2, hh]
          exact decide_eq_decide.2 ((cmpF_ord.zero _ _).trans ⟨fun h => by rw [h], fun h => Option.some.inj h⟩)
        simp only [go_sem]
        exact out hs5 e rfl
end
end Go.Proofs.YthdfpankebjleaaGreat

/-
  How the document writes a rule: only that it comes to an end, and leaves memory as it was. Letters, words.
  Conditions: none.
-/
namespace Go.Proofs.YthdfpankebjleaaGreat
open Go Go.Av

abbrev u8 (c : Int) : AV := .v (.int .u8 c)
/-- One truth value, whichever. -/
def AnyB (σ : St) (v : AV) (σ' : St) : Prop := (∃ b, v = boo b) ∧ σ' = σ
theorem AnyB.mk {σ : St} {b : Bool} : AnyB σ (boo b) σ := ⟨⟨b, rfl⟩, rfl⟩
/-- Whether a text is a word: then it is short. -/
def AnyW (s : ByteArray) (σ : St) (v : AV) (σ' : St) : Prop := (∃ b : Bool, v = boo b ∧ (b = true → s.size ≤ 32)) ∧ σ' = σ
theorem AnyW.no {s : ByteArray} {σ : St} : AnyW s σ (boo false) σ := ⟨⟨false, rfl, fun h => by cases h⟩, rfl⟩
section
variable {σ : St}
theorem letter_at (c a z : Int) : AT Tryz.prog 164 [u8 c, u8 a, u8 z] σ (AnyB σ) := by
  refine AT.of_body Tryz.func164 rfl (by decide) (by kernel_rfl) (by kernel_rfl) (Nat.le_of_ble_eq_true rfl) ?_
  by_cases h1 : a ≤ c
  · have d1 := decide_eq_true h1
    simp only [go_sem, d1]
    exact aRet_as (r := boo (decide (c ≤ z))) rfl .mk
  · have d1 := decide_eq_false h1
    simp only [go_sem, d1]
    exact aRet_as (r := boo false) rfl .mk
theorem small7_at (c : Int) : AT Tryz.prog 176 [u8 c] σ (AnyB σ) := by
  refine AT.of_body Tryz.func176 rfl (by decide) (by kernel_rfl) (by kernel_rfl) (Nat.le_of_ble_eq_true rfl) ?_
  by_cases h1 : 97 ≤ c
  · have d1 := decide_eq_true h1
    simp only [go_sem, d1]
    exact aRet_as (r := boo (decide (c ≤ 122))) rfl .mk
  · have d1 := decide_eq_false h1
    simp only [go_sem, d1]
    exact aRet_as (r := boo false) rfl .mk
theorem great7_at (c : Int) : AT Tryz.prog 177 [u8 c] σ (AnyB σ) := by
  refine AT.of_body Tryz.func177 rfl (by decide) (by kernel_rfl) (by kernel_rfl) (Nat.le_of_ble_eq_true rfl) ?_
  by_cases h1 : 65 ≤ c
  · have d1 := decide_eq_true h1
    simp only [go_sem, d1]
    exact aRet_as (r := boo (decide (c ≤ 90))) rfl .mk
  · have d1 := decide_eq_false h1
    simp only [go_sem, d1]
    exact aRet_as (r := boo false) rfl .mk
theorem digit7_at (c : Int) : AT Tryz.prog 178 [u8 c] σ (AnyB σ) := by
  refine AT.of_body Tryz.func178 rfl (by decide) (by kernel_rfl) (by kernel_rfl) (Nat.le_of_ble_eq_true rfl) ?_
  by_cases h1 : 48 ≤ c
  · have d1 := decide_eq_true h1
    simp only [go_sem, d1]
    exact aRet_as (r := boo (decide (c ≤ 57))) rfl .mk
  · have d1 := decide_eq_false h1
    simp only [go_sem, d1]
    exact aRet_as (r := boo false) rfl .mk
theorem inner_at (c : Int) : AT Tryz.prog 165 [u8 c] σ (AnyB σ) := by
  refine AT.of_body Tryz.func165 rfl (by decide) (by kernel_rfl) (by kernel_rfl) (Nat.le_of_ble_eq_true rfl) ?_
  simp only [go_sem]
  refine (small7_at c).mono ?_
  rintro _ σ ⟨⟨b1, rfl⟩, rfl⟩
  cases b1 with
  | true =>
    simp only [go_sem]
    exact aRet_as (r := boo true) rfl .mk
  | false =>
    simp only [go_sem]
    refine (great7_at c).mono ?_
    rintro _ σ ⟨⟨b2, rfl⟩, rfl⟩
    cases b2 with
    | true =>
      simp only [go_sem]
      exact aRet_as (r := boo true) rfl .mk
    | false =>
      simp only [go_sem]
      refine (digit7_at c).mono ?_
      rintro _ σ ⟨⟨b3, rfl⟩, rfl⟩
      cases b3 with
      | true =>
        simp only [go_sem]
        exact aRet_as (r := boo true) rfl .mk
      | false =>
        simp only [go_sem]
        exact aRet_as (r := boo (decide (c = 95))) rfl .mk
theorem kept_at (s : ByteArray) : AT Tryz.prog 166 [str s] σ (AnyB σ) := by
  refine AT.of_body Tryz.func166 rfl (by decide) (by kernel_rfl) (by kernel_rfl) (Nat.le_of_ble_eq_true rfl) ?_
  by_cases h1 : s = ⟨#[115, 97, 121, 115]⟩
  · have d1 := decide_eq_true h1
    simp only [go_sem, d1]
    exact aRet_as (r := boo true) rfl .mk
  · have d1 := decide_eq_false h1
    by_cases h2 : s = ⟨#[116, 111]⟩
    · have d2 := decide_eq_true h2
      simp only [go_sem, d1, d2]
      exact aRet_as (r := boo true) rfl .mk
    · have d2 := decide_eq_false h2
      simp only [go_sem, d1, d2]
      exact aRet_as (r := boo (decide (s = ⟨#[97, 116]⟩))) rfl .mk
theorem named_at (s : ByteArray) (a z : Int) : AT Tryz.prog 129 [str s, u8 a, u8 z] σ (AnyW s σ) := by
  refine AT.of_body Tryz.func129 rfl (by decide) (by kernel_rfl) (by kernel_rfl) (Nat.le_of_ble_eq_true rfl) ?_
  by_cases h1 : (s.size : Int) < 1
  · have d1 := decide_eq_true h1
    simp only [go_sem, d1]
    exact aRet_as (r := boo false) rfl .no
  · have d1 := decide_eq_false h1
    by_cases h2 : 32 < (s.size : Int)
    · have d2 := decide_eq_true h2
      simp only [go_sem, d1, d2]
      exact aRet_as (r := boo false) rfl .no
    · have d2 := decide_eq_false h2
      simp only [go_sem, d1, d2]
      refine ⟨by omega, (letter_at _ a z).mono ?_⟩
      rintro _ σ ⟨⟨b1, rfl⟩, rfl⟩
      cases b1 with
      | false =>
        simp only [go_sem, Bool.not_false]
        exact aRet_as (r := boo false) rfl .no
      | true =>
        simp only [go_sem, r_block, Bool.not_true]
        refine ⟨fun m fr σ' => ∃ i : Nat, m = s.size - i ∧ i ≤ s.size ∧ σ' = σ ∧ fr 0 = str s ∧ fr 7 = int i, ⟨_, 0, rfl, by omega, rfl, rfl, rfl⟩, ?_⟩
        rintro m fr σ ⟨i, rfl, hi, rfl, f0, f7⟩
        simp only [go_sem, f0, f7]
        refine aIf_by (fun hlt => ?_) (fun hlt => ?_)
        · simp only [go_sem, r_block, f0, f7]
          refine ⟨by omega, (inner_at _).mono ?_⟩
          rintro _ σ ⟨⟨b2, rfl⟩, rfl⟩
          cases b2 with
          | false =>
            simp only [go_sem, r_block, Bool.not_false]
            exact aRet_as (r := boo false) rfl .no
          | true =>
            simp only [go_sem, r_block, Bool.not_true, f0, f7, next64 (show i < 9223372036854775807 by omega)]
            refine ⟨s.size - (i + 1), by omega, i + 1, ?_⟩
            (and_intros <;> first | assumption | rfl | omega)
        · simp only [go_sem, r_block]
          exact aRet_as (r := boo true) rfl ⟨⟨true, rfl, fun _ => by omega⟩, rfl⟩
theorem word_at (s : ByteArray) : AT Tryz.prog 132 [str s] σ (AnyW s σ) := by
  refine AT.of_body Tryz.func132 rfl (by decide) (by kernel_rfl) (by kernel_rfl) (Nat.le_of_ble_eq_true rfl) ?_
  simp only [go_sem]
  refine (named_at s 97 122).mono ?_
  rintro _ σ ⟨⟨b1, rfl, hb⟩, rfl⟩
  cases b1 with
  | false =>
    simp only [go_sem]
    exact aRet_as (r := boo false) rfl .no
  | true =>
    simp only [go_sem]
    refine (kept_at s).mono ?_
    rintro _ σ ⟨⟨b2, rfl⟩, rfl⟩
    simp only [go_sem]
    exact aRet_as (r := boo (!b2)) rfl ⟨⟨_, rfl, fun _ => hb rfl⟩, rfl⟩
theorem plain7_at (c : Int) : AT Tryz.prog 131 [u8 c] σ (AnyB σ) := by
  refine AT.of_body Tryz.func131 rfl (by decide) (by kernel_rfl) (by kernel_rfl) (Nat.le_of_ble_eq_true rfl) ?_
  by_cases h1 : 32 ≤ c
  · have d1 := decide_eq_true h1
    by_cases h2 : c ≤ 126
    · have d2 := decide_eq_true h2
      by_cases h3 : c = 34
      · have d3 := decide_eq_true h3
        simp only [go_sem, d1, d2, d3, Bool.not_true]
        exact aRet_as (r := boo false) rfl .mk
      · have d3 := decide_eq_false h3
        simp only [go_sem, d1, d2, d3, Bool.not_false]
        exact aRet_as (r := boo (!decide (c = 92))) rfl .mk
    · have d2 := decide_eq_false h2
      simp only [go_sem, d1, d2]
      exact aRet_as (r := boo false) rfl .mk
  · have d1 := decide_eq_false h1
    simp only [go_sem, d1]
    exact aRet_as (r := boo false) rfl .mk
theorem number_at (t : Tm) : AT Tryz.prog 103 [.agg t.cs] σ (AnyB σ) := by
  refine AT.of_body Tryz.func103 rfl (by decide) (by kernel_rfl) (by kernel_rfl) (Nat.le_of_ble_eq_true rfl) ?_
  have e0 : t.cs.getD 0 (.v undef) = str t.v := rfl
  have e1 : t.cs.getD 1 (.v undef) = boo t.b := rfl
  simp only [go_sem]
  refine Ctx.nil.alloc fun p σ1 c1 => ?_
  by_cases h1 : t.v = emp
  · have d1 := decide_eq_true h1
    simp only [go_sem, c1.g0, e0, e1, d1]
    exact aRet_view (r := boo t.b) rfl _ σ (c1.view _) .mk
  · have d1 := decide_eq_false h1
    simp only [go_sem, c1.g0, e0, e1, d1]
    exact aRet_view (r := boo false) rfl _ σ (c1.view _) .mk
end
end Go.Proofs.YthdfpankebjleaaGreat

/-
  How the document writes a rule: numbers, terms, atoms.
  Conditions: none.
-/
namespace Go.Proofs.YthdfpankebjleaaGreat
open Go Go.Av

/-- A text of at most so many letters; and beside it an error; and whether. -/
def AnyS (n : Nat) (σ : St) (v : AV) (σ' : St) : Prop := (∃ s : ByteArray, v = str s ∧ s.size ≤ n) ∧ σ' = σ
def AnySE (n : Nat) (σ : St) (v : AV) (σ' : St) : Prop := (∃ (s : ByteArray) (e : Int), v = .tup [str s, int e] ∧ s.size ≤ n) ∧ σ' = σ
def AnySB (n : Nat) (σ : St) (v : AV) (σ' : St) : Prop := (∃ (s : ByteArray) (b : Bool), v = .tup [str s, boo b] ∧ s.size ≤ n) ∧ σ' = σ
section
variable {σ : St}
theorem none9_at (t : Tm) : AT Tryz.prog 133 [.agg t.cs] σ (AnyB σ) := by
  refine AT.of_body Tryz.func133 rfl (by decide) (by kernel_rfl) (by kernel_rfl) (Nat.le_of_ble_eq_true rfl) ?_
  simp only [go_sem]
  refine Ctx.nil.alloc fun p σ1 c1 => ?_
  simp only [go_sem, c1.g0]
  refine tm_eq ?_
  simp only [go_sem]
  exact aRet_view (r := boo (decide (t = .zero))) rfl _ σ (c1.view _) .mk
theorem wrap_bd (x : Int) : (IntKind.i64.wrap x).natAbs ≤ 2 ^ 63 := by
  simp [IntKind.wrap, IntKind.signed, IntKind.bits]
  omega
theorem one_size (x : Int) (s : ByteArray) : (strOf [[u8 x]] ++ s).size = 1 + s.size := by
  rw [ByteArray.size_append]; rfl
theorem one_ne (x : Int) (s : ByteArray) : strOf [[u8 x]] ++ s ≠ emp := fun h => by
  have := congrArg ByteArray.size h
  rw [one_size] at this
  have e : emp.size = 0 := rfl
  omega
/-- What holds ahead of each round. -/
def DgI (k : Int) (s : ByteArray) (m : Nat) : Prop := m = 2 ^ 70 ∧ s = emp ∨ k.natAbs ≤ 2 ^ 63 ∧ m = 2 * k.natAbs + (if s = emp then 1 else 0) ∧ k.natAbs * 10 ^ s.size ≤ 2 ^ 63 * 10 ∧ s.size ≤ 20
theorem DgI.next {k : Int} {s : ByteArray} {m : Nat} (h : DgI k s m) (hg : ¬ (k = 0 ∧ s ≠ emp)) (x : Int) : ((strOf [[u8 x]]).size + s.size : Nat) ≤ 9223372036854775807 ∧ ∃ m', m' < m ∧ DgI (IntKind.i64.wrap (k.tdiv 10)) (strOf [[u8 x]] ++ s) m' := by
  have e1 : (strOf [[u8 x]]).size = 1 := rfl
  have hb := wrap_bd (k.tdiv 10)
  have hne := one_ne x s
  have hsz := one_size x s
  rcases h with ⟨rfl, rfl⟩ | ⟨h1, h2, h3, h5⟩
  · have e : emp.size = 0 := rfl
    refine ⟨by omega, 2 * (IntKind.i64.wrap (k.tdiv 10)).natAbs, by omega, .inr ⟨hb, by rw [if_neg hne]; rfl, by rw [hsz, e]; simp only [Nat.add_zero, Nat.pow_one]; omega, by omega⟩⟩
  · have hna : (k.tdiv 10).natAbs = k.natAbs / 10 := by rw [Int.natAbs_tdiv]; rfl
    have hb2 : (k.tdiv 10).natAbs ≤ 2 ^ 62 := by rw [hna]; omega
    have hw : IntKind.i64.wrap (k.tdiv 10) = k.tdiv 10 := by
      generalize k.tdiv 10 = c at hb2 ⊢
      exact wrap64 (by omega)
    rw [hw]
    by_cases hk : k = 0
    · have hs : s = emp := Classical.byContradiction fun h => hg ⟨hk, h⟩
      subst hk
      have e : s.size = 0 := by rw [hs]; rfl
      refine ⟨by omega, 0, ?_, .inr ⟨by simp, by rw [if_neg hne]; simp, by simp, by omega⟩⟩
      rw [h2, if_pos hs]; simp
    · have hkp : 0 < k.natAbs := by omega
      have h4 : s.size < 20 := by
        refine Classical.byContradiction fun hn => ?_
        have h6 : 10 ^ 20 ≤ 10 ^ s.size := Nat.pow_le_pow_right (by omega) (by omega)
        have h7 : 1 * 10 ^ s.size ≤ k.natAbs * 10 ^ s.size := Nat.mul_le_mul_right _ hkp
        omega
      refine ⟨by omega, 2 * (k.natAbs / 10), ?_, .inr ⟨by omega, by rw [if_neg hne, hna]; rfl, ?_, by omega⟩⟩
      · split at h2 <;> omega
      · rw [hna, hsz, Nat.pow_add, Nat.pow_one, ← Nat.mul_assoc]
        exact Nat.le_trans (Nat.mul_le_mul_right _ (Nat.div_mul_le_self _ _)) h3
theorem digits_at (n : Int) : AT Tryz.prog 130 [int n] σ (AnyS 21 σ) := by
  refine AT.of_body Tryz.func130 rfl (by decide) (by kernel_rfl) (by kernel_rfl) (Nat.le_of_ble_eq_true rfl) ?_
  simp only [go_sem, r_block]
  refine ⟨fun m fr σ' => ∃ (k : Int) (s : ByteArray), DgI k s m ∧ σ' = σ ∧ fr 0 = int n ∧ fr 3 = str s ∧ fr 4 = int k, ⟨_, n, emp, .inl ⟨rfl, rfl⟩, rfl, rfl, rfl, rfl⟩, ?_⟩
  rintro m fr σ ⟨k, s, hm, rfl, f0, f3, f4⟩
  by_cases hg : k = 0 ∧ s ≠ emp
  · have d1 := decide_eq_true hg.1
    have d2 := decide_eq_false hg.2
    have hsz : s.size ≤ 20 := by
      rcases hm with ⟨_, h⟩ | ⟨_, _, _, h⟩
      · exact absurd h hg.2
      · exact h
    simp only [go_sem, r_block, f0, f3, f4, d1, d2, Bool.not_true]
    refine aIf_by (fun h => ?_) (fun h => ?_)
    · simp only [go_sem, r_block, f3]
      have e : (⟨#[45]⟩ : ByteArray).size = 1 := rfl
      have e' : (#[45] : Array UInt8).size = 1 := rfl
      exact ⟨by omega, aRet_as rfl ⟨⟨_, rfl, by rw [ByteArray.size_append]; omega⟩, rfl⟩⟩
    · simp only [go_sem, r_block, f3]
      exact aRet_as rfl ⟨⟨_, rfl, by omega⟩, rfl⟩
  · have hc : ∀ (G : Prop), (decide (k = 0) = false → G) → (decide (k = 0) = true → decide (s = emp) = true → G) → G := fun G a b => by
      by_cases h : k = 0
      · exact b (decide_eq_true h) (decide_eq_true (Classical.byContradiction fun h2 => hg ⟨h, h2⟩))
      · exact a (decide_eq_false h)
    have fin : ∀ x : Int, ∃ es, vlook 1 σ (AV.fsl 1 [[u8 x]]) = some es ∧ es.all isByte = true ∧ (strOf es).size + s.size ≤ 9223372036854775807 ∧ ∃ m', m' < m ∧ ∃ (k' : Int) (s' : ByteArray), DgI k' s' m' ∧ AV.v (Value.string (strOf es ++ s)) = str s' ∧ AV.v (Value.int IntKind.i64 (IntKind.i64.wrap (k.tdiv 10))) = int k' := fun x => by
      obtain ⟨h1, m', h2, h3⟩ := hm.next hg x
      exact ⟨_, rfl, rfl, h1, m', h2, _, _, h3, rfl, rfl⟩
    refine hc _ (fun d1 => ?_) (fun d1 d2 => ?_)
    · simp only [go_sem, r_block, f0, f3, f4, d1, Bool.not_false]
      refine aIf_by (fun h0 => ?_) (fun h0 => ?_)
      · simp only [go_sem, r_block, f0, f3, f4]
        exact fin _
      · simp only [go_sem, r_block, f0, f3, f4]
        exact fin _
    · simp only [go_sem, r_block, f0, f3, f4, d1, d2, Bool.not_true]
      refine aIf_by (fun h0 => ?_) (fun h0 => ?_)
      · simp only [go_sem, r_block, f0, f3, f4]
        exact fin _
      · simp only [go_sem, r_block, f0, f3, f4]
        exact fin _
theorem term_at (t : Tm) : AT Tryz.prog 100 [.agg t.cs] σ (AnySE 34 σ) := by
  refine AT.of_body Tryz.func100 rfl (by decide) (by kernel_rfl) (by kernel_rfl) (Nat.le_of_ble_eq_true rfl) ?_
  have e0 : t.cs.getD 0 (.v undef) = str t.v := rfl
  have eV : (t.cs.drop 1).take 3 = t.val.cs := rfl
  have no : ∀ {fr : Fr} {σ1 : St}, (∀ x o, σ x = some o → σ1 x = some o) → ∀ {e : Int}, aResult Tryz.prog fr σ1 (Tryz.f100).results.toList = some (.tup [str emp, int e]) → aRet Tryz.prog (AnySE 34 σ) (Tryz.f100).results.toList fr σ1 := fun hs e hr =>
    aRet_view hr _ σ (view_drop hs) ⟨⟨emp, e, rfl, Nat.zero_le _⟩, rfl⟩
  simp only [go_sem]
  refine Ctx.nil.alloc fun p σ1 c1 => ?_
  by_cases h1 : t.v = emp
  · have d1 : (!decide (t.v = emp)) = false := by rw [decide_eq_true h1]; rfl
    simp only [go_sem, c1.g0, e0, eV, d1]
    refine c1.alloc fun q σ2 c2 => ?_
    obtain ⟨σ3, e3, c3⟩ := c2.abs 0 rfl (.cells [boo t.b, int t.n, str t.s])
    have h3 : σ3 q = some (.cells [boo t.b, int t.n, str t.s]) := c3.g0
    have hs3 := c3.sub
    have eC : t.val.cs = [boo t.b, int t.n, str t.s] := rfl
    simp only [go_sem, c2.g1, eC, e3, h3]
    clear c3 c2 c1 e3
    cases hb : t.b with
    | true =>
      rw [hb] at h3
      by_cases h2 : t.s = emp
      · have d2 : (!decide (t.s = emp)) = false := by rw [decide_eq_true h2]; rfl
        simp only [go_sem, h3, d2]
        refine (digits_at t.n).mono ?_
        rintro _ σ3 ⟨⟨s, rfl, hz⟩, rfl⟩
        simp only [go_sem]
        exact aRet_view rfl _ σ (view_drop hs3) ⟨⟨s, 0, rfl, by omega⟩, rfl⟩
      · have d2 : (!decide (t.s = emp)) = true := by rw [decide_eq_false h2]; rfl
        simp only [go_sem, h3, d2]
        exact no hs3 rfl
    | false =>
      rw [hb] at h3
      by_cases h2 : t.n = 0
      · have d2 : (!decide (t.n = 0)) = false := by rw [decide_eq_true h2]; rfl
        by_cases h4 : (t.s.size : Int) < 1
        · have d4 := decide_eq_true h4
          simp only [go_sem, h3, d2, d4]
          exact no hs3 rfl
        · have d4 := decide_eq_false h4
          by_cases h5 : 32 < (t.s.size : Int)
          · have d5 := decide_eq_true h5
            simp only [go_sem, h3, d2, d4, d5]
            exact no hs3 rfl
          · have d5 := decide_eq_false h5
            simp only [go_sem, r_block, h3, d2, d4, d5]
            refine ⟨fun m fr σ' => ∃ i : Nat, m = t.s.size - i ∧ i ≤ t.s.size ∧ σ' = σ3 ∧ fr 4 = ptr q ∧ fr 5 = int i, ⟨_, 0, rfl, by omega, rfl, rfl, rfl⟩, ?_⟩
            rintro m fr σ3 ⟨i, rfl, hi, rfl, f4, f5⟩
            simp only [go_sem, f4, f5, h3]
            refine aIf_by (fun hlt => ?_) (fun hlt => ?_)
            · simp only [go_sem, r_block, f4, f5, h3]
              refine ⟨by omega, (plain7_at _).mono ?_⟩
              rintro _ σ3 ⟨⟨b, rfl⟩, rfl⟩
              cases b with
              | false =>
                simp only [go_sem, r_block, Bool.not_false]
                exact no hs3 rfl
              | true =>
                simp only [go_sem, r_block, Bool.not_true, f4, f5, next64 (show i < 9223372036854775807 by omega)]
                refine ⟨t.s.size - (i + 1), by omega, i + 1, ?_⟩
                (and_intros <;> first | assumption | rfl | omega)
            · simp only [go_sem, r_block, f4, h3]
              refine (word_at t.s).mono ?_
              rintro _ σ3 ⟨⟨b, rfl, _⟩, rfl⟩
              cases b with
              | true =>
                simp only [go_sem, r_block, f4, h3]
                exact aRet_view rfl _ σ (view_drop hs3) ⟨⟨t.s, 0, rfl, by omega⟩, rfl⟩
              | false =>
                simp only [go_sem, r_block, f4, h3]
                have e' : (#[34] : Array UInt8).size = 1 := rfl
                have e'' : (⟨#[34]⟩ : ByteArray).size = 1 := rfl
                refine ⟨by omega, by omega, aRet_view rfl _ σ (view_drop hs3) ⟨⟨_, 0, rfl, ?_⟩, rfl⟩⟩
                rw [ByteArray.size_append, ByteArray.size_append]
                omega
      · have d2 : (!decide (t.n = 0)) = true := by rw [decide_eq_false h2]; rfl
        simp only [go_sem, h3, d2]
        exact no hs3 rfl
  · have d1 : (!decide (t.v = emp)) = true := by rw [decide_eq_false h1]; rfl
    simp only [go_sem, c1.g0, e0, eV, d1]
    refine cn_ne (b := .zero) ?_
    by_cases h2 : t.val = .zero
    · have d2 : (!decide (t.val = .zero)) = false := by rw [decide_eq_true h2]; rfl
      simp only [go_sem, d2, c1.g0, e0]
      refine (named_at t.v 65 90).mono ?_
      rintro _ σ1 ⟨⟨b, rfl, hb⟩, rfl⟩
      cases b with
      | false =>
        simp only [go_sem, Bool.not_false]
        exact no c1.sub rfl
      | true =>
        simp only [go_sem, Bool.not_true, c1.g0, e0]
        exact aRet_view rfl _ σ (c1.view _) ⟨⟨t.v, 0, rfl, Nat.le_trans (hb rfl) (by decide)⟩, rfl⟩
    · have d2 : (!decide (t.val = .zero)) = true := by rw [decide_eq_false h2]; rfl
      simp only [go_sem, d2]
      exact no c1.sub rfl
theorem maybe_at (a : ByteArray) (t : Tm) (z : ByteArray) (ha : a.size ≤ 10) (hz : z.size ≤ 10) : AT Tryz.prog 102 [str a, .agg t.cs, str z] σ (AnySB 54 σ) := by
  refine AT.of_body Tryz.func102 rfl (by decide) (by kernel_rfl) (by kernel_rfl) (Nat.le_of_ble_eq_true rfl) ?_
  simp only [go_sem]
  refine Ctx.nil.alloc fun p σ1 c1 => ?_
  simp only [go_sem, c1.g0]
  refine (none9_at t).mono ?_
  rintro _ σ1 ⟨⟨b, rfl⟩, rfl⟩
  cases b with
  | true =>
    simp only [go_sem]
    exact aRet_view rfl _ σ (c1.view _) ⟨⟨emp, true, rfl, Nat.zero_le _⟩, rfl⟩
  | false =>
    simp only [go_sem, c1.g0]
    refine (term_at t).mono ?_
    rintro _ σ1 ⟨⟨s, e, rfl, hs⟩, rfl⟩
    simp only [go_sem]
    have h1 : (a ++ s).size = a.size + s.size := ByteArray.size_append
    refine ⟨by omega, by omega, aRet_view rfl _ σ (c1.view _) ⟨⟨a ++ s ++ z, decide (e = 0), rfl, ?_⟩, rfl⟩⟩
    rw [ByteArray.size_append]
    omega
theorem atom_at (nm : ByteArray) (l : List Tm) (hl : l.length ≤ 1000000) : AT Tryz.prog 101 [str nm, .sl 4 (tmC l)] σ (AnySB 1000 σ) := by
  refine AT.of_body Tryz.func101 rfl (by decide) (by kernel_rfl) (by kernel_rfl) (Nat.le_of_ble_eq_true rfl) ?_
  simp only [go_sem]
  refine (word_at nm).mono ?_
  rintro _ σ ⟨⟨b, rfl, hb⟩, rfl⟩
  cases b with
  | false =>
    simp only [go_sem, Bool.not_false]
    exact aRet_as rfl ⟨⟨emp, false, rfl, Nat.zero_le _⟩, rfl⟩
  | true =>
    have hb := hb rfl
    by_cases h4 : 4 < (l.length : Int)
    · have d4 := decide_eq_true h4
      simp only [go_sem, Bool.not_true, d4]
      exact aRet_as rfl ⟨⟨emp, false, rfl, Nat.zero_le _⟩, rfl⟩
    · have d4 := decide_eq_false h4
      simp only [go_sem, r_block, Bool.not_true, d4]
      have e1 : (#[40] : Array UInt8).size = 1 := rfl
      have e1' : (⟨#[40]⟩ : ByteArray).size = 1 := rfl
      have e2 : (#[44, 32] : Array UInt8).size = 2 := rfl
      have e2' : (⟨#[44, 32]⟩ : ByteArray).size = 2 := rfl
      have e3 : (#[41] : Array UInt8).size = 1 := rfl
      have e3' : (⟨#[41]⟩ : ByteArray).size = 1 := rfl
      refine ⟨by omega, fun m fr σ' => ∃ (i : Nat) (s : ByteArray), m = l.length - i ∧ i ≤ l.length ∧ σ' = σ ∧ s.size ≤ 40 + 40 * i ∧ fr 1 = .sl 4 (tmC l) ∧ fr 6 = str s ∧ fr 7 = int i, ⟨_, 0, _, rfl, by omega, rfl, by rw [ByteArray.size_append]; omega, rfl, rfl, rfl⟩, ?_⟩
      rintro m fr σ ⟨i, s, rfl, hi, rfl, hs, f1, f6, f7⟩
      simp only [go_sem, f1, f7]
      refine aIf_by (fun hlt => ?_) (fun hlt => ?_)
      · have hil : i < l.length := by omega
        simp only [go_sem, r_block, f1, f7, tmC_get hil]
        refine ⟨by omega, (term_at l[i]).mono ?_⟩
        rintro _ σ ⟨⟨x, e, rfl, hx⟩, rfl⟩
        by_cases he : e = 0
        · have d5 : (!decide (e = 0)) = false := by rw [decide_eq_true he]; rfl
          by_cases h0 : 0 < (i : Int)
          · have d6 := decide_eq_true h0
            simp only [go_sem, r_block, d5, d6, f1, f6, f7, next64 (show i < 9223372036854775807 by omega)]
            have h7 : (s ++ ⟨#[44, 32]⟩ : ByteArray).size = s.size + 2 := by rw [ByteArray.size_append, e2']
            refine ⟨by omega, by omega, l.length - (i + 1), by omega, i + 1, _, rfl, by omega, ?_, rfl, rfl⟩
            rw [ByteArray.size_append, h7]
            omega
          · have d6 := decide_eq_false h0
            simp only [go_sem, r_block, d5, d6, f1, f6, f7, next64 (show i < 9223372036854775807 by omega)]
            refine ⟨by omega, l.length - (i + 1), by omega, i + 1, _, rfl, by omega, ?_, rfl, rfl⟩
            rw [ByteArray.size_append]
            omega
        · have d5 : (!decide (e = 0)) = true := by rw [decide_eq_false he]; rfl
          simp only [go_sem, r_block, d5]
          exact aRet_as rfl ⟨⟨emp, false, rfl, Nat.zero_le _⟩, rfl⟩
      · simp only [go_sem, r_block, f6]
        refine ⟨by omega, aRet_as rfl ⟨⟨_, true, rfl, ?_⟩, rfl⟩⟩
        rw [ByteArray.size_append]
        omega
end
end Go.Proofs.YthdfpankebjleaaGreat

/-
  How the document writes a rule: the whole.
  Conditions: none.
-/
namespace Go.Proofs.YthdfpankebjleaaGreat
open Go Go.Av

section
variable {σ : St}
theorem rule9_at (r : Rl) (hr : r.S3) (ha : r.ar.length ≤ 1000000) : AT Tryz.prog 53 [.agg r.cs] σ (AnySE 100000 σ) := by
  refine AT.of_body Tryz.func53 rfl (by decide) (by kernel_rfl) (by kernel_rfl) (Nat.le_of_ble_eq_true rfl) ?_
  obtain ⟨hr1, hr2⟩ := hr
  simp only [go_sem]
  refine Ctx.nil.alloc fun p σ1 c1 => ?_
  have hp := c1.g0
  have hs := c1.sub
  have no : ∀ {fr : Fr} {e : Int}, aResult Tryz.prog fr σ1 (Tryz.f53).results.toList = some (.tup [str emp, int e]) → aRet Tryz.prog (AnySE 100000 σ) (Tryz.f53).results.toList fr σ1 := fun hr =>
    aRet_view hr _ σ (view_drop hs) ⟨⟨emp, _, rfl, Nat.zero_le _⟩, rfl⟩
  clear c1
  by_cases h1 : (r.bo.length : Int) < 1
  · have d1 := decide_eq_true h1
    simp only [go_sem, hp, d1]
    exact no rfl
  · have d1 := decide_eq_false h1
    by_cases h2 : 4 < (r.bo.length : Int)
    · have d2 := decide_eq_true h2
      simp only [go_sem, hp, d1, d2]
      exact no rfl
    · have d2 := decide_eq_false h2
      simp only [go_sem, hp, d1, d2]
      refine (term_at r.ho).mono ?_
      rintro _ σ1 ⟨⟨x1, e1, rfl, z1⟩, rfl⟩
      simp only [go_sem, hp]
      refine (atom_at r.nm r.ar ha).mono ?_
      rintro _ σ1 ⟨⟨x2, b2, rfl, z2⟩, rfl⟩
      simp only [go_sem, hp]
      refine (maybe_at ⟨#[32, 116, 111, 32]⟩ r.at' ⟨#[]⟩ (by decide) (by decide)).mono ?_
      rintro _ σ1 ⟨⟨x3, b3, rfl, z3⟩, rfl⟩
      by_cases he : e1 = 0
      · have d3 : (!decide (e1 = 0)) = false := by rw [decide_eq_true he]; rfl
        cases b2 with
        | false =>
          simp only [go_sem, d3, Bool.not_false]
          exact no rfl
        | true =>
          cases b3 with
          | false =>
            simp only [go_sem, d3, Bool.not_true, Bool.not_false]
            exact no rfl
          | true =>
            simp only [go_sem, r_block, d3, Bool.not_true, hp]
            have q2 : (#[58, 32] : Array UInt8).size = 2 := rfl
            have q2' : (⟨#[58, 32]⟩ : ByteArray).size = 2 := rfl
            have q4 : (#[32, 58, 45, 32] : Array UInt8).size = 4 := rfl
            have q4' : (⟨#[32, 58, 45, 32]⟩ : ByteArray).size = 4 := rfl
            have q5 : (#[44, 32] : Array UInt8).size = 2 := rfl
            have q5' : (⟨#[44, 32]⟩ : ByteArray).size = 2 := rfl
            have q6 : (#[46] : Array UInt8).size = 1 := rfl
            have q6' : (⟨#[46]⟩ : ByteArray).size = 1 := rfl
            refine ⟨by omega, by omega, by omega, by omega, fun m fr σ' => ∃ (i : Nat) (s : ByteArray), m = r.bo.length - i ∧ i ≤ r.bo.length ∧ σ' = σ1 ∧ s.size ≤ 2000 + 2000 * i ∧ fr 1 = ptr p ∧ fr 10 = str s ∧ fr 11 = int i, ⟨_, 0, _, rfl, by omega, rfl, by rw [ByteArray.size_append, ByteArray.size_append, ByteArray.size_append, ByteArray.size_append]; omega, rfl, rfl, rfl⟩, ?_⟩
            rintro m fr σ1 ⟨i, s, rfl, hi, rfl, hsz, f1, f10, f11⟩
            simp only [go_sem, f1, f11, hp]
            refine aIf_by (fun hlt => ?_) (fun hlt => ?_)
            · have hil : i < r.bo.length := by omega
              have hla := hr2 _ (List.getElem_mem hil)
              have lg := liC_get hil
              simp only [go_sem, r_block, f1, f11, hp, lg]
              refine ⟨by omega, (maybe_at ⟨#[]⟩ r.bo[i].by' ⟨#[32, 115, 97, 121, 115, 32]⟩ (by decide) (by decide)).mono ?_⟩
              rintro _ σ1 ⟨⟨y1, c1, rfl, w1⟩, rfl⟩
              simp only [go_sem, r_block, f1, f11, hp, lg]
              refine aDraw_plan [.rd 0 false, .rd 1 true, .rd 2 false, .rd 3 false, .rd 4 false, .rd 5 true, .rd 6 false, .rd 7 true, .rd 8 false, .rd 9 false, .rd 10 false, .rd 11 true, .ef 12 [], .rd 13 false, .rd 14 false, .rd 15 false, .rd 16 false, .rd 17 false] (by kernel_rfl) (by kernel_rfl) (by kernel_rfl) ?_
              simp only [go_sem, r_block, f1, f11, hp, lg]
              refine ⟨by omega, by omega, (atom_at r.bo[i].nm r.bo[i].ar (by omega)).mono ?_⟩
              rintro _ σ1 ⟨⟨y2, c2, rfl, w2⟩, rfl⟩
              simp only [go_sem, r_block, f1, f11, hp, lg]
              refine ⟨by omega, (maybe_at ⟨#[32, 97, 116, 32]⟩ r.bo[i].at' ⟨#[]⟩ (by decide) (by decide)).mono ?_⟩
              rintro _ σ1 ⟨⟨y3, c3, rfl, w3⟩, rfl⟩
              cases c1 with
              | false =>
                simp only [go_sem, r_block, Bool.not_false]
                exact no rfl
              | true =>
                cases c2 with
                | false =>
                  simp only [go_sem, r_block, Bool.not_true, Bool.not_false]
                  exact no rfl
                | true =>
                  cases c3 with
                  | false =>
                    simp only [go_sem, r_block, Bool.not_true, Bool.not_false]
                    exact no rfl
                  | true =>
                    by_cases h0 : 0 < (i : Int)
                    · have d6 := decide_eq_true h0
                      simp only [go_sem, r_block, Bool.not_true, d6, f1, f10, f11, next64 (show i < 9223372036854775807 by omega)]
                      refine ⟨by omega, by omega, by omega, by omega, r.bo.length - (i + 1), by omega, i + 1, _, rfl, by omega, ?_, rfl, rfl⟩
                      rw [ByteArray.size_append, ByteArray.size_append, ByteArray.size_append, ByteArray.size_append]
                      omega
                    · have d6 := decide_eq_false h0
                      simp only [go_sem, r_block, Bool.not_true, d6, f1, f10, f11, next64 (show i < 9223372036854775807 by omega)]
                      refine ⟨by omega, by omega, by omega, r.bo.length - (i + 1), by omega, i + 1, _, rfl, by omega, ?_, rfl, rfl⟩
                      rw [ByteArray.size_append, ByteArray.size_append, ByteArray.size_append]
                      omega
            · simp only [go_sem, r_block, f10]
              refine ⟨by omega, aRet_view rfl _ σ (view_drop hs) ⟨⟨_, 0, rfl, ?_⟩, rfl⟩⟩
              rw [ByteArray.size_append]
              omega
      · have d3 : (!decide (e1 = 0)) = true := by rw [decide_eq_false he]; rfl
        simp only [go_sem, d3]
        exact no rfl
end
end Go.Proofs.YthdfpankebjleaaGreat

/-
  Is a program a good one, as the document asks: only that it comes to an end, and leaves memory as it was.
  Conditions: none.
-/
namespace Go.Proofs.YthdfpankebjleaaGreat
open Go Go.Av

/-- Some list of at most so many texts, seen as such. -/
def AnyT (n : Nat) (σ : St) (v : AV) (σ' : St) : Prop := (∃ l : List ByteArray, v = .sl 1 (stC l) ∧ l.length ≤ n) ∧ σ' = σ
def AnyI (σ : St) (v : AV) (σ' : St) : Prop := (∃ k : Int, v = int k) ∧ σ' = σ
section
variable {σ : St}
theorem has10_at {lv : AV} (l : List ByteArray) (s : ByteArray) (hl : l.length ≤ 1000000) (h : Rd 1 σ lv (stC l)) : AT Tryz.prog 105 [lv, str s] σ (AnyB σ) := by
  refine AT.of_body Tryz.func105 rfl (by decide) (by kernel_rfl) (by kernel_rfl) (Nat.le_of_ble_eq_true rfl) ?_
  simp only [go_sem, r_block]
  refine ⟨fun m fr σ' => ∃ i : Nat, m = l.length - i ∧ i ≤ l.length ∧ σ' = σ ∧ fr 0 = lv ∧ fr 1 = str s ∧ fr 5 = int i, ⟨_, 0, rfl, by omega, rfl, rfl, rfl, rfl⟩, ?_⟩
  rintro m fr σ ⟨i, rfl, hi, rfl, f0, f1, f5⟩
  simp only [go_sem, f0, f5, h.len]
  refine aIf_by (fun hlt => ?_) (fun hlt => ?_)
  · have hil : i < l.length := by omega
    have sg := stC_get hil
    simp only [go_sem, r_block, f0, f1, f5]
    refine h.elem (by omega) (by rw [stC_len]; omega) fun e he => ?_
    simp only [go_sem, r_block]
    refine he.load1 (by decide) (by rw [Int.toNat_natCast, sg]; exact Nat.le_refl 1) ?_
    simp only [go_sem, r_block, sg, f1]
    refine aIf_by (fun h => ?_) (fun h => ?_)
    · simp only [go_sem, r_block]
      exact aRet_as (r := boo true) rfl .mk
    · simp only [go_sem, r_block, f0, f1, f5, next64 (show i < 9223372036854775807 by omega)]
      refine ⟨l.length - (i + 1), by omega, i + 1, ?_⟩
      (and_intros <;> first | assumption | rfl | omega)
  · simp only [go_sem, r_block]
    exact aRet_as (r := boo false) rfl .mk
/-- A list that was made on from another. -/
def Onw (σ : St) (lv : AV) (n : Nat) (v : AV) (σ' : St) : Prop := ∃ l' : List ByteArray, LAt 1 σ' v (stC l') ∧ l'.length ≤ n ∧ ∀ y o, σ y = some o → ¬ Own lv y → σ' y = some o ∧ ¬ Own v y
theorem with10_at {lv : AV} (l : List ByteArray) (t : Tm) (hl : l.length ≤ 1000000) (h : LAt 1 σ lv (stC l)) : AT Tryz.prog 134 [lv, .agg t.cs] σ (Onw σ lv (l.length + 1)) := by
  refine AT.of_body Tryz.func134 rfl (by decide) (by kernel_rfl) (by kernel_rfl) (Nat.le_of_ble_eq_true rfl) ?_
  have e0 : t.cs.getD 0 (.v undef) = str t.v := rfl
  simp only [go_sem]
  refine Ctx.nil.alloc fun p σ1 c1 => ?_
  have h1' : LAt 1 σ1 lv (stC l) := h.keep fun x o hx _ => c1.sub x o hx
  have same : Onw σ lv (l.length + 1) lv σ1 := ⟨l, h1', by omega, fun y o hy hn => ⟨c1.sub y o hy, hn⟩⟩
  by_cases h1 : t.v = emp
  · have d1 := decide_eq_true h1
    simp only [go_sem, c1.g0, e0, d1]
    exact aRet_as rfl same
  · have d1 := decide_eq_false h1
    simp only [go_sem, c1.g0, e0, d1]
    refine (has10_at l t.v hl (.of h1')).mono ?_
    rintro _ σ1 ⟨⟨b, rfl⟩, rfl⟩
    cases b with
    | true =>
      simp only [go_sem]
      exact aRet_as rfl same
    | false =>
      simp only [go_sem, c1.g0, e0]
      refine aApp_by (ys := [[str t.v]]) rfl (by decide) (by decide) (by decide) (h1'.app (by rw [stC_len]; simp only [List.length_cons, List.length_nil]; omega) fun lv' σ2 g1 g2 => ?_)
      rw [show stC l ++ [[str t.v]] = stC (l ++ [t.v]) by simp [stC]] at g1
      simp only [go_sem]
      exact aRet_as rfl ⟨l ++ [t.v], g1, by simp, fun y o hy hn => g2 y o (c1.sub y o hy) hn⟩
theorem Onw.grow {σ0 σ σ' : St} {lv v : AV} {n : Nat} (g : Grow σ0 σ lv) (h : Onw σ lv n v σ') : ∃ l' : List ByteArray, LAt 1 σ' v (stC l') ∧ l'.length ≤ n ∧ Grow σ0 σ' v := by
  obtain ⟨l', h1, h2, h3⟩ := h
  exact ⟨l', h1, h2, fun y o hy => h3 y o (g y o hy).1 (g y o hy).2⟩
theorem bound10_at (r : Rl) (k : Int) (hr : r.S3) : AT Tryz.prog 106 [.agg r.cs, int k] σ (Onw σ nilS 200000) := by
  refine AT.of_body Tryz.func106 rfl (by decide) (by kernel_rfl) (by kernel_rfl) (Nat.le_of_ble_eq_true rfl) ?_
  obtain ⟨hr1, hr2⟩ := hr
  simp only [go_sem]
  refine Ctx.nil.alloc fun p σ1 c1 => ?_
  have hp := c1.g0
  have hs := c1.sub
  clear c1
  simp only [go_sem, hp]
  refine (with10_at [] r.ho (by simp) (show LAt 1 σ1 nilS (stC []) from .none)).mono ?_
  intro lv σ2 h2
  obtain ⟨l2, k1, k2, k3⟩ := h2.grow (σ0 := σ1) fun y o hy => ⟨hy, own_no_nil⟩
  simp only [go_sem, r_block]
  refine ⟨fun m fr σ' => ∃ (i : Nat) (l : List ByteArray) (lv : AV), m = r.bo.length - i ∧ i ≤ r.bo.length ∧ LAt 1 σ' lv (stC l) ∧ l.length ≤ 1 + 302 * i ∧ Grow σ1 σ' lv ∧ fr 1 = int k ∧ fr 2 = ptr p ∧ fr 5 = lv ∧ fr 6 = int i, ⟨_, 0, l2, lv, rfl, by omega, k1, by simpa using k2, k3, rfl, rfl, rfl, rfl⟩, ?_⟩
  clear h2 k1 k2 k3
  rintro m fr σ3 ⟨i, l, lv, rfl, hi, hL, hl, hG, f1, f2, f5, f6⟩
  have hp3 := hG.sub _ _ hp
  have ret : ∀ {fr : Fr}, aResult Tryz.prog fr σ3 (Tryz.f106).results.toList = some lv → aRet Tryz.prog (Onw σ nilS 200000) (Tryz.f106).results.toList fr σ3 := fun hr =>
    aRet_as hr ⟨l, hL, by omega, fun y o hy _ => hG y o (hs y o hy)⟩
  by_cases g1 : (i : Int) < r.bo.length
  · have d1 := decide_eq_true g1
    by_cases g2 : (i : Int) < k
    · have d2 := decide_eq_true g2
      have hil : i < r.bo.length := by omega
      have hla := hr2 _ (List.getElem_mem hil)
      have lg := liC_get hil
      simp only [go_sem, r_block, f1, f2, f5, f6, hp3, d1, d2, lg]
      refine ⟨by omega, (with10_at l r.bo[i].by' (by omega) hL).mono ?_⟩
      intro lv4 σ4 h4
      obtain ⟨l4, k1, k2, k3⟩ := h4.grow hG
      simp only [go_sem, r_block]
      refine ⟨fun m fr σ' => ∃ (j : Nat) (l : List ByteArray) (lv : AV), m = r.bo[i].ar.length - j ∧ j ≤ r.bo[i].ar.length ∧ LAt 1 σ' lv (stC l) ∧ l.length ≤ 2 + 302 * i + j ∧ Grow σ1 σ' lv ∧ fr 1 = int k ∧ fr 2 = ptr p ∧ fr 5 = lv ∧ fr 6 = int i ∧ fr 7 = int j, ⟨_, 0, l4, lv4, rfl, by omega, k1, by omega, k3, f1, f2, rfl, f6, rfl⟩, ?_⟩
      clear h4 k1 k2 k3 f1 f2 f5 f6 ret hp3 hL hG hl fr
      rintro m fr σ5 ⟨j, l5, lv5, rfl, hj, hL, hl, hG, f1, f2, f5, f6, f7⟩
      have hp5 := hG.sub _ _ hp
      simp only [go_sem, f2, f6, f7, hp5, lg]
      refine ⟨by omega, aIf_by (fun hlt => ?_) (fun hlt => ?_)⟩
      · have hjl : j < r.bo[i].ar.length := by omega
        simp only [go_sem, r_block, f1, f2, f5, f6, f7, hp5, lg, tmC_get hjl]
        refine ⟨by omega, by omega, (with10_at l5 r.bo[i].ar[j] (by omega) hL).mono ?_⟩
        intro lv6 σ6 h6
        obtain ⟨l6, k1, k2, k3⟩ := h6.grow hG
        simp only [go_sem, r_block, f1, f2, f6, f7, next64 (show j < 9223372036854775807 by omega)]
        exact ⟨r.bo[i].ar.length - (j + 1), by omega, j + 1, l6, lv6, rfl, by omega, k1, by omega, k3, rfl, rfl⟩
      · simp only [go_sem, r_block, f1, f2, f5, f6, hp5, lg]
        refine ⟨by omega, (with10_at l5 r.bo[i].at' (by omega) hL).mono ?_⟩
        intro lv6 σ6 h6
        obtain ⟨l6, k1, k2, k3⟩ := h6.grow hG
        simp only [go_sem, r_block, f1, f2, f6, next64 (show i < 9223372036854775807 by omega)]
        exact ⟨r.bo.length - (i + 1), by omega, i + 1, l6, lv6, rfl, by omega, k1, by omega, k3, rfl, rfl⟩
    · have d2 := decide_eq_false g2
      simp only [go_sem, r_block, f1, f2, f5, f6, hp3, d1, d2]
      exact ret rfl
  · have d1 := decide_eq_false g1
    simp only [go_sem, r_block, f1, f2, f5, f6, hp3, d1]
    exact ret rfl
/-- The same, the list being frozen at the end. -/
theorem bound10f_at (r : Rl) (k : Int) (hr : r.S3) : AT Tryz.prog 106 [.agg r.cs, int k] σ (AnyT 200000 σ) :=
  (bound10_at r k hr).post (by kernel_rfl) fun v σ' ⟨l, h1, h2, h3⟩ => ⟨_, _, ret_sl h1 (fun y o hy => h3 y o hy own_no_nil), ⟨l, rfl, h2⟩, rfl⟩
theorem vars10_at (r : Rl) (hr : r.S3) : AT Tryz.prog 107 [.agg r.cs] σ (AnyT 200000 σ) := by
  refine AT.of_body Tryz.func107 rfl (by decide) (by kernel_rfl) (by kernel_rfl) (Nat.le_of_ble_eq_true rfl) ?_
  simp only [go_sem]
  refine Ctx.nil.alloc fun p σ1 c1 => ?_
  simp only [go_sem, c1.g0]
  refine (bound10f_at r _ hr).mono ?_
  rintro _ σ1 ⟨⟨l, rfl, hl⟩, rfl⟩
  simp only [go_sem]
  exact aRet_view rfl _ σ (view_drop c1.sub) ⟨⟨l, rfl, hl⟩, rfl⟩
end
end Go.Proofs.YthdfpankebjleaaGreat

/-
  Is a program a good one, as the document asks: of one rule, only that it comes to an end, and leaves memory as it was.
  Conditions: none.
-/
namespace Go.Proofs.YthdfpankebjleaaGreat
open Go Go.Av

section
variable {σ : St}
theorem number10_at (t : Tm) : AT Tryz.prog 103 [.agg t.cs] σ (AnyB σ) := by
  refine AT.of_body Tryz.func103 rfl (by decide) (by kernel_rfl) (by kernel_rfl) (Nat.le_of_ble_eq_true rfl) ?_
  have e0 : t.cs.getD 0 (.v undef) = str t.v := rfl
  have e1 : t.cs.getD 1 (.v undef) = boo t.b := rfl
  have e2 : (t.cs.drop 1).getD 0 (.v undef) = boo t.b := rfl
  simp only [go_sem]
  refine Ctx.nil.alloc fun p σ1 c1 => ?_
  have hs := c1.sub
  by_cases h1 : t.v = emp
  · have d1 := decide_eq_true h1
    simp only [go_sem, c1.g0, e0, e1, e2, d1]
    exact aRet_view (r := boo t.b) rfl _ σ (view_drop hs) .mk
  · have d1 := decide_eq_false h1
    simp only [go_sem, c1.g0, e0, e1, e2, d1]
    exact aRet_view (r := boo false) rfl _ σ (view_drop hs) .mk
theorem places10_at (r : Rl) (hr : r.S3) : AT Tryz.prog 54 [.agg r.cs] σ (AnyI σ) := by
  refine AT.of_body Tryz.func54 rfl (by decide) (by kernel_rfl) (by kernel_rfl) (Nat.le_of_ble_eq_true rfl) ?_
  obtain ⟨hr1, hr2⟩ := hr
  have em : (r.cs.drop 6).take 4 = r.at'.cs := rfl
  simp only [go_sem]
  refine Ctx.nil.alloc fun p σ1 c1 => ?_
  have hp := c1.g0
  have hs := c1.sub
  have out : ∀ {fr : Fr} {e : Int}, aResult Tryz.prog fr σ1 (Tryz.f54).results.toList = some (int e) → aRet Tryz.prog (AnyI σ) (Tryz.f54).results.toList fr σ1 := fun hr =>
    aRet_view hr _ σ (view_drop hs) ⟨⟨_, rfl⟩, rfl⟩
  clear c1
  simp only [go_sem, hp]
  refine (number10_at r.ho).mono ?_
  rintro _ σ1 ⟨⟨b, rfl⟩, rfl⟩
  cases b with
  | true =>
    simp only [go_sem]
    exact out rfl
  | false =>
    simp only [go_sem, hp, em]
    refine (number10_at r.at').mono ?_
    rintro _ σ1 ⟨⟨b, rfl⟩, rfl⟩
    cases b with
    | true =>
      simp only [go_sem]
      exact out rfl
    | false =>
      simp only [go_sem, r_block]
      refine ⟨fun m fr σ' => ∃ i : Nat, m = r.bo.length - i ∧ i ≤ r.bo.length ∧ σ' = σ1 ∧ fr 1 = ptr p ∧ fr 3 = int i, ⟨_, 0, rfl, by omega, rfl, rfl, rfl⟩, ?_⟩
      rintro m fr σ1 ⟨i, rfl, hi, rfl, f1, f3⟩
      simp only [go_sem, f1, f3, hp]
      refine aIf_by (fun hlt => ?_) (fun hlt => ?_)
      · have hil : i < r.bo.length := by omega
        have lg := liC_get hil
        simp only [go_sem, r_block, f1, f3, hp, lg]
        refine ⟨by omega, (number10_at r.bo[i].by').mono ?_⟩
        rintro _ σ1 ⟨⟨b, rfl⟩, rfl⟩
        cases b with
        | true =>
          simp only [go_sem, r_block, f3]
          exact out rfl
        | false =>
          simp only [go_sem, r_block, f1, f3, hp, lg]
          refine ⟨by omega, (number10_at r.bo[i].at').mono ?_⟩
          rintro _ σ1 ⟨⟨b, rfl⟩, rfl⟩
          cases b with
          | true =>
            simp only [go_sem, r_block, f3]
            exact out rfl
          | false =>
            simp only [go_sem, r_block, f1, f3, next64 (show i < 9223372036854775807 by omega)]
            refine ⟨r.bo.length - (i + 1), by omega, i + 1, ?_⟩; (and_intros <;> first | assumption | rfl | omega)
      · simp only [go_sem, r_block]
        exact out rfl
theorem free10_at (r : Rl) (hr : r.S3) : AT Tryz.prog 56 [.agg r.cs] σ (AnyI σ) := by
  refine AT.of_body Tryz.func56 rfl (by decide) (by kernel_rfl) (by kernel_rfl) (Nat.le_of_ble_eq_true rfl) ?_
  have hr0 := hr
  obtain ⟨hr1, hr2⟩ := hr
  simp only [go_sem]
  refine Ctx.nil.alloc fun p σ1 c1 => ?_
  have hp := c1.g0
  have hs := c1.sub
  have out : ∀ {fr : Fr} {e : Int}, aResult Tryz.prog fr σ1 (Tryz.f56).results.toList = some (int e) → aRet Tryz.prog (AnyI σ) (Tryz.f56).results.toList fr σ1 := fun hr =>
    aRet_view hr _ σ (view_drop hs) ⟨⟨_, rfl⟩, rfl⟩
  clear c1
  simp only [go_sem, r_block]
  refine ⟨fun m fr σ' => ∃ i : Nat, m = r.bo.length - i ∧ i ≤ r.bo.length ∧ σ' = σ1 ∧ fr 1 = ptr p ∧ fr 3 = int i, ⟨_, 0, rfl, by omega, rfl, rfl, rfl⟩, ?_⟩
  rintro m fr σ1 ⟨i, rfl, hi, rfl, f1, f3⟩
  simp only [go_sem, f1, f3, hp]
  refine aIf_by (fun hlt => ?_) (fun hlt => ?_)
  · have hil : i < r.bo.length := by omega
    have lg := liC_get hil
    have nx := next64 (show i < 9223372036854775807 by omega)
    by_cases h1 : r.bo[i].at'.v = emp
    · have d1 : (!decide (r.bo[i].at'.v = emp)) = false := by rw [decide_eq_true h1]; rfl
      simp only [go_sem, r_block, f1, f3, hp, lg, d1, nx]
      refine ⟨by omega, r.bo.length - (i + 1), by omega, i + 1, ?_⟩; (and_intros <;> first | assumption | rfl | omega)
    · have d1 : (!decide (r.bo[i].at'.v = emp)) = true := by rw [decide_eq_false h1]; rfl
      simp only [go_sem, r_block, f1, f3, hp, lg, d1]
      refine ⟨by omega, (bound10f_at r i hr0).mono ?_⟩
      rintro _ σ1 ⟨⟨l, rfl, hl⟩, rfl⟩
      simp only [go_sem, r_block]
      refine (has10_at l _ (by omega) .sl).mono ?_
      rintro _ σ1 ⟨⟨b, rfl⟩, rfl⟩
      cases b with
      | true =>
        simp only [go_sem, r_block, Bool.not_true, f1, f3, nx]
        refine ⟨r.bo.length - (i + 1), by omega, i + 1, ?_⟩; (and_intros <;> first | assumption | rfl | omega)
      | false =>
        simp only [go_sem, r_block, Bool.not_false, f3]
        exact out rfl
  · simp only [go_sem, r_block]
    exact out rfl
theorem open10_at (r : Rl) (hr : r.S3) (ha : r.ar.length ≤ 1000000) : AT Tryz.prog 57 [.agg r.cs] σ (AnyB σ) := by
  refine AT.of_body Tryz.func57 rfl (by decide) (by kernel_rfl) (by kernel_rfl) (Nat.le_of_ble_eq_true rfl) ?_
  have em : (r.cs.drop 6).getD 0 (.v undef) = str r.at'.v := rfl
  have e5 : r.cs.getD 5 (.v undef) = .sl 4 (tmC r.ar) := rfl
  have em' : r.cs.getD 6 (.v undef) = str r.at'.v := rfl
  simp only [go_sem]
  refine Ctx.nil.alloc fun p σ1 c1 => ?_
  have hp := c1.g0
  have hs := c1.sub
  have out : ∀ {fr : Fr} {e : Bool}, aResult Tryz.prog fr σ1 (Tryz.f57).results.toList = some (boo e) → aRet Tryz.prog (AnyB σ) (Tryz.f57).results.toList fr σ1 := fun hr =>
    aRet_view hr _ σ (view_drop hs) .mk
  clear c1
  simp only [go_sem, hp]
  refine (vars10_at r hr).mono ?_
  rintro _ σ1 ⟨⟨l, rfl, hl⟩, rfl⟩
  apply meet_by (fun fr σ' => σ' = σ1 ∧ fr 1 = ptr p ∧ fr 3 = .sl 1 (stC l) ∧ fr 4 = int 0)
  case h1 =>
    intro key
    by_cases h1 : r.at'.v = emp
    · have d1 : (!decide (r.at'.v = emp)) = false := by rw [decide_eq_true h1]; rfl
      simp only [go_sem, hp, em, em', d1]
      exact key _ _ ⟨rfl, rfl, rfl, rfl⟩
    · have d1 : (!decide (r.at'.v = emp)) = true := by rw [decide_eq_false h1]; rfl
      simp only [go_sem, hp, em, em', d1]
      refine (has10_at l _ (by omega) .sl).mono ?_
      rintro _ σ1 ⟨⟨b, rfl⟩, rfl⟩
      cases b with
      | true =>
        simp only [go_sem, Bool.not_true]
        exact key _ _ ⟨rfl, rfl, rfl, rfl⟩
      | false =>
        simp only [go_sem, Bool.not_false]
        exact out rfl
  · rintro fr σ1 ⟨rfl, f1, f3, f4⟩
    simp only [go_sem, r_block]
    refine ⟨fun m fr σ' => ∃ i : Nat, m = r.ar.length - i ∧ i ≤ r.ar.length ∧ σ' = σ1 ∧ fr 1 = ptr p ∧ fr 3 = .sl 1 (stC l) ∧ fr 4 = int i, ⟨_, 0, rfl, by omega, rfl, by assumption, by assumption, by assumption⟩, ?_⟩
    rintro m fr σ1 ⟨i, rfl, hi, rfl, f1, f3, f4⟩
    simp only [go_sem, f1, f4, hp, e5]
    refine aIf_by (fun hlt => ?_) (fun hlt => ?_)
    · have hil : i < r.ar.length := by omega
      have lg := tmC_get hil
      have nx := next64 (show i < 9223372036854775807 by omega)
      have e0 : r.ar[i].cs.getD 0 (.v undef) = str r.ar[i].v := rfl
      by_cases h1 : r.ar[i].v = emp
      · have d1 : (!decide (r.ar[i].v = emp)) = false := by rw [decide_eq_true h1]; rfl
        simp only [go_sem, r_block, f1, f3, f4, hp, e5, lg, e0, d1, nx]
        refine ⟨by omega, r.ar.length - (i + 1), by omega, i + 1, ?_⟩; (and_intros <;> first | assumption | rfl | omega)
      · have d1 : (!decide (r.ar[i].v = emp)) = true := by rw [decide_eq_false h1]; rfl
        simp only [go_sem, r_block, f1, f3, f4, hp, e5, lg, e0, d1]
        refine ⟨by omega, by omega, (has10_at l _ (by omega) .sl).mono ?_⟩
        rintro _ σ1 ⟨⟨b, rfl⟩, rfl⟩
        cases b with
        | true =>
          simp only [go_sem, r_block, Bool.not_true, f1, f3, f4, nx]
          refine ⟨r.ar.length - (i + 1), by omega, i + 1, ?_⟩; (and_intros <;> first | assumption | rfl | omega)
        | false =>
          simp only [go_sem, r_block, Bool.not_false]
          exact out rfl
    · simp only [go_sem, r_block]
      exact out rfl
def seC (l : List (ByteArray × Int)) : List (List AV) := l.map fun x => [str x.1, int x.2]
@[go_sem] theorem seC_len (l : List (ByteArray × Int)) : (seC l).length = l.length := by simp [seC]
theorem seC_get {l : List (ByteArray × Int)} {i : Nat} (h : i < l.length) : (seC l).getD i [] = [str l[i].1, int l[i].2] := by simp [seC, List.getD_eq_getElem?_getD, h]
/-- What was seen, made on from another list. -/
def Seen (σ : St) (lv : AV) (n : Nat) (v : AV) (σ' : St) : Prop := ∃ (x : AV) (l : List (ByteArray × Int)), v = .tup [lv, x] ∧ LAt 2 σ' lv (seC l) ∧ l.length ≤ n
theorem odd10_at {lv : AV} (l : List (ByteArray × Int)) (s : ByteArray) (k : Int) (hl : l.length ≤ 1000000) (h : LAt 2 σ lv (seC l)) : AT Tryz.prog 104 [lv, str s, int k] σ fun v σ' => ∃ (b : Bool) (x : AV) (l' : List (ByteArray × Int)), v = .tup [x, boo b] ∧ LAt 2 σ' x (seC l') ∧ l'.length ≤ l.length + 1 ∧ ∀ y o, σ y = some o → ¬ Own lv y → σ' y = some o ∧ ¬ Own x y := by
  refine AT.of_body Tryz.func104 rfl (by decide) (by kernel_rfl) (by kernel_rfl) (Nat.le_of_ble_eq_true rfl) ?_
  simp only [go_sem, r_block]
  refine ⟨fun m fr σ' => ∃ i : Nat, m = l.length - i ∧ i ≤ l.length ∧ σ' = σ ∧ fr 0 = lv ∧ fr 1 = str s ∧ fr 2 = int k ∧ fr 8 = int i, ⟨_, 0, rfl, by omega, rfl, rfl, rfl, rfl, rfl⟩, ?_⟩
  rintro m fr σ ⟨i, rfl, hi, rfl, f0, f1, f2, f8⟩
  simp only [go_sem, f0, f8, h.len]
  refine aIf_by (fun hlt => ?_) (fun hlt => ?_)
  · have hil : i < l.length := by omega
    have sg := seC_get hil
    simp only [go_sem, r_block, f0, f1, f8]
    refine h.elem (by omega) (by rw [seC_len]; omega) fun p hp => ?_
    rw [Int.toNat_natCast, sg] at hp
    simp only [go_sem, r_block]
    refine hp.fld (by decide) (by simp) fun p0 hp0 => ?_
    simp only [go_sem, r_block]
    refine hp0.load1 (by decide) (by simp) ?_
    simp only [go_sem, r_block, f1]
    refine aIf_by (fun he => ?_) (fun he => ?_)
    · simp only [go_sem, r_block]
      refine aDraw_plan [.rd 0 false, .rd 1 false, .rd 2 false, .rd 3 false, .rd 4 false, .rd 5 true, .rd 6 false, .rd 7 false, .rd 8 false, .rd 9 false] (by kernel_rfl) (by kernel_rfl) (by kernel_rfl) ?_
      simp only [go_sem, r_block, f0, f2, f8]
      refine h.elem (by omega) (by rw [seC_len]; omega) fun p hp => ?_
      rw [Int.toNat_natCast, sg] at hp
      simp only [go_sem, r_block]
      refine hp.fld (by decide) (by simp) fun p0 hp0 => ?_
      simp only [go_sem, r_block]
      refine hp0.load1 (by decide) (by simp) ?_
      simp only [go_sem, r_block, f0, f2]
      exact aRet_as (r := .tup [lv, boo _]) rfl ⟨_, lv, l, rfl, h, by omega, fun y o hy hn => ⟨hy, hn⟩⟩
    · simp only [go_sem, r_block, f0, f1, f2, f8, next64 (show i < 9223372036854775807 by omega)]
      refine ⟨l.length - (i + 1), by omega, i + 1, ?_⟩; (and_intros <;> first | assumption | rfl | omega)
  · simp only [go_sem, r_block, f0, f1, f2]
    refine aApp_by (ys := [[str s, int k]]) rfl (by decide) (by decide) (by decide) (h.app (by rw [seC_len]; simp only [List.length_cons, List.length_nil]; omega) fun lv' σ2 g1 g2 => ?_)
    rw [show seC l ++ [[str s, int k]] = seC (l ++ [(s, k)]) by simp [seC]] at g1
    simp only [go_sem]
    exact aRet_as (r := .tup [lv', boo false]) rfl ⟨false, lv', l ++ [(s, k)], rfl, g1, by simp, g2⟩
theorem arities10_at (r : Rl) (hr : r.S3) : AT Tryz.prog 55 [nilS, .agg r.cs] σ fun v σ' => (∃ (x : AV) (k : Int), v = .tup [x, int k]) ∧ ∀ y o, σ y = some o → σ' y = some o := by
  refine AT.of_body Tryz.func55 rfl (by decide) (by kernel_rfl) (by kernel_rfl) (Nat.le_of_ble_eq_true rfl) ?_
  obtain ⟨hr1, hr2⟩ := hr
  simp only [go_sem]
  refine Ctx.nil.alloc fun p σ1 c1 => ?_
  have hp := c1.g0
  have hs := c1.sub
  have e5 : r.cs.getD 5 (.v undef) = .sl 4 (tmC r.ar) := rfl
  have e4 : r.cs.getD 4 (.v undef) = str r.nm := rfl
  clear c1
  have out : ∀ {fr : Fr} {σ' : St} {x : AV} {k : Int}, (∀ y o, σ1 y = some o → σ' y = some o) → aResult Tryz.prog fr σ' (Tryz.f55).results.toList = some (.tup [x, int k]) → aRet Tryz.prog (fun v σ' => (∃ (x : AV) (k : Int), v = .tup [x, int k]) ∧ ∀ y o, σ y = some o → σ' y = some o) (Tryz.f55).results.toList fr σ' := fun h hr =>
    aRet_as hr ⟨⟨_, _, rfl⟩, fun y o hy => h y o (hs y o hy)⟩
  simp only [go_sem, hp, e4, e5]
  refine (odd10_at [] r.nm r.ar.length (by simp) (show LAt 2 σ1 nilS (seC []) from .none)).mono ?_
  rintro _ σ2 ⟨b, lv, l2, rfl, k1, k2, k3⟩
  have hG : Grow σ1 σ2 lv := fun y o hy => k3 y o hy own_no_nil
  cases b with
  | true =>
    simp only [go_sem]
    exact out hG.sub rfl
  | false =>
    simp only [go_sem, r_block]
    refine ⟨fun m fr σ' => ∃ (i : Nat) (l : List (ByteArray × Int)) (lv : AV), m = r.bo.length - i ∧ i ≤ r.bo.length ∧ LAt 2 σ' lv (seC l) ∧ l.length ≤ 1 + i ∧ Grow σ1 σ' lv ∧ fr 0 = lv ∧ fr 3 = ptr p ∧ fr 7 = int i, ⟨_, 0, l2, lv, rfl, by omega, k1, by simpa using k2, hG, rfl, rfl, rfl⟩, ?_⟩
    clear k1 k2 k3 hG
    rintro m fr σ3 ⟨i, l, lv, rfl, hi, hL, hl, hG, f0, f3, f7⟩
    have hp3 := hG.sub _ _ hp
    simp only [go_sem, f3, f7, hp3]
    refine aIf_by (fun hlt => ?_) (fun hlt => ?_)
    · have hil : i < r.bo.length := by omega
      have lg := liC_get hil
      simp only [go_sem, r_block, f0, f3, f7, hp3, lg]
      refine aDraw_plan [.rd 0 false, .rd 1 false, .rd 2 true, .rd 3 false, .rd 4 false, .rd 5 false, .rd 6 true, .rd 7 false, .rd 8 true, .rd 9 false, .rd 10 false, .rd 11 false, .rd 12 true, .rd 13 false, .ef 14 [], .rd 15 false, .rd 16 false, .rd 17 false, .rd 18 false, .rd 19 false] (by kernel_rfl) (by kernel_rfl) (by kernel_rfl) ?_
      simp only [go_sem, r_block, f0, f3, f7, hp3, lg]
      refine ⟨by omega, by omega, (odd10_at l r.bo[i].nm r.bo[i].ar.length (by omega) hL).mono ?_⟩
      rintro _ σ4 ⟨b, lv4, l4, rfl, k1, k2, k3⟩
      have hG4 : Grow σ1 σ4 lv4 := hG.step k3
      cases b with
      | true =>
        simp only [go_sem, r_block, f7]
        exact out hG4.sub rfl
      | false =>
        simp only [go_sem, r_block, f3, f7, next64 (show i < 9223372036854775807 by omega)]
        refine ⟨r.bo.length - (i + 1), by omega, i + 1, l4, lv4, ?_⟩; (and_intros <;> first | assumption | rfl | omega)
    · simp only [go_sem, r_block, f0]
      exact out hG.sub rfl
theorem program10_at (r : Rl) (hr : r.S3) (ha : r.ar.length ≤ 1000000) : AT Tryz.prog 27 [.fsl 11 [r.cs]] σ fun v σ' => (∃ a b c : Int, v = .tup [int a, int b, int c]) ∧ σ' = σ := by
  refine AT.of_body Tryz.func27 rfl (by decide) (by kernel_rfl) (by kernel_rfl) (Nat.le_of_ble_eq_true rfl) ?_
  have out : ∀ {fr : Fr} {σ' : St} {a b c : Int}, (∀ y o, σ y = some o → σ' y = some o) → aResult Tryz.prog fr σ' (Tryz.f27).results.toList = some (.tup [int a, int b, int c]) → aRet Tryz.prog (fun v σ' => (∃ a b c : Int, v = .tup [int a, int b, int c]) ∧ σ' = σ) (Tryz.f27).results.toList fr σ' := fun h hr =>
    aRet_view hr _ σ (view_drop h) ⟨⟨_, _, _, rfl⟩, rfl⟩
  have hR : ∀ σ' : St, Rd 11 σ' (.fsl 11 [r.cs]) [r.cs] := fun _ => .of .full
  have same : ∀ y o, σ y = some o → σ y = some o := fun _ _ h => h
  simp only [go_sem, r_block]
  refine ⟨fun m fr σ' => ∃ i : Nat, m = 1 - i ∧ i ≤ 1 ∧ (∀ y o, σ y = some o → σ' y = some o) ∧ (i = 0 → fr 5 = nilS) ∧ fr 0 = .fsl 11 [r.cs] ∧ fr 6 = int i, ⟨_, 0, rfl, by omega, same, fun _ => rfl, rfl, rfl⟩, ?_⟩
  rintro m fr σ1 ⟨i, rfl, hi, hs, f5, f0, f6⟩
  by_cases hi0 : i = 0
  · subst hi0
    have f5 := f5 rfl
    simp only [go_sem, r_block, f0, f6]
    refine (rule9_at r hr ha).mono ?_
    rintro _ σ1 ⟨⟨t, e, rfl, he⟩, rfl⟩
    by_cases h1 : e = 0
    · have d1 : (!decide (e = 0)) = false := by rw [decide_eq_true h1]; rfl
      simp only [go_sem, r_block, f0, f6, d1]
      refine (places10_at r hr).mono ?_
      rintro _ σ1 ⟨⟨k, rfl⟩, rfl⟩
      by_cases h2 : -2 < k
      · have d2 := decide_eq_true h2
        simp only [go_sem, r_block, d2, f6]
        exact out hs rfl
      · have d2 := decide_eq_false h2
        simp only [go_sem, r_block, d2, f0, f5, f6]
        refine (arities10_at r hr).mono ?_
        rintro _ σ2 ⟨⟨x, k, rfl⟩, hs2⟩
        have hs3 : ∀ y o, σ y = some o → σ2 y = some o := fun y o hy => hs2 y o (hs y o hy)
        by_cases h3 : -2 < k
        · have d3 := decide_eq_true h3
          simp only [go_sem, r_block, d3, f6]
          exact out hs3 rfl
        · have d3 := decide_eq_false h3
          simp only [go_sem, r_block, d3, f0, f6]
          refine (free10_at r hr).mono ?_
          rintro _ σ2 ⟨⟨k, rfl⟩, rfl⟩
          by_cases h4 : -2 < k
          · have d4 := decide_eq_true h4
            simp only [go_sem, r_block, d4, f6]
            exact out hs3 rfl
          · have d4 := decide_eq_false h4
            simp only [go_sem, r_block, d4, f0, f6]
            refine (open10_at r hr ha).mono ?_
            rintro _ σ2 ⟨⟨b, rfl⟩, rfl⟩
            cases b with
            | true =>
              simp only [go_sem, r_block, f6]
              exact out hs3 rfl
            | false =>
              simp only [go_sem, r_block, f0, f6]
              refine ⟨0, by omega, 1, ?_⟩; (and_intros <;> first | assumption | rfl | omega)
    · have d1 : (!decide (e = 0)) = true := by rw [decide_eq_false h1]; rfl
      simp only [go_sem, r_block, d1, f6]
      exact out hs rfl
  · have hi1 : i = 1 := by omega
    subst hi1
    simp only [go_sem, r_block, f0, f6]
    exact out hs rfl
end
end Go.Proofs.YthdfpankebjleaaGreat

/-
  The bodies that the document finds are small, and few.
  Conditions: none.
-/
namespace Go.Proofs.YthdfpankebjleaaGreat
open Go Go.Av

theorem frm_smB {r : Rl} {me : ByteArray} {first : Int} {f : Fa} {l : List Fa} (hS : Small r f l) : ∀ b ∈ (docF r me first f l).1, SmB b := by
  unfold docF
  split
  · refine frm_sm r.ho _ _ [] ([], 0) (fun a ha => by cases ha) (fun y hy => by cases hy) (fun p hp y hy => ?_) (by have := hS.1.1; simp [lsF]; omega)
    unfold lsF at hp
    obtain ⟨j, _, rfl⟩ := List.mem_map.1 hp
    simp only at hy
    unfold candF at hy
    split at hy
    · rw [List.mem_singleton.1 hy]; exact hS.2.1
    · exact hS.2.2.2 y hy
  · intro b hb; cases hb
theorem doc_len {r : Rl} {me : ByteArray} {first : Int} {f : Fa} {l : List Fa} : (docF r me first f l).1.length ≤ 30002 := by
  unfold docF
  split
  · have := frm_bd r.ho (lsF r first f l 0 r.bo.length) ‹_› [] ([], 0) (by simp) (by simp)
    omega
  · simp
end Go.Proofs.YthdfpankebjleaaGreat

/-
  The law PlanHeads: its walk.
  Conditions: none.
-/
namespace Go.Proofs.YthdfpankebjleaaGreat
open Go Go.Av

theorem chk_more {ho : Tm} : ∀ {ls : List Li} {xs : List Fa} {e e' : List Bi}, chkF ho ls xs e = some e' → ∃ k, e' = e ++ k
  | [], [], e, e', h => ⟨[], by injection h with h; rw [h, List.append_nil]⟩
  | l :: ls, x :: xs, e, e', h => by
    obtain ⟨m, h1, h2⟩ := Option.bind_eq_some_iff.1 h
    obtain ⟨k, rfl⟩ := lit_more h1
    obtain ⟨k', rfl⟩ := chk_more h2
    exact ⟨k ++ k', by rw [List.append_assoc]⟩
  | [], _ :: _, _, _, h => by cases h
  | _ :: _, [], _, _, h => by cases h
/-- A head of a body that was found is said by whose rule it is. -/
theorem fol_head {r : Rl} {me : ByteArray} {xs : List Fa} {e0 e : List Bi} {f : Fa} (h0 : uniF r.ho (nmC me) [] = some e0) (h1 : chkF r.ho r.bo xs e0 = some e) (h2 : headF r e = some f) : folF r f xs = true := by
  obtain ⟨k, hk⟩ := chk_more h1
  have hv : valF r.ho e = some (nmC me) := by rw [hk]; exact val_more (uni_val h0)
  have hb : f.by' = me := by
    unfold headF at h2
    rw [nameF_yes hv rfl] at h2
    obtain ⟨b, hb, h2⟩ := Option.bind_eq_some_iff.1 h2
    obtain ⟨a, _, h2⟩ := Option.bind_eq_some_iff.1 h2
    obtain ⟨l, _, rfl⟩ := Option.map_eq_some_iff.1 h2
    exact (Option.some.inj hb).symm
  unfold folF
  rw [hb, h0]
  show decide (((chkF r.ho r.bo xs e0).bind fun e => headF r e) = some f) = true
  rw [h1]
  exact decide_eq_true h2
section
variable {σ : St}
theorem planHeads_at (r : Rl) (me : ByteArray) (first : Int) (f : Fa) (l : List Fa) (hr : r.Wf) (hf : f.Wf) (hl : l.length ≤ 140737488351232) (hls : ∀ y ∈ l, y.Wf) {σ : St} : AT Tryz.prog 7 [.agg (caC r me first f (.sl 4 (faC l)))] σ fun v σ' => v = boo true := by
  refine AT.of_body Tryz.func7 rfl (by decide) (by kernel_rfl) (by kernel_rfl) (Nat.le_of_ble_eq_true rfl) ?_
  have hone := caC_one r me first f (.sl 4 (faC l)) rfl
  simp only [go_sem, hone]
  refine Ctx.nil.alloc fun p σ1 c1 => ?_
  have hp := c1.g0
  clear c1
  simp only [go_sem, hp]
  refine (found_at r me first f l hr hf hl hls).mono ?_
  rintro _ σ1 ⟨rfl, o, ok, rfl, hok⟩
  cases ok with
  | false =>
    simp only [go_sem]
    refine live_at.mono ?_
    rintro _ σ2 ⟨rfl, rfl⟩
    simp only [go_sem]
    exact aRet_as (r := boo true) rfl rfl
  | true =>
    obtain ⟨hS, _, hd, har⟩ := hok rfl
    have hn := (doc_bod hd).2
    have hb := (doc_bod hd).1
    obtain ⟨A, hA⟩ : ∃ A, A = bodF r me first f l := ⟨_, rfl⟩
    have hAl : A.length ≤ 30002 := by rw [hA, ← hb]; exact doc_len
    have hAs : ∀ b ∈ A, SmB b := by rw [hA, ← hb]; exact frm_smB hS
    have hAr : Rises cmpB A := by rw [hA]; exact bod_rises _ _ _ _ _
    have hAb : ∀ b ∈ A, b.length = r.bo.length := fun b hb => by rw [hA] at hb; exact bod_len hb
    have hAe : ∀ b ∈ A, ∃ e0, uniF r.ho (nmC me) [] = some e0 ∧ (chkF r.ho r.bo b e0).isSome = true := fun b hb => by
      rw [hA] at hb
      obtain ⟨env, h1, h2, _⟩ := mem_bod.1 hb
      exact ⟨env, h1, h2⟩
    simp only [go_sem, hp]
    refine (wbodies_at r me first f l hS (by omega)).mono ?_
    rintro _ σ1 ⟨rfl, rfl⟩
    rw [← hA]
    have tk : (caC r me first f (.sl 4 (faC l))).take 11 = r.cs := rfl
    have g10 : (caC r me first f (.sl 4 (faC l))).getD 10 (.v undef) = .sl 10 (liC r.bo) := rfl
    have g11 : (caC r me first f (.sl 4 (faC l))).getD 11 (.v undef) = str me := rfl
    have tk4 : (caC r me first f (.sl 4 (faC l))).take 4 = r.ho.cs := rfl
    simp only [go_sem, hp, tk]
    refine (program10_at r hS.1 (by omega)).mono ?_
    rintro _ σ1 ⟨⟨e1, e2, e3, rfl⟩, rfl⟩
    simp only [go_sem, r_block]
    refine ⟨fun m fr σ' => ∃ i : Nat, m = A.length - i ∧ i ≤ A.length ∧ σ' p = some (.cells (caC r me first f (.sl 4 (faC l)))) ∧ fr 1 = ptr p ∧ fr 5 = .sl 1 (boC A) ∧ fr 6 = int e1 ∧ fr 9 = int i, ⟨_, 0, rfl, by omega, hp, rfl, rfl, rfl, rfl⟩, ?_⟩
    clear hp
    rintro m fr σ2 ⟨i, rfl, hi, hp, f1, f5, f6, f9⟩
    simp only [go_sem, f5, f9]
    refine aIf_by (fun hlt => ?_) (fun hlt => ?_)
    · have hiA : i < A.length := by omega
      obtain ⟨X, hX⟩ : ∃ X, X = A[i] := ⟨_, rfl⟩
      have hXA : X ∈ A := by rw [hX]; exact List.getElem_mem hiA
      have hXs := hAs X hXA
      have hXl := hAb X hXA
      obtain ⟨e0, he0, hck⟩ := hAe X hXA
      obtain ⟨e', he'⟩ := Option.isSome_iff_exists.1 hck
      have hel := uni_len he0
      simp only [List.length_nil] at hel
      have eA : (boC A).getD i [] = [.sl 4 (faC X)] := by rw [hX]; exact boC_get hiA
      have dl : (!decide ((X.length : Int) = r.bo.length)) = false := by rw [decide_eq_true (by omega)]; rfl
      have nx := next64 (show i < 9223372036854775807 by omega)
      have xl : (faC X).length = X.length := faC_len _
      by_cases hi0 : 0 < (i : Int)
      case' pos =>
        have wi : IntKind.i64.wrap ((i : Int) - 1) = ((i - 1 : Nat) : Int) := by rw [wrap64 (by omega)]; omega
        have hi1 : i - 1 < A.length := by omega
        have eA1 : (boC A).getD (i - 1) [] = [.sl 4 (faC A[i - 1])] := boC_get hi1
        have s1 := hAs _ (List.getElem_mem hi1)
        have hlt : cmpB A[i - 1] X < 0 := by rw [hX]; exact List.pairwise_iff_getElem.1 hAr (i - 1) i hi1 hiA (by omega)
        have dc : decide (0 ≤ cmpB A[i - 1] X) = false := decide_eq_false (by omega)
        have d0 := decide_eq_true hi0
        simp only [go_sem, r_block]
        refine aDraw_plan [.rd 0 false, .rd 1 false, .rd 2 false, .rd 3 false, .rd 4 false, .rd 5 false, .rd 6 false, .rd 7 true, .rd 8 false, .rd 9 false, .rd 10 false, .rd 11 true, .ef 12 [], .rd 13 false, .rd 14 false, .rd 15 false, .rd 16 false, .rd 17 false, .rd 18 false, .rd 19 true, .rd 20 false, .rd 21 false, .rd 22 false, .rd 23 true, .rd 24 false, .rd 25 false, .rd 26 false] (by kernel_rfl) (by kernel_rfl) (by kernel_rfl) ?_
        simp only [go_sem, r_block, f1, f5, f9, d0, wi, eA, eA1, hp, g10]
        refine ⟨by omega, by omega, (rcmpB_at A[i - 1] X s1.1 s1.2 hXs.1 hXs.2).mono ?_⟩
        rintro _ σ2 ⟨rfl, rfl⟩
        simp only [go_sem, r_block, f1, f5, f9, f6, dc, eA, hp, g10, dl]
      case' neg =>
        have d0 := decide_eq_false hi0
        simp only [go_sem, r_block]
        refine aDraw_plan [.rd 0 false, .rd 1 false, .rd 2 false, .rd 3 false, .rd 4 false, .rd 5 false, .rd 6 false, .rd 7 true, .rd 8 false, .rd 9 false, .rd 10 false, .rd 11 true, .ef 12 [], .rd 13 false, .rd 14 false, .rd 15 false, .rd 16 false, .rd 17 false, .rd 18 false, .rd 19 true, .rd 20 false, .rd 21 false, .rd 22 false, .rd 23 true, .rd 24 false, .rd 25 false, .rd 26 false] (by kernel_rfl) (by kernel_rfl) (by kernel_rfl) ?_
        simp only [go_sem, r_block, f1, f5, f6, f9, d0, eA, hp, g10, dl]
      all_goals
        refine ⟨by omega, aIf_by (fun h0 => ?_) (fun h0 => ?_)⟩
        · simp only [go_sem, r_block, f1, hp, tk4, g11]
          refine (AT.weak (unify_at r.ho (nmC me) [] (by simp)) (vws_same (vws_same (vws_cons (.nil 4) vws_nil)))).mono ?_
          rintro _ σ2 ⟨rfl, rfl⟩
          rw [he0]
          simp only [go_sem, r_block, Option.isSome_some, Option.getD_some]
          refine ⟨fun m fr σ' => ∃ (j : Nat) (e : List Bi), m = X.length - j ∧ j ≤ X.length ∧ e.length ≤ 10 + 302 * j ∧ chkF r.ho (r.bo.drop j) (X.drop j) e = some e' ∧ σ' = σ2 ∧ fr 1 = ptr p ∧ fr 5 = .sl 1 (boC A) ∧ fr 6 = int e1 ∧ fr 9 = int i ∧ fr 10 = .sl 4 (biC e) ∧ fr 11 = boo true ∧ fr 12 = int j, ⟨_, 0, e0, rfl, by omega, by omega, he', rfl, by assumption, by assumption, by assumption, by assumption, rfl, rfl, rfl⟩, ?_⟩
          clear f1 f5 f6 f9 fr
          rintro m fr σ2 ⟨j, e, rfl, hj, hej, hc, rfl, f1, f5, f6, f9, f10, f11, f12⟩
          simp only [go_sem, f5, f9, f11, f12, eA, xl]
          refine ⟨by omega, aIf_by (fun hlt => ?_) (fun hlt => ?_)⟩
          · have hjX : j < X.length := by omega
            have hjr : j < r.bo.length := by omega
            have lg := liC_get hjr
            have xg := faC_get hjX
            have hla := hS.1.2 _ (List.getElem_mem hjr)
            have hbl := hS.1.1
            rw [chk_step hjr hjX] at hc
            simp only [go_sem, r_block]
            refine aDraw_plan [.rd 0 false, .rd 1 false, .rd 2 true, .rd 3 false, .rd 4 false, .rd 5 true, .rd 6 false, .rd 7 false, .rd 8 true, .rd 9 false, .rd 10 false, .rd 11 false, .rd 12 true, .rd 13 false, .rd 14 false, .rd 15 true, .rd 16 false, .ef 17 [], .rd 18 false, .rd 19 false, .rd 20 false, .rd 21 false, .rd 22 false] (by kernel_rfl) (by kernel_rfl) (by kernel_rfl) ?_
            simp only [go_sem, r_block, f1, f5, f9, f10, f12, hp, tk4, g10, lg, eA, xg, xl]
            refine ⟨by omega, by omega, by omega, (lit_at r.ho r.bo[j] X[j] e (by omega) (by omega)).mono ?_⟩
            rintro _ σ2 ⟨rfl, rfl⟩
            cases hl : litF r.ho r.bo[j] X[j] e with
            | none => rw [hl] at hc; cases hc
            | some e2 =>
              rw [hl] at hc
              have hc' : chkF r.ho (r.bo.drop (j + 1)) (X.drop (j + 1)) e2 = some e' := hc
              have := lit_len hl
              simp only [go_sem, r_block, Option.isSome_some, Option.getD_some, f1, f5, f6, f9, f12, next64 (show j < 9223372036854775807 by omega)]
              refine ⟨X.length - (j + 1), by omega, j + 1, e2, ?_⟩
              have hbl : e2.length ≤ 10 + 302 * (j + 1) := by omega
              (and_intros <;> first | assumption | rfl | omega)
          · rw [chk_done (by omega) (by omega)] at hc
            have hee := Option.some.inj hc
            subst hee
            have hbl := hS.1.1
            simp only [go_sem, r_block, f1, f10, hp, tk]
            refine (head_at r e (by omega) (by omega)).mono ?_
            rintro _ σ2 ⟨rfl, rfl⟩
            simp only [go_sem, r_block]
            refine Ctx.nil.alloc fun t σ4 c4 => ?_
            obtain ⟨σ5, e5, c5⟩ := c4.abs 0 rfl (.cells ((headF r e).getD .nil).cs)
            have ht := c5.g0
            have hp5 := c5.sub _ _ hp
            simp only at ht
            simp only [go_sem, r_block, c4.g0, e5, f11]
            clear e5 c5 c4
            refine aDraw_plan [.rd 0 false, .rd 1 false, .rd 2 false, .rd 3 true, .rd 4 true, .rd 5 false, .rd 6 false, .rd 7 false, .rd 8 true, .rd 9 false, .ef 10 [], .rd 11 false, .rd 12 false] (by kernel_rfl) (by kernel_rfl) (by kernel_rfl) ?_
            cases hh : headF r e with
            | none =>
              simp only [go_sem, r_block, Option.isSome_none, f1, f5, f6, f9, nx]
              refine ⟨A.length - (i + 1), by omega, i + 1, ?_⟩
              (and_intros <;> first | assumption | rfl | omega)
            | some g =>
              rw [hh] at ht
              have hg := headF_sm (by omega) hh
              have hfol := fol_head he0 he' hh
              simp only [go_sem, r_block, Option.isSome_some, f1, f5, f6, f9, hp5, ht, tk, eA]
              refine ⟨by omega, Nat.le_refl 5, ?_⟩
              show AT Tryz.prog 32 [.agg r.cs, .agg (De.mk 0 g X).cs] _ _
              refine (follows_at r ⟨0, g, X⟩ hS.1 (by omega) hg (show X.length ≤ 1000000 by omega)).mono ?_
              rintro _ σ5 ⟨rfl, rfl⟩
              rw [show folF r (De.mk 0 g X).hd (De.mk 0 g X).bo = true from hfol]
              simp only [go_sem, r_block, Bool.not_true, f1, f5, f6, f9, nx]
              refine ⟨A.length - (i + 1), by omega, i + 1, ?_⟩
              (and_intros <;> first | assumption | rfl | omega)
        · simp only [go_sem, r_block, f1, f5, f6, f9, nx]
          refine ⟨A.length - (i + 1), by omega, i + 1, ?_⟩
          (and_intros <;> first | assumption | rfl | omega)
    · simp only [go_sem, r_block]
      refine live_at.mono ?_
      rintro _ σ2 ⟨rfl, rfl⟩
      simp only [go_sem]
      exact aRet_as (r := boo true) rfl rfl
end
end Go.Proofs.YthdfpankebjleaaGreat

/-
  A statement's arguments, as facts, rules.
  Conditions: none.
-/
namespace Go.Proofs.YthdfpankebjleaaGreat
open Go Go.Av

theorem cn_of {n : Nat} {cs : List AV} (h : Ty Tryz.prog (n + 3) 38 cs) : ∃ c : Cn, cs = c.cs ∧ c.Wf := by
  have hx := ty_st Tryz.underlying38 h
  obtain ⟨x1, y1, rfl, h1, x2, y2, rfl, h2, x3, y3, rfl, h3, rfl⟩ := hx
  obtain ⟨b, rfl⟩ := ty_bool Tryz.underlying4 h1
  obtain ⟨k, rfl, _⟩ := ty_int Tryz.underlying3 h2
  obtain ⟨s, rfl, hs⟩ := ty_str Tryz.underlying9 h3
  exact ⟨⟨b, k, s⟩, rfl, hs⟩
theorem cns_of {n : Nat} : ∀ (es : List (List AV)), (∀ x ∈ es, Ty Tryz.prog (n + 3) 38 x) → ∃ l : List Cn, es = cnC l ∧ ∀ c ∈ l, c.Wf
  | [], _ => ⟨[], rfl, fun x hx => by cases hx⟩
  | x :: es, h => by
    obtain ⟨l, rfl, hl⟩ := cns_of es fun y hy => h y (by simp [hy])
    obtain ⟨t, rfl, ht⟩ := cn_of (h x (by simp))
    exact ⟨t :: l, rfl, fun y hy => by rcases List.mem_cons.1 hy with rfl | hy; exact ht; exact hl y hy⟩
theorem fa_of {n : Nat} {cs : List AV} (h : Ty Tryz.prog (n + 5) 47 cs) : ∃ f : Fa, cs = f.cs ∧ f.Wf := by
  have hx := ty_st Tryz.underlying47 h
  obtain ⟨x1, y1, rfl, h1, x2, y2, rfl, h2, x3, y3, rfl, h3, x4, y4, rfl, h4, rfl⟩ := hx
  obtain ⟨a, rfl, ha⟩ := ty_str Tryz.underlying9 h1
  obtain ⟨b, rfl, hb⟩ := ty_str Tryz.underlying9 h2
  obtain ⟨p, rfl, hp⟩ := ty_str Tryz.underlying9 h3
  obtain ⟨es, rfl, hl, he⟩ := ty_sl Tryz.underlying45 h4
  obtain ⟨ts, rfl, hts⟩ := cns_of es he
  have e1 : Tryz.prog.cellsOf 38 = 3 := by kernel_rfl
  have e2 : Tryz.prog.bytesOf 38 = 32 := by kernel_rfl
  rw [e1]
  rw [e2, cnC_len] at hl
  exact ⟨⟨a, b, p, ts⟩, rfl, by show ts.length ≤ _; omega, ha, hb, hp, hts⟩
theorem fas_of {n : Nat} : ∀ (es : List (List AV)), (∀ x ∈ es, Ty Tryz.prog (n + 5) 47 x) → ∃ l : List Fa, es = faC l ∧ ∀ x ∈ l, x.Wf
  | [], _ => ⟨[], rfl, fun x hx => by cases hx⟩
  | x :: es, h => by
    obtain ⟨l, rfl, hl⟩ := fas_of es fun y hy => h y (by simp [hy])
    obtain ⟨t, rfl, ht⟩ := fa_of (h x (by simp))
    exact ⟨t :: l, rfl, fun y hy => by rcases List.mem_cons.1 hy with rfl | hy; exact ht; exact hl y hy⟩
theorem fal_of {n : Nat} {cs : List AV} (h : Ty Tryz.prog (n + 6) 24 cs) : ∃ l : List Fa, cs = [.sl 4 (faC l)] ∧ l.length * 72 ≤ 140737488351232 ∧ ∀ x ∈ l, x.Wf := by
  obtain ⟨es, rfl, hl, he⟩ := ty_sl Tryz.underlying24 h
  obtain ⟨ts, rfl, hts⟩ := fas_of es he
  have e1 : Tryz.prog.cellsOf 47 = 4 := by kernel_rfl
  have e2 : Tryz.prog.bytesOf 47 = 72 := by kernel_rfl
  rw [e1]
  rw [e2, faC_len] at hl
  exact ⟨ts, rfl, by omega, hts⟩
end Go.Proofs.YthdfpankebjleaaGreat

/-
  A statement's arguments, as cases of the plans' laws.
  Conditions: none.
-/
namespace Go.Proofs.YthdfpankebjleaaGreat
open Go Go.Av

theorem ca_of {cs : List AV} (h : Ty Tryz.prog 8 62 cs) : ∃ (r : Rl) (me : ByteArray) (first : Int) (f : Fa) (l : List Fa), cs = caC r me first f (.sl 4 (faC l)) ∧ r.Wf ∧ f.Wf ∧ l.length * 72 ≤ 140737488351232 ∧ ∀ y ∈ l, y.Wf := by
  have hx := ty_st (n := 7) Tryz.underlying62 h
  obtain ⟨x1, y1, rfl, h1, x2, y2, rfl, h2, x3, y3, rfl, h3, x4, y4, rfl, h4, x5, y5, rfl, h5, rfl⟩ := hx
  obtain ⟨r, rfl, hr⟩ := rl_of (n := 0) h1
  obtain ⟨me, rfl, _⟩ := ty_str Tryz.underlying9 h2
  obtain ⟨k, rfl, _⟩ := ty_int Tryz.underlying3 h3
  obtain ⟨f, rfl, hf⟩ := fa_of (n := 2) h4
  obtain ⟨l, rfl, hl, hls⟩ := fal_of (n := 1) h5
  exact ⟨r, me, k, f, l, rfl, hr, hf, hl, hls⟩
end Go.Proofs.YthdfpankebjleaaGreat
