/-
  The order in which literals are looked for, by itself: each literal comes once.
  Conditions: none.
-/
import Derived.Test.YthdfpankebjleaaCd
set_option linter.unusedVariables false
set_option linter.unusedSimpArgs false
set_option maxRecDepth 100000
namespace Go.Proofs.Ythdfpankebjleaa
open Go Go.Av

def Li.zero : Li := ⟨.zero, emp, [], .zero⟩
/-- Among the first ones: the first one of those that are not out of which most is known. -/
def bst (bo : List Li) (out : List Nat) (vs : List ByteArray) : Nat → Int × Int
  | 0 => (-1, -1)
  | k + 1 => if k ∉ out ∧ (bst bo out vs k).2 < (knL (bo.getD k .zero) vs : Int) then ((k : Int), (knL (bo.getD k .zero) vs : Int)) else bst bo out vs k
/-- One by one, f times. -/
def ordN (bo : List Li) : Nat → List Nat → List ByteArray → List Nat
  | 0, out, _ => out
  | f + 1, out, vs => ordN bo f (out ++ [(bst bo out vs bo.length).1.toNat]) (ofLi (bo.getD (bst bo out vs bo.length).1.toNat .zero) vs)
def ordR (r : Rl) (first : Int) : List Nat :=
  if 0 ≤ first ∧ first < r.bo.length then ordN r.bo (r.bo.length - 1) [first.toNat] (ofLi (r.bo.getD first.toNat .zero) [r.ho.v]) else ordN r.bo r.bo.length [] [r.ho.v]

theorem bst_ok (bo : List Li) (out : List Nat) (vs : List ByteArray) : ∀ k, ((bst bo out vs k).1 = -1 ∧ (bst bo out vs k).2 = -1 ∧ ∀ j, j < k → j ∈ out) ∨ ∃ b : Nat, (bst bo out vs k).1 = b ∧ b < k ∧ b ∉ out ∧ 0 ≤ (bst bo out vs k).2
  | 0 => .inl ⟨rfl, rfl, fun j h => by omega⟩
  | k + 1 => by
    have ih := bst_ok bo out vs k
    unfold bst
    split
    · rename_i h
      exact .inr ⟨k, rfl, by omega, h.1, by show (0 : Int) ≤ ((knL _ _ : Nat) : Int); omega⟩
    · rename_i h
      rcases ih with ⟨h1, h2, h3⟩ | ⟨b, h1, h2, h3, h4⟩
      · refine .inl ⟨h1, h2, fun j hj => ?_⟩
        by_cases e : j = k
        · subst e
          exact Classical.byContradiction fun hn => h ⟨hn, by rw [h2]; omega⟩
        · exact h3 j (by omega)
      · exact .inr ⟨b, h1, by omega, h3, h4⟩
/-- Some numbers below n, each once. -/
def Perm (n : Nat) (l : List Nat) : Prop := l.Nodup ∧ ∀ k ∈ l, k < n
theorem perm_len : ∀ (n : Nat) (l : List Nat), Perm n l → l.length ≤ n
  | 0, l, h => by
    cases l with
    | nil => simp
    | cons a l => have := h.2 a (by simp); omega
  | n + 1, l, h => by
    have hp : Perm n (l.filter (· ≠ n)) := ⟨h.1.filter _, fun k hk => by
      have hk := List.mem_filter.1 hk
      have := h.2 k hk.1
      have : k ≠ n := by simpa using hk.2
      omega⟩
    have ih := perm_len n _ hp
    have := count_one h.1
    have hl : l.length ≤ (l.filter (· ≠ n)).length + 1 := this n
    omega
where
  count_one : ∀ {l : List Nat}, l.Nodup → ∀ n, l.length ≤ (l.filter (· ≠ n)).length + 1
  | [], _, n => by simp
  | a :: l, h, n => by
    have hh := List.nodup_cons.1 h
    by_cases e : a = n
    · subst e
      have : l.filter (· ≠ a) = l := List.filter_eq_self.2 fun x hx => by
        have : x ≠ a := fun e => hh.1 (e ▸ hx)
        simpa using this
      simp only [List.filter_cons, ne_eq, not_true_eq_false, decide_false, Bool.false_eq_true, if_false, List.length_cons]
      simp only [ne_eq] at this
      rw [this]
      exact Nat.le_refl _
    · have := count_one hh.2 n
      simp only [List.filter_cons, ne_eq, e, not_false_eq_true, decide_true, if_true, List.length_cons] at *
      omega
/-- One is left. -/
theorem perm_left {n : Nat} {l : List Nat} (h : Perm n l) (hl : l.length < n) : ∃ j, j < n ∧ j ∉ l := Classical.byContradiction fun hn => by
  have hp : Perm l.length (List.range n) → False := fun h => by have := perm_len _ _ h; simp at this; omega
  have hs : ∀ j, j < n → j ∈ l := fun j hj => Classical.byContradiction fun hm => hn ⟨j, hj, hm⟩
  have := (List.nodup_range (n := n)).length_le_of_subset (l₂ := l) (fun j hj => hs j (List.mem_range.1 hj))
  simp at this
  omega
theorem perm_best {bo : List Li} {out : List Nat} {vs : List ByteArray} (h : Perm bo.length out) (hl : out.length < bo.length) :
    ∃ b : Nat, (bst bo out vs bo.length).1 = b ∧ b < bo.length ∧ b ∉ out ∧ Perm bo.length (out ++ [b]) := by
  rcases bst_ok bo out vs bo.length with ⟨h1, h2, h3⟩ | ⟨b, h1, h2, h3, h4⟩
  · obtain ⟨j, hj, hn⟩ := perm_left h hl
    exact absurd (h3 j hj) hn
  · refine ⟨b, h1, h2, h3, ?_, fun k hk => ?_⟩
    · rw [List.nodup_append]
      exact ⟨h.1, by simp, fun a ha c hc => by simp at hc; subst hc; exact fun e => h3 (e ▸ ha)⟩
    · rcases List.mem_append.1 hk with hk | hk
      · exact h.2 k hk
      · simp at hk; omega
theorem ordN_ok {bo : List Li} : ∀ (f : Nat) (out : List Nat) (vs : List ByteArray), f = bo.length - out.length → Perm bo.length out → Perm bo.length (ordN bo f out vs) ∧ (ordN bo f out vs).length = bo.length ∧ ∀ i (h : i < out.length), (ordN bo f out vs)[i]? = some out[i]
  | 0, out, vs, hf, h => by
    have := perm_len _ _ h
    exact ⟨h, by unfold ordN; omega, fun i h => by unfold ordN; simp [h]⟩
  | f + 1, out, vs, hf, h => by
    obtain ⟨b, h1, h2, h3, h4⟩ := perm_best (vs := vs) h (by omega)
    have ih := ordN_ok f (out ++ [b]) (ofLi (bo.getD b .zero) vs) (by simp; omega) h4
    unfold ordN
    rw [h1]
    refine ⟨ih.1, ih.2.1, fun i hi => ?_⟩
    rw [show ((b : Nat) : Int).toNat = b from rfl, ih.2.2 i (by simp; omega)]
    rw [List.getElem_append_left hi]
theorem ordR_ok (r : Rl) (first : Int) : Perm r.bo.length (ordR r first) ∧ (ordR r first).length = r.bo.length ∧ (0 ≤ first ∧ first < r.bo.length → (ordR r first)[0]? = some first.toNat) := by
  unfold ordR
  split
  · rename_i h
    have := ordN_ok (bo := r.bo) (r.bo.length - 1) [first.toNat] (ofLi (r.bo.getD first.toNat .zero) [r.ho.v]) rfl ⟨by simp, fun k hk => by simp at hk; omega⟩
    exact ⟨this.1, this.2.1, fun _ => this.2.2 0 (by simp)⟩
  · rename_i h
    have := ordN_ok (bo := r.bo) r.bo.length [] [r.ho.v] rfl ⟨by simp, fun k hk => by cases hk⟩
    exact ⟨this.1, this.2.1, fun e => absurd e h⟩
/-- Not too much. -/
def Rl.Ok (r : Rl) : Prop := r.bo.length ≤ 300 ∧ ∀ l ∈ r.bo, l.ar.length ≤ 300
theorem ofLi_len (l : Li) (vs : List ByteArray) : (ofLi l vs).length = vs.length + 2 + l.ar.length := by
  simp [ofLi]; omega
end Go.Proofs.Ythdfpankebjleaa
