/-
  The program logic, part 14: what an operation hands on is determined; more that follows is handed on; operands alone are looked at.
  Conditions: none (a library of lemmas over any program).
-/
import Derived.Test.YthdfpankebjleaaAvWalk
import Derived.Orders
set_option linter.unusedVariables false
set_option linter.unusedSimpArgs false
namespace Go.Av
open Go Go.RowKit

/-- One value is handed on, if any. -/
def Det (T : (AV → Prop) → Prop) : Prop := ∀ K, T K → ∃ v, K v ∧ ∀ K', K' v → T K'
/-- More is handed on. -/
def Mon (T : (AV → St → Prop) → Prop) : Prop := ∀ k k', (∀ v σ, k v σ → k' v σ) → T k → T k'

theorem Det.mon {T : (AV → Prop) → Prop} (h : Det T) {σ : St} : Mon fun k => T fun v => k v σ := fun k k' hk ht => by
  obtain ⟨v, h1, h2⟩ := h _ ht
  exact h2 _ (hk v σ h1)

theorem det_false : Det fun _ => False := fun _ h => h.elim
theorem det_k (v : AV) : Det fun K => K v := fun K h => ⟨v, h, fun _ h => h⟩
theorem det_and {p : Prop} {T : (AV → Prop) → Prop} (h : Det T) : Det fun K => p ∧ T K := fun K ⟨hp, ht⟩ => by
  obtain ⟨v, h1, h2⟩ := h K ht
  exact ⟨v, h1, fun K' hk => ⟨hp, h2 K' hk⟩⟩
theorem det_if {c : Prop} [Decidable c] {T T' : (AV → Prop) → Prop} (h : Det T) (h' : Det T') : Det fun K => if c then T K else T' K := by
  by_cases hc : c
  · simpa only [hc, if_true] using h
  · simpa only [hc, if_false] using h'
theorem det_ex {α : Type} {p : α → Prop} {T : α → (AV → Prop) → Prop} (h : ∀ x, Det (T x)) : Det fun K => ∃ x, p x ∧ T x K := fun K ⟨x, hp, ht⟩ => by
  obtain ⟨v, h1, h2⟩ := h x K ht
  exact ⟨v, h1, fun K' hk => ⟨x, hp, h2 K' hk⟩⟩
theorem det_ex0 {α : Type} {T : α → (AV → Prop) → Prop} (h : ∀ x, Det (T x)) : Det fun K => ∃ x, T x K := fun K ⟨x, ht⟩ => by
  obtain ⟨v, h1, h2⟩ := h x K ht
  exact ⟨v, h1, fun K' hk => ⟨x, h2 K' hk⟩⟩
theorem det_or {T T' : (AV → Prop) → Prop} (h : Det T) (h' : Det T') : Det fun K => T K ∨ T' K := fun K ht => by
  rcases ht with ht | ht
  · obtain ⟨v, h1, h2⟩ := h K ht
    exact ⟨v, h1, fun K' hk => .inl (h2 K' hk)⟩
  · obtain ⟨v, h1, h2⟩ := h' K ht
    exact ⟨v, h1, fun K' hk => .inr (h2 K' hk)⟩
theorem det_eq {T T' : (AV → Prop) → Prop} (e : T = T') (h : Det T') : Det T := e ▸ h

theorem det_part {ag : Bool} {off sz : Nat} {cs : List AV} : Det (aPart ag off sz cs) := by
  refine det_eq (funext fun K => by unfold aPart; rfl) (det_if (det_and (det_k _)) (det_and (det_k _)))

theorem det_pick {c x y : AV} : Det (aPick c x y) := by
  cases c with
  | v c => cases c with
    | bool b => exact det_if (c := b = true) (det_k _) (det_k _)
    | _ => exact det_false
  | _ => exact det_false
theorem det_nil {x : AV} : Det (aNil x) := by
  cases x with
  | v c => cases c with
    | pointer p => cases p with
      | some a => exact det_k _
      | none => exact det_false
    | func f x y => cases f with
      | func f => exact det_k _
      | yield f => exact det_k _
      | _ => exact det_false
    | _ => exact det_false
  | fp cs => exact det_k _
  | rp b q i f => exact det_k _
  | _ => exact det_false
theorem det_fadr {i : Option TK} {f : Nat} {x : AV} : Det (aFadr i f x) := by
  cases i with
  | none => exact det_false
  | some i =>
    obtain ⟨ag, sz, zr, td⟩ := i
    cases td with
    | st fs =>
      cases hf : fs[f]? with
      | none => refine det_eq (funext fun K => ?_) det_false; simp [aFadr, hf]
      | some q =>
        obtain ⟨off, sz', ag'⟩ := q
        have e : ∀ K, aFadr (some ⟨ag, sz, zr, .st fs⟩) f x K = (0 < sz' ∧ match x with
          | .v (.pointer (some ⟨b, p, none⟩)) => K (.v (.pointer (some ⟨b, p + off, none⟩)))
          | .fp cs => off ≤ cs.length ∧ K (.fp (cs.drop off))
          | .rp b q j g => K (.rp b q j (g + off))
          | _ => False) := fun K => by simp only [aFadr, hf]; rfl
        refine det_eq (funext e) (det_and ?_)
        cases x with
        | v c => cases c with
          | pointer p => cases p with
            | some a =>
              obtain ⟨b, p, s⟩ := a
              cases s with
              | none => exact det_k _
              | some _ => exact det_false
            | none => exact det_false
          | _ => exact det_false
        | fp cs => exact det_and (det_k _)
        | rp b q i f => exact det_k _
        | _ => exact det_false
    | _ => exact det_false
theorem det_fld {i : Option TK} {f : Nat} {x : AV} : Det (aFld i f x) := by
  cases i with
  | none => exact det_false
  | some i =>
    obtain ⟨ag, sz, zr, td⟩ := i
    cases td with
    | st fs =>
      cases hf : fs[f]? with
      | none => refine det_eq (funext fun K => ?_) det_false; simp [aFld, hf]
      | some q =>
        obtain ⟨off, sz', ag'⟩ := q
        cases x with
        | agg cs => refine det_eq (funext fun K => ?_) (det_part (ag := ag') (off := off) (sz := sz') (cs := cs)); simp [aFld, hf]
        | _ => refine det_eq (funext fun K => ?_) det_false; simp [aFld, hf]
    | _ => exact det_false
theorem det_iadr {i : Option TK} {σ : St} {x ix : AV} : Det (aIadr i σ x ix) := by
  cases i with
  | none => exact det_false
  | some i =>
    obtain ⟨ag, sz, zr, td⟩ := i
    cases ix with
    | v c => cases c with
      | int ik j =>
        cases td with
        | arr m esz eag =>
          cases x with
          | v c => cases c with
            | pointer p => cases p with
              | some a =>
                obtain ⟨b, p, s⟩ := a
                cases s with
                | none => exact det_and (det_and (det_k _))
                | some _ => exact det_false
              | none => exact det_false
            | _ => exact det_false
          | fp cs => exact det_and (det_and (det_and (det_k _)))
          | rp b q r f => exact det_and (det_and (det_k _))
          | _ => exact det_false
        | sl esz eby ez byt =>
          cases x with
          | v c => cases c with
            | slice p n m => cases p with
              | some a =>
                obtain ⟨b, p, s⟩ := a
                cases s with
                | none => exact det_and (det_and (det_and (det_k _)))
                | some _ => exact det_false
              | none => exact det_false
            | _ => exact det_false
          | sl q es => exact det_and (det_and (det_and (det_k _)))
          | fsl q es => exact det_and (det_and (det_and (det_k _)))
          | _ => exact det_false
        | _ => exact det_false
      | _ => exact det_false
    | _ => exact det_false
theorem det_idx {i : Option TK} {x ix : AV} : Det (aIdx i x ix) := by
  cases i with
  | none => exact det_false
  | some i =>
    obtain ⟨ag, sz, zr, td⟩ := i
    cases ix with
    | v c => cases c with
      | int ik j =>
        cases td with
        | arr m esz eag =>
          cases x with
          | agg cs => exact det_and (det_and det_part)
          | _ => exact det_false
        | str =>
          cases x with
          | v c => cases c with
            | string s => exact det_and (det_and (det_k _))
            | _ => exact det_false
          | _ => exact det_false
        | _ => exact det_false
      | _ => exact det_false
    | _ => exact det_false
theorem det_ext {x : AV} {j : Nat} : Det (aExt x j) := by
  cases x with
  | tup vs => exact det_and (det_k _)
  | _ => exact det_false
theorem det_len {i : Option TK} {x : AV} : Det (aLen i x) := by
  cases i with
  | none => exact det_false
  | some i =>
    obtain ⟨ag, sz, zr, td⟩ := i
    cases td with
    | arr m esz eag => exact det_k _
    | str =>
      cases x with
      | v c => cases c with
        | string s => exact det_k _
        | _ => exact det_false
      | _ => exact det_false
    | sl esz eby ez byt =>
      cases x with
      | v c => cases c with
        | slice p n m => exact det_k _
        | _ => exact det_false
      | sl q es => exact det_k _
      | fsl q es => exact det_k _
      | _ => exact det_false
    | _ => exact det_false
theorem det_sli {i : Option TK} {σ : St} {x : AV} {lo hi mx : Option AV} : Det (aSli i σ x lo hi mx) := by
  cases i with
  | none => exact det_false
  | some i =>
    obtain ⟨ag, sz, zr, td⟩ := i
    cases td with
    | str =>
      cases x with
      | v c => cases c with
        | string s => exact det_and (det_ex0 fun l => det_ex0 fun h => det_and (det_and (det_and (det_and (det_and (det_k _))))))
        | _ => exact det_false
      | _ => exact det_false
    | sl esz eby ez byt =>
      exact det_or (det_ex0 fun b => det_ex0 fun p => det_ex0 fun n => det_ex0 fun c => det_and (det_ex0 fun l => det_ex0 fun h => det_ex0 fun m => det_and (det_and (det_and (det_and (det_and (det_and (det_and (det_k _))))))))) <| det_ex0 fun es => det_and (det_ex0 fun l => det_ex0 fun h => det_and (det_and (det_and (det_and (det_and (det_or (det_and (det_k _)) (det_and (det_and (det_and (det_k _))))))))))
    | _ => exact det_false
theorem det_load {i : Option TK} {σ : St} {x : AV} : Det (aLoad i σ x) := by
  cases i with
  | none => exact det_false
  | some i =>
    obtain ⟨ag, sz, zr, td⟩ := i
    cases x with
    | v c => cases c with
      | pointer p => cases p with
        | some a =>
          obtain ⟨b, p, s⟩ := a
          cases s with
          | none =>
            have e : ∀ K, aLoad (some ⟨ag, sz, zr, td⟩) σ (.v (.pointer (some ⟨b, p, none⟩))) K = (match σ b with
              | some (.cells cs) => if ag then p + sz ≤ cs.length ∧ K (.agg ((cs.drop p).take sz)) else p < cs.length ∧ K (cs.getD p (.v undef))
              | _ => False) := fun K => by simp only [aLoad]; rfl
            refine det_eq (funext e) ?_
            cases σ b with
            | none => exact det_false
            | some t => cases t with
              | cells cs => exact det_if (c := ag = true) (det_and (det_k _)) (det_and (det_k _))
              | _ => exact det_false
          | some _ => exact det_false
        | none => exact det_false
      | _ => exact det_false
    | fp cs =>
      refine det_eq (funext fun K => by unfold aLoad; rfl) (det_if (det_and (det_k _)) (det_and (det_k _)))
    | rp b q j f =>
      have e : ∀ K, aLoad (some ⟨ag, sz, zr, td⟩) σ (.rp b q j f) K = (match σ b with
        | some (.rows q' es _ _) => q' = q ∧ j < es.length ∧ (if ag then f + sz ≤ q ∧ K (.agg (((es.getD j []).drop f).take sz)) else f < q ∧ K ((es.getD j []).getD f (.v undef)))
        | _ => False) := fun K => by simp only [aLoad]; rfl
      refine det_eq (funext e) ?_
      cases σ b with
      | none => exact det_false
      | some t => cases t with
        | rows q' es frz cap => exact det_and (det_and (det_if (c := ag = true) (det_and (det_k _)) (det_and (det_k _))))
        | _ => exact det_false
    | _ => exact det_false
theorem det_fill {fs : Nat → Option (Nat × Nat)} : ∀ (r : List (Nat × AV)) (cs : List AV), Det fun K => aFill fs K cs r
  | [], cs => det_k _
  | (j, x) :: r, cs => by
    cases h : fs j with
    | none => refine det_eq (funext fun K => ?_) det_false; simp [aFill, h]
    | some q =>
      obtain ⟨off, sz⟩ := q
      refine det_eq (funext fun K => ?_) (det_and (p := x.cells.length = sz) (det_and (p := off + sz ≤ cs.length) (det_fill (fs := fs) r (splice cs off x.cells))))
      simp [aFill, h]
theorem det_fillS {q : Nat} : ∀ (r : List (Nat × AV)) (es : List (List AV)), Det fun K => aFillS q (fun es => K (.fsl q es)) es r
  | [], es => det_k _
  | (j, x) :: r, es => det_and (det_and (det_and (det_fillS r _)))
theorem det_build {i : Option TK} {ps : List (Nat × AV)} : Det (aBuild i ps) := by
  cases i with
  | none => exact det_false
  | some i =>
    obtain ⟨ag, sz, zr, td⟩ := i
    cases td with
    | st fs => exact det_fill _ _
    | arr m esz eag => exact det_fill _ _
    | _ => exact det_false
theorem det_buildS {i : Option TK} {n : Nat} {ps : List (Nat × AV)} : Det (aBuildS i n ps) := by
  cases i with
  | none => exact det_false
  | some i =>
    obtain ⟨ag, sz, zr, td⟩ := i
    cases td with
    | sl esz eby ez byt => exact det_and (det_and (det_and (det_fillS _ _)))
    | _ => exact det_false
theorem det_un {op : UnOp} {x : AV} : Det (aUn op x) := by
  cases op <;> cases x <;> first
    | exact det_false
    | (rename_i x; cases x <;> first | exact det_false | exact det_k _)
theorem det_int {op : BinOp} {k : IntKind} {x y : Int} : Det (aInt op k x y) := by
  cases op <;> first | exact det_false | exact det_k _ | exact det_and (det_k _)
theorem det_str {op : BinOp} {x y : ByteArray} : Det (aStr op x y) := by
  cases op <;> first | exact det_false | exact det_k _ | exact det_and (det_k _)
theorem det_min {x y : AV} : Det (aMin x y) := by
  intro K h
  unfold aMin at h
  split at h
  · exact ⟨_, h, fun K' hk => hk⟩
  · exact h.elim
theorem det_max {x y : AV} : Det (aMax x y) := by
  intro K h
  unfold aMax at h
  split at h
  · exact ⟨_, h, fun K' hk => hk⟩
  · exact h.elim
theorem det_mki {P : Program} {t : TypeId} {x : AV} : Det (aMkI P t x) := by
  cases x with
  | v x => exact det_and (det_k _)
  | _ => exact det_and det_false
theorem det_tya {P : Program} {u : TypeId} {x : AV} : Det (aTyA P u x) := by
  cases x with
  | v x => cases x with
    | iface t y => exact det_and (det_and (det_k _))
    | _ => exact det_and det_false
  | _ => exact det_and det_false
theorem det_look {P : Program} {i : Option TK} {σ : St} {m x : AV} {ok : Bool} : Det (aLook P i σ m x ok) := by
  intro K h
  unfold aLook at h
  split at h
  · rename_i i
    split at h
    · rename_i kt et htd
      split at h
      · rename_i kk ke x' hkk hke
        exact ⟨_, h.2, fun K' hk => by simp only [aLook, htd, hkk, hke]; exact ⟨h.1, hk⟩⟩
      · rename_i kk ke b x' hkk hke
        split at h
        · rename_i kv hb
          obtain ⟨h1, h2, h3⟩ := h
          split at h3
          · rename_i u hu
            exact ⟨_, h3, fun K' hk => by simp only [aLook, htd, hkk, hke, hb, hu]; exact ⟨h1, h2, hk⟩⟩
          · rename_i hu
            exact ⟨_, h3, fun K' hk => by simp only [aLook, htd, hkk, hke, hb, hu]; exact ⟨h1, h2, hk⟩⟩
        · exact h.elim
      · exact h.elim
    · exact h.elim
  · exact h.elim
theorem det_func {fn : Fn} {ev : Operand → AV} {l m : List Operand} : Det (aFunc fn ev l m) := by
  cases h1 : exacts ev l with
  | none => refine det_eq (funext fun K => ?_) det_false; simp [aFunc, h1]
  | some xs =>
    cases h2 : exacts ev m with
    | none => refine det_eq (funext fun K => ?_) det_false; simp [aFunc, h1, h2]
    | some ys => refine det_eq (funext fun K => ?_) (det_k (.v (.func fn xs.toArray ys.toArray))); simp [aFunc, h1, h2]
theorem det_eqv {P : Program} {neg : Bool} {t : TypeId} {x y : AV} (hsl : isSl P t = false) : Det (aEqv P neg t x y) := by
  intro K h
  unfold aEqv at h
  split at h
  · exact ⟨_, h.2, fun K' hk => ⟨h.1, hk⟩⟩
  · rename_i p
    refine ⟨_, h.2, fun K' hk => ?_⟩
    cases p <;> exact ⟨h.1, hk⟩
  · rename_i p hp
    refine ⟨_, h.2, fun K' hk => ?_⟩
    cases p with
    | none => exact (hp rfl).elim
    | some p => exact ⟨h.1, hk⟩
  · exact ⟨_, h.2, fun K' hk => ⟨h.1, hk⟩⟩
  · exact ⟨_, h.2, fun K' hk => ⟨h.1, hk⟩⟩
  · rw [hsl] at h; cases h.1
  · rw [hsl] at h; cases h.1
  · rw [hsl] at h; cases h.1
  · exact ⟨_, h.2, fun K' hk => ⟨h.1, hk⟩⟩
  · exact ⟨_, h.2, fun K' hk => ⟨h.1, hk⟩⟩
  · exact ⟨_, h.2, fun K' hk => ⟨h.1, hk⟩⟩
  · exact h.elim
theorem det_agg {P : Program} {neg : Bool} {t : TypeId} {x y : AV} : Det (aAgg P neg t x y) := by
  rintro K ⟨h1, h2, xs, ys, vs, ws, ls, e1, e2, e3, e4, e5, e6, e7, hk⟩
  exact ⟨_, hk, fun K' hk' => ⟨h1, h2, xs, ys, vs, ws, ls, e1, e2, e3, e4, e5, e6, e7, hk'⟩⟩
theorem det_eq2 {P : Program} {neg : Bool} {t : TypeId} {x y : AV} (hsl : isSl P t = false) : Det (aEq2 P neg t x y) := by
  cases h : aggV x with
  | none => exact det_eq (T' := aEqv P neg t x y) (funext fun K => by simp only [aEq2, h]) (det_eqv hsl)
  | some xs => exact det_eq (T' := aAgg P neg t x y) (funext fun K => by simp only [aEq2, h]) det_agg
theorem bin_dflt {P : Program} {op : BinOp} {t : TypeId} {x y : AV} : (∀ K, aBin P op t x y K = (match op with | .eql => aEq2 P false t x y K | .neq => aEq2 P true t x y K | _ => False)) ∨ Det (aBin P op t x y) := by
  cases x with
  | v x =>
    cases y with
    | v y =>
      cases x with
      | int k a =>
        cases y with
        | int k' b => exact .inr (det_and det_int)
        | _ => exact .inl fun K => rfl
      | string a =>
        cases y with
        | string b => exact .inr det_str
        | _ => exact .inl fun K => rfl
      | _ => exact .inl fun K => rfl
    | _ => exact .inl fun K => by cases x <;> rfl
  | _ => exact .inl fun K => rfl
theorem det_bin {P : Program} {op : BinOp} {t : TypeId} {x y : AV} (hsl : isSl P t = false) : Det (aBin P op t x y) := by
  rcases bin_dflt (P := P) (op := op) (t := t) (x := x) (y := y) with e | h
  · refine det_eq (funext e) ?_
    cases op <;> first | exact det_eq2 hsl | exact det_false
  · exact h
theorem mono_eqv {P : Program} {neg : Bool} {t : TypeId} {x y : AV} {K K' : AV → Prop} (hk : ∀ v, K v → K' v) (h : aEqv P neg t x y K) : aEqv P neg t x y K' := by
  unfold aEqv at h ⊢
  split at h <;> first
    | exact ⟨h.1, hk _ h.2⟩
    | exact ⟨h.1, fun e => hk _ (h.2.1 e), fun e b => hk _ (h.2.2 e b)⟩
    | exact h.elim
theorem mono_eq2 {P : Program} {neg : Bool} {t : TypeId} {x y : AV} {K K' : AV → Prop} (hk : ∀ v, K v → K' v) (h : aEq2 P neg t x y K) : aEq2 P neg t x y K' := by
  unfold aEq2 at h ⊢
  split at h
  · rename_i xs hx
    obtain ⟨v, h1, h2⟩ := det_agg K h
    exact h2 K' (hk v h1)
  · exact mono_eqv hk h
theorem mono_bin {P : Program} {op : BinOp} {t : TypeId} {x y : AV} {K K' : AV → Prop} (hk : ∀ v, K v → K' v) (h : aBin P op t x y K) : aBin P op t x y K' := by
  rcases bin_dflt (P := P) (op := op) (t := t) (x := x) (y := y) with e | hd
  · rw [e] at h ⊢
    cases op <;> first | exact mono_eq2 hk h | exact h
  · obtain ⟨v, h1, h2⟩ := hd K h
    exact h2 K' (hk v h1)
end Go.Av
