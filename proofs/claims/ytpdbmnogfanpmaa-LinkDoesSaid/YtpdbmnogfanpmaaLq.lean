/-
  The plain law: an end and the document's answer alike.
  Conditions: none.
-/
import Derived.Test.YtpdbmnogfanpmaaLp
set_option linter.unusedVariables false
set_option linter.unusedSimpArgs false
namespace Go.Proofs.Ytpdbmnogfanpmaa
open Go Go.Av

/-- No number twice. -/
def Nd : List (Int × Itm) → Prop
  | [] => True
  | (j, _) :: l => eFind j l = none ∧ Nd l
theorem find_put {k k0 : Int} {y : Itm} : ∀ l, eFind k (ePut k0 y l) = if k = k0 then some y else eFind k l
  | [] => by simp only [ePut, eFind]
  | (j, x) :: l => by
    simp only [ePut]
    by_cases h : k0 = j
    · subst h
      rw [if_pos rfl]
      simp only [eFind]
      split <;> rfl
    · rw [if_neg h]
      simp only [eFind, find_put l]
      by_cases h1 : k = j
      · subst h1; rw [if_pos rfl, if_neg (Ne.symm h), if_pos rfl]
      · rw [if_neg h1, if_neg h1]
theorem nd_put {k0 : Int} {y : Itm} : ∀ l, Nd l → Nd (ePut k0 y l)
  | [], _ => ⟨rfl, trivial⟩
  | (j, x) :: l, h => by
    simp only [ePut]
    by_cases h0 : k0 = j
    · subst h0; rw [if_pos rfl]; exact h
    · rw [if_neg h0]
      exact ⟨by rw [find_put, if_neg (Ne.symm h0)]; exact h.1, nd_put l h.2⟩
theorem find_app {k k0 : Int} {y : Itm} : ∀ l, eFind k0 l = none → eFind k (l ++ [(k0, y)]) = if k = k0 then some y else eFind k l
  | [], _ => by simp only [List.nil_append, eFind]
  | (j, x) :: l, h => by
    simp only [eFind] at h
    split at h
    · cases h
    · rename_i hj
      simp only [List.cons_append, eFind, find_app l h]
      by_cases h1 : k = j
      · subst h1; rw [if_pos rfl, if_neg (Ne.symm hj), if_pos rfl]
      · rw [if_neg h1, if_neg h1]
theorem nd_app {k0 : Int} {y : Itm} : ∀ l, Nd l → eFind k0 l = none → Nd (l ++ [(k0, y)])
  | [], _, _ => ⟨rfl, trivial⟩
  | (j, x) :: l, hn, h => by
    simp only [eFind] at h
    split at h
    · cases h
    · rename_i hj
      exact ⟨by show eFind j (l ++ [(k0, y)]) = none; rw [find_app l h, if_neg (Ne.symm hj)]; exact hn.1, nd_app l hn.2 h⟩
theorem find_del {k k0 : Int} : ∀ l, Nd l → eFind k (eDel k0 l) = if k = k0 then none else eFind k l
  | [], _ => by simp only [eDel, eFind]; split <;> rfl
  | (j, x) :: l, hn => by
    simp only [eDel]
    by_cases h : k0 = j
    · subst h
      rw [if_pos rfl]
      by_cases h1 : k = k0
      · subst h1; rw [if_pos rfl]; exact hn.1
      · rw [if_neg h1]; simp only [eFind]; rw [if_neg h1]
    · rw [if_neg h]
      simp only [eFind, find_del l hn.2]
      by_cases h1 : k = j
      · subst h1; rw [if_pos rfl, if_neg (Ne.symm h), if_pos rfl]
      · rw [if_neg h1, if_neg h1]
theorem nd_del {k0 : Int} : ∀ l, Nd l → Nd (eDel k0 l)
  | [], _ => trivial
  | (j, x) :: l, hn => by
    simp only [eDel]
    split
    · exact hn.2
    · exact ⟨by rw [find_del l hn.2]; split; rfl; exact hn.1, nd_del l hn.2⟩
theorem put_len {k0 : Int} {y : Itm} : ∀ l, (ePut k0 y l).length ≤ l.length + 1
  | [] => Nat.le_refl _
  | (j, x) :: l => by
    simp only [ePut]
    split
    · simp
    · simpa using put_len l

/-- Two lists in which the same is found. -/
structure Same (a b : List (Int × Itm)) : Prop where
  fd : ∀ k, eFind k a = eFind k b
  na : Nd a
  nb : Nd b
theorem find_len {k : Int} {l : List (Int × Itm)} {x : Itm} (h : eFind k l = some x) : l.length = (eDel k l).length + 1 := (eDel_length h).symm
theorem tell_same : ∀ (n m : Nat) (c : Int) (a b : List (Int × Itm)), Same a b → a.length ≤ n → b.length ≤ m → (tell n c a).1 = (tell m c b).1 ∧ (tell n c a).2.1 = (tell m c b).2.1 ∧ Same (tell n c a).2.2 (tell m c b).2.2
  | 0, m, c, a, b, h, ha, hb => by
    have : a = [] := List.eq_nil_of_length_eq_zero (by omega)
    subst this
    have hn : eFind (c + 1) b = none := (h.fd _).symm
    cases m with
    | zero => exact ⟨rfl, rfl, h⟩
    | succ m => simp only [tell, hn]; exact ⟨trivial, trivial, h⟩
  | n + 1, m, c, a, b, h, ha, hb => by
    cases he : eFind (c + 1) a with
    | none =>
      have hn : eFind (c + 1) b = none := by rw [← h.fd]; exact he
      cases m with
      | zero => simp only [tell, he]; exact ⟨trivial, trivial, h⟩
      | succ m => simp only [tell, he, hn]; exact ⟨trivial, trivial, h⟩
    | some x =>
      have hn : eFind (c + 1) b = some x := by rw [← h.fd]; exact he
      have l1 := find_len he
      have l2 := find_len hn
      cases m with
      | zero => omega
      | succ m =>
        obtain ⟨h1, h2, h3⟩ := tell_same n m (c + 1) (eDel (c + 1) a) (eDel (c + 1) b) ⟨fun k => by rw [find_del a h.na, find_del b h.nb, h.fd], nd_del a h.na, nd_del b h.nb⟩ (by omega) (by omega)
        simp only [tell, he, hn]
        exact ⟨by rw [h1], h2, h3⟩
theorem tell_sum : ∀ (n : Nat) (c : Int) (e : List (Int × Itm)), (tell n c e).2.1 + (tell n c e).2.2.length = c + e.length ∧ c ≤ (tell n c e).2.1
  | 0, c, e => ⟨rfl, Int.le_refl _⟩
  | n + 1, c, e => by
    simp only [tell]
    cases he : eFind (c + 1) e with
    | none => exact ⟨rfl, Int.le_refl _⟩
    | some x =>
      have l1 := find_len he
      obtain ⟨h1, h2⟩ := tell_sum n (c + 1) (eDel (c + 1) e)
      simp only []
      omega
theorem tell_len : ∀ (n : Nat) (c : Int) (e : List (Int × Itm)), (tell n c e).1.length ≤ n
  | 0, c, e => Nat.le_refl _
  | n + 1, c, e => by
    simp only [tell]
    cases he : eFind (c + 1) e with
    | none => simp
    | some x =>
      have := tell_len n (c + 1) (eDel (c + 1) e)
      simp only [List.length_cons]
      omega
def Lit1 (x : Itm) : Prop := x.args.length ≤ 4398046510976
theorem find_all {k : Int} : ∀ {l : List (Int × Itm)} {x : Itm}, (∀ p ∈ l, Lit1 p.2) → eFind k l = some x → Lit1 x
  | (j, y) :: l, x, h, he => by
    simp only [eFind] at he
    split at he
    · injection he with he; subst he; exact h (j, y) (by simp)
    · exact find_all (fun p hp => h p (by simp [hp])) he
theorem del_all {k : Int} : ∀ {l : List (Int × Itm)}, (∀ p ∈ l, Lit1 p.2) → ∀ p ∈ eDel k l, Lit1 p.2
  | [], h => h
  | (j, y) :: l, h => by
    simp only [eDel]
    split
    · exact fun p hp => h p (by simp [hp])
    · intro p hp
      rcases List.mem_cons.1 hp with rfl | hp
      · exact h _ (by simp)
      · exact del_all (fun p hp => h p (by simp [hp])) p hp
theorem tell_all : ∀ (n : Nat) (c : Int) (e : List (Int × Itm)), (∀ p ∈ e, Lit1 p.2) → (∀ x ∈ (tell n c e).1, Lit1 x) ∧ ∀ p ∈ (tell n c e).2.2, Lit1 p.2
  | 0, c, e, h => ⟨(fun x hx => by cases hx), h⟩
  | n + 1, c, e, h => by
    simp only [tell]
    cases he : eFind (c + 1) e with
    | none => exact ⟨(fun x hx => by cases hx), h⟩
    | some x =>
      obtain ⟨h1, h2⟩ := tell_all n (c + 1) (eDel (c + 1) e) (del_all h)
      refine ⟨fun y hy => ?_, h2⟩
      rcases List.mem_cons.1 hy with rfl | hy
      · exact find_all h he
      · exact h1 y hy

/-- An end, and the document's answer, behind i acts. -/
structure Alike (i : Nat) (s : Ls) (R : Rs) : Prop where
  wt : s.wait = R.L.drop R.gone
  g : s.gone = R.gone
  cm : s.came = R.came
  ow : s.owes = R.owes
  ea : Same s.early R.kept
  gl : R.gone ≤ R.L.length
  ln : R.L.length ≤ i
  c0 : 0 ≤ R.came
  c1 : R.came + R.kept.length ≤ i
  c2 : s.came + s.early.length ≤ i
  a1 : ∀ x ∈ R.L, Lit1 x
  a2 : ∀ p ∈ R.kept, Lit1 p.2

section
variable {i : Nat} {s : Ls} {R : Rs}
theorem Alike.wl (h : Alike i s R) : s.wait.length = R.L.length - R.gone := by rw [h.wt, List.length_drop]
theorem Alike.aw (h : Alike i s R) : ∀ x ∈ s.wait, Lit1 x := fun x hx => h.a1 x (List.mem_of_mem_drop (by rw [← h.wt]; exact hx))
theorem Alike.lv (h : Alike i s R) (lv : AV) : Alike i s { R with lv := lv } := ⟨h.wt, h.g, h.cm, h.ow, h.ea, h.gl, h.ln, h.c0, h.c1, h.c2, h.a1, h.a2⟩
theorem Alike.kv (h : Alike i s R) (kv : AV) : Alike i s { R with kv := kv } := ⟨h.wt, h.g, h.cm, h.ow, h.ea, h.gl, h.ln, h.c0, h.c1, h.c2, h.a1, h.a2⟩
theorem Alike.more (h : Alike i s R) : Alike (i + 1) s R := by
  have h1 := h.ln; have h2 := h.c1; have h3 := h.c2
  exact ⟨h.wt, h.g, h.cm, h.ow, h.ea, h.gl, by omega, h.c0, by omega, by omega, h.a1, h.a2⟩

theorem Alike.push (h : Alike i s R) {x : Itm} (hx : Lit1 x) (lv : AV) : (s.push x).1 = (R.push x).1 ∧ Alike (i + 1) (s.push x).2 { R with L := (R.push x).2, lv := lv } := by
  have hw := h.wl
  have hg := h.gl
  unfold Ls.push Rs.push
  by_cases hk : 1 ≤ x.kind ∧ x.kind ≤ 4
  · rw [if_pos hk, if_pos hk]
    by_cases hf : 1024 ≤ s.wait.length
    · rw [if_pos hf, if_pos (by omega)]
      exact ⟨rfl, (h.more).lv lv⟩
    · rw [if_neg hf, if_neg (by omega)]
      have h1 := h.ln; have h2 := h.c1; have h3 := h.c2
      refine ⟨rfl, ⟨?_, h.g, h.cm, h.ow, h.ea, by simp; omega, by simp; omega, h.c0, ?_, ?_, ?_, h.a2⟩⟩
      · simp only [h.wt]
        rw [List.drop_append_of_le_length hg]
      · simp only []; omega
      · simp only []; omega
      · intro y hy
        simp only [List.mem_append, List.mem_singleton] at hy
        rcases hy with hy | rfl
        · exact h.a1 y hy
        · exact hx
  · rw [if_neg hk, if_neg hk]
    exact ⟨rfl, (h.more).lv lv⟩

theorem Alike.tick (h : Alike i s R) : s.tick.1 = R.abs.tick.1 ∧ Alike (i + 1) s.tick.2 { R with owes := false } := by
  refine ⟨?_, ?_⟩
  · unfold Ls.tick Ls.frames Rs.abs
    simp only [← h.wt, ← h.g, ← h.cm, ← h.ow]
  · have h' := h.more
    exact ⟨h.wt, h.g, h.cm, rfl, h.ea, h.gl, h'.ln, h.c0, h'.c1, h'.c2, h.a1, h.a2⟩
theorem Alike.ticked (h : Alike i s R) : ∀ f ∈ s.tick.1, Lit1 f.it := by
  intro f hf
  unfold Ls.tick at hf
  simp only at hf
  split at hf
  · split at hf
    · simp at hf; subst hf; exact Nat.zero_le _
    · cases hf
  · unfold Ls.frames at hf
    rw [List.mem_mapIdx] at hf
    obtain ⟨j, hj, rfl⟩ := hf
    exact h.aw _ (List.mem_of_mem_take (List.getElem_mem _))
theorem Alike.tlen (h : Alike i s R) : s.tick.1.length ≤ 8 := by
  unfold Ls.tick
  simp only
  split
  · split <;> simp
  · rw [frames_len]; omega

theorem Alike.ackd (h : Alike i s R) {a : Int} (h0 : 0 ≤ a) (h1 : a ≤ R.L.length) : Alike i (s.ackd a) (R.ackd a) := by
  unfold Ls.ackd Rs.ackd
  have hg := h.g
  by_cases hh : s.gone < a
  · rw [if_pos hh, if_pos (by omega)]
    refine ⟨?_, by simp only []; omega, h.cm, h.ow, h.ea, by simp only []; omega, h.ln, h.c0, h.c1, h.c2, h.a1, h.a2⟩
    simp only [h.wt, List.drop_drop]
    congr 1
    omega
  · rw [if_neg hh, if_neg (by omega)]
    exact h

theorem Alike.keep (h : Alike i s R) {f : Frm} (hx : Lit1 f.it) : Same (s.kept f) (R.keep f) ∧ (∀ p ∈ R.keep f, Lit1 p.2) ∧ (R.keep f).length ≤ R.kept.length + 1 ∧ (s.kept f).length ≤ s.early.length + 1 := by
  unfold Ls.kept Rs.keep
  have he := h.ea
  have hc := h.cm
  by_cases hh : R.came < f.seq ∧ f.seq - R.came ≤ 8 ∧ eFind f.seq R.kept = none
  · rw [if_pos hh, if_pos ⟨by rw [he.fd]; exact hh.2.2, by omega, by omega⟩]
    refine ⟨⟨fun k => by rw [find_put, find_app _ hh.2.2, he.fd], nd_put _ he.na, nd_app _ he.nb hh.2.2⟩, fun p hp => ?_, by simp, put_len _⟩
    rcases List.mem_append.1 hp with hp | hp
    · exact h.a2 p hp
    · simp at hp; subst hp; exact hx
  · rw [if_neg hh, if_neg (fun h' => hh ⟨by omega, by omega, by rw [← he.fd]; exact h'.1⟩)]
    exact ⟨he, h.a2, by omega, by omega⟩

theorem Alike.hear (h : Alike i s R) {f : Frm} (hx : Lit1 f.it) (kv : AV) : (s.hear f).1 = (R.hear f).1 ∧ Alike (i + 1) (s.hear f).2 { (R.hear f).2 with kv := kv } ∧ (∀ x ∈ (s.hear f).1.1, Lit1 x) ∧ (s.hear f).1.1.length ≤ i + 1 := by
  have hw := h.wl
  have hg := h.gl
  have hgs := h.g
  unfold Ls.hear Rs.hear
  by_cases h1 : f.seq < 0 ∨ f.ack < 0 ∨ s.gone + s.wait.length < f.ack
  · have h1' : f.seq < 0 ∨ f.ack < 0 ∨ (R.L.length : Int) < f.ack := by omega
    rw [if_pos h1, if_pos h1']
    exact ⟨rfl, h.more.kv kv, (fun x hx => by cases hx), Nat.zero_le _⟩
  have h1' : ¬ (f.seq < 0 ∨ f.ack < 0 ∨ (R.L.length : Int) < f.ack) := by omega
  rw [if_neg h1, if_neg h1']
  by_cases h2 : 0 < f.seq ∧ ¬ (1 ≤ f.it.kind ∧ f.it.kind ≤ 4)
  · rw [if_pos h2, if_pos h2]
    exact ⟨rfl, h.more.kv kv, (fun x hx => by cases hx), Nat.zero_le _⟩
  rw [if_neg h2, if_neg h2]
  have ha := h.ackd (a := f.ack) (by omega) (by omega)
  by_cases h3 : f.seq = 0
  · rw [if_pos h3, if_pos h3]
    exact ⟨rfl, ha.more.kv kv, (fun x hx => by cases hx), Nat.zero_le _⟩
  rw [if_neg h3, if_neg h3]
  obtain ⟨k1, k2, k3, k4⟩ := h.keep hx
  obtain ⟨t1, t2, t3⟩ := tell_same (s.kept f).length (R.keep f).length s.came _ _ k1 (Nat.le_refl _) (Nat.le_refl _)
  obtain ⟨u1, u2⟩ := tell_all (R.keep f).length R.came _ k2
  have v1 := tell_sum (R.keep f).length R.came (R.keep f)
  have v2 := tell_sum (s.kept f).length s.came (s.kept f)
  have v3 := tell_len (R.keep f).length R.came (R.keep f)
  have c1 := h.c1
  have c2 := h.c2
  have c0 := h.c0
  rw [h.cm] at t1 t2 t3 v2
  simp only [Rs.heard, h.cm]
  refine ⟨by rw [t1], ⟨ha.wt, ha.g, t2, rfl, t3, ha.gl, ha.more.ln, by simp only []; omega, by simp only []; omega, ?_, ha.a1, u2⟩, by rw [t1]; exact u1, by rw [t1]; omega⟩
  simp only []
  rw [h.cm] at c2
  omega
end
end Go.Proofs.Ytpdbmnogfanpmaa
