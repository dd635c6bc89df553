/-
  Two ends that hear each other's frames alone, late, lost and doubled: what one was told is a beginning of what the other one pushed (the plain law).
  Conditions: none.
-/
import Derived.Test.YtpdbmnogfanpmaaLh
set_option linter.unusedVariables false
set_option linter.unusedSimpArgs false
namespace Go.Proofs.Ytpdbmnogfanpmaa
open Go Go.Av

theorem many_app (a n k : Nat) : many a n ++ many (a + n) k = many a (n + k) := by
  simp [many, ← List.map_append, List.range'_append_1]
theorem many_cons (a n : Nat) : many a (n + 1) = itm (a : Int) :: many (a + 1) n := by
  simp [many, List.range'_succ]

/-- What came ahead: items of the other one. -/
def Er (U : Nat) (e : List (Int × Itm)) : Prop := ∀ q ∈ e, ∃ k : Nat, q = (((k + 1 : Nat) : Int), itm (k : Int)) ∧ k < U
theorem Er.find {U : Nat} {j : Int} : ∀ {e : List (Int × Itm)} {x : Itm}, Er U e → eFind j e = some x → ∃ k : Nat, j = ((k + 1 : Nat) : Int) ∧ x = itm (k : Int) ∧ k < U
  | (a, y) :: l, x, h, hf => by
    simp only [eFind] at hf
    split at hf
    · rename_i hj
      injection hf with hf
      obtain ⟨k, hk, hu⟩ := h (a, y) (by simp)
      injection hk with h1 h2
      exact ⟨k, by rw [hj, h1], by rw [← hf, h2], hu⟩
    · exact Er.find (fun q hq => h q (by simp [hq])) hf
theorem eDel_sub {j : Int} : ∀ {e : List (Int × Itm)} {q : Int × Itm}, q ∈ eDel j e → q ∈ e
  | (a, y) :: l, q, h => by
    simp only [eDel] at h
    split at h
    · exact List.mem_cons_of_mem _ h
    · rcases List.mem_cons.1 h with rfl | h
      · exact List.mem_cons_self ..
      · exact List.mem_cons_of_mem _ (eDel_sub h)
theorem Er.del {U : Nat} {j : Int} {e : List (Int × Itm)} (h : Er U e) : Er U (eDel j e) := fun q hq => h q (eDel_sub hq)
theorem Er.put {U : Nat} {k : Nat} (hk : k < U) : ∀ {e : List (Int × Itm)}, Er U e → Er U (ePut ((k + 1 : Nat) : Int) (itm k) e)
  | [], _ => fun q hq => by
    simp only [ePut, List.mem_singleton] at hq
    exact ⟨k, hq, hk⟩
  | (a, y) :: l, h => fun q hq => by
    simp only [ePut] at hq
    split at hq
    · rcases List.mem_cons.1 hq with rfl | hq
      · exact ⟨k, rfl, hk⟩
      · exact h q (by simp [hq])
    · rcases List.mem_cons.1 hq with rfl | hq
      · exact h _ (by simp)
      · exact Er.put hk (fun q hq => h q (by simp [hq])) q hq
theorem ePut_len (j : Int) (y : Itm) : ∀ (l : List (Int × Itm)), (ePut j y l).length ≤ l.length + 1
  | [] => by simp [ePut]
  | (a, x) :: l => by
    have := ePut_len j y l
    simp only [ePut]
    split <;> simp <;> omega
theorem ePut_find (j : Int) (y : Itm) : ∀ (l : List (Int × Itm)), eFind j (ePut j y l) = some y
  | [] => by simp [ePut, eFind]
  | (a, x) :: l => by
    have := ePut_find j y l
    simp only [ePut]
    split
    · simp [eFind]
    · rename_i h
      simp [eFind, h, this]
/-- What is told, one behind the other, are the other one's items in order. -/
theorem tell_many {U : Nat} : ∀ (n c : Nat) (e : List (Int × Itm)), Er U e → ∃ d : Nat, tell n (c : Int) e = (many c d, ((c + d : Nat) : Int), (tell n (c : Int) e).2.2) ∧ Er U (tell n (c : Int) e).2.2 ∧ (tell n (c : Int) e).2.2.length ≤ e.length ∧ (d = 0 ∨ c + d ≤ U) ∧ (0 < n → (∃ x, eFind ((c : Int) + 1) e = some x) → 0 < d)
  | 0, c, e, h => ⟨0, by simp [tell, many], h, Nat.le_refl _, .inl rfl, fun h => by omega⟩
  | n + 1, c, e, h => by
    cases hf : eFind ((c : Int) + 1) e with
    | none =>
      refine ⟨0, by simp [tell, hf, many], by simp only [tell, hf]; exact h, by simp [tell, hf], .inl rfl, fun _ ⟨x, hx⟩ => by cases hx⟩
    | some x =>
      obtain ⟨k, hk1, hk2, hk3⟩ := h.find hf
      have hkc : k = c := by omega
      subst hkc
      obtain ⟨d, h1, h2, h3, h4, _⟩ := tell_many n (k + 1) (eDel ((k : Int) + 1) e) h.del
      have hl := eDel_length hf
      rw [show ((k + 1 : Nat) : Int) = (k : Int) + 1 by omega] at h1 h2 h3
      refine ⟨d + 1, ?_, by simp only [tell, hf]; exact h2, by simp only [tell, hf]; omega, ?_, fun _ _ => by omega⟩
      · simp only [tell, hf]
        rw [h1, hk2, many_cons]
        simp only [Prod.mk.injEq, true_and, and_true]
        omega
      · rcases h4 with h4 | h4
        · subst h4; exact .inr (by omega)
        · exact .inr (by omega)

/-- A frame of the other one, of whom U items were pushed and C came. -/
def Fok (U C : Nat) (f : Frm) : Prop := ((f.seq = 0 ∧ f.it = itm0) ∨ ∃ k : Nat, f.seq = ((k + 1 : Nat) : Int) ∧ f.it = itm (k : Int) ∧ k < U) ∧ ∃ a : Nat, f.ack = (a : Int) ∧ a ≤ C
theorem Fok.mono {U C U' C' : Nat} {f : Frm} (h : Fok U C f) (hU : U ≤ U') (hC : C ≤ C') : Fok U' C' f := by
  obtain ⟨h1, a, h2, h3⟩ := h
  refine ⟨h1.imp_right fun ⟨k, k1, k2, k3⟩ => ⟨k, k1, k2, by omega⟩, a, h2, by omega⟩

structure PI (D : Nat → Sd) (g u c : Nat → Nat) (M : Nat) : Prop where
  gone : ∀ i, i < 2 → (D i).s.gone = g i
  came : ∀ i, i < 2 → (D i).s.came = c i
  pu : ∀ i, i < 2 → (D i).pu = u i
  wait : ∀ i, i < 2 → (D i).s.wait = many (g i) (u i - g i)
  gu : ∀ i, i < 2 → g i ≤ u i
  told : ∀ i, i < 2 → (D i).told = many 0 (c i)
  cu : ∀ i, i < 2 → c i ≤ u (1 - i)
  gc : ∀ i, i < 2 → g i ≤ c (1 - i)
  er : ∀ i, i < 2 → Er (u (1 - i)) (D i).s.early
  el : ∀ i, i < 2 → (D i).s.early.length ≤ M
  way : ∀ i, i < 2 → ∀ f ∈ (D i).way, Fok (u (1 - i)) (c (1 - i)) f
  wl : ∀ i, i < 2 → (D i).way.length ≤ 8 * M
  ul : ∀ i, i < 2 → u i ≤ 1000
  ml : M ≤ 1000000

def updn (g : Nat → Nat) (i n : Nat) : Nat → Nat := fun j => if j = i then n else g j
theorem updn_same {g : Nat → Nat} {i n : Nat} : updn g i n i = n := by simp [updn]
theorem updn_ne {g : Nat → Nat} {i j n : Nat} (h : j ≠ i) : updn g i n j = g j := by simp [updn, h]

theorem PI.fit {D : Nat → Sd} {g u c : Nat → Nat} {M i : Nat} (h : PI D g u c M) (hi : i < 2) : (D i).s.Fit := by
  have h1 := h.gone i hi
  have h2 := h.came i hi
  have h3 := h.wait i hi
  have h4 := h.ul i hi
  have h5 := h.gu i hi
  have h6 := h.cu i hi
  have h7 := h.ul (1 - i) (by omega)
  have h8 := h.el i hi
  have h9 := h.ml
  exact ⟨by omega, by omega, by omega, by omega, by rw [h3, many_len]; omega, by omega, by rw [h3]; exact many_args⟩

theorem Er.mono {U U' : Nat} {e : List (Int × Itm)} (h : Er U e) (hU : U ≤ U') : Er U' e := fun q hq => by
  obtain ⟨k, h1, h2⟩ := h q hq
  exact ⟨k, h1, by omega⟩
theorem PI.set {D : Nat → Sd} {g u c : Nat → Nat} {M i : Nat} (h : PI D g u c M) (hi : i < 2) {A : Sd} {g' u' c' M' : Nat} (a1 : A.s.gone = g') (a2 : A.s.came = c') (a3 : A.pu = u') (a4 : A.s.wait = many g' (u' - g')) (a5 : g' ≤ u') (a6 : A.told = many 0 c') (a7 : c' ≤ u (1 - i)) (a8 : g' ≤ c (1 - i))
    (a9 : c i ≤ c') (a10 : u i ≤ u') (a11 : Er (u (1 - i)) A.s.early) (a12 : A.s.early.length ≤ M') (a13 : ∀ f ∈ A.way, Fok (u (1 - i)) (c (1 - i)) f) (a14 : A.way.length ≤ 8 * M') (a15 : u' ≤ 1000) (a16 : M ≤ M') (a17 : M' ≤ 1000000) :
    PI (upd D i A) (updn g i g') (updn u i u') (updn c i c') M' := by
  have ho : ∀ j, j < 2 → j ≠ i → 1 - j = i ∧ 1 - i = j := fun j hj hji => by omega
  have hu : ∀ {α : Type} (P : Nat → α → Prop), True := fun _ => trivial
  refine ⟨fun j hj => ?_, fun j hj => ?_, fun j hj => ?_, fun j hj => ?_, fun j hj => ?_, fun j hj => ?_, fun j hj => ?_, fun j hj => ?_, fun j hj => ?_, fun j hj => ?_, fun j hj => ?_, fun j hj => ?_, fun j hj => ?_, a17⟩ <;> by_cases hji : j = i
  · subst hji; rw [upd_same, updn_same]; exact a1
  · rw [upd_ne hji, updn_ne hji]; exact h.gone j hj
  · subst hji; rw [upd_same, updn_same]; exact a2
  · rw [upd_ne hji, updn_ne hji]; exact h.came j hj
  · subst hji; rw [upd_same, updn_same]; exact a3
  · rw [upd_ne hji, updn_ne hji]; exact h.pu j hj
  · subst hji; rw [upd_same, updn_same, updn_same]; exact a4
  · rw [upd_ne hji, updn_ne hji, updn_ne hji]; exact h.wait j hj
  · subst hji; rw [updn_same, updn_same]; exact a5
  · rw [updn_ne hji, updn_ne hji]; exact h.gu j hj
  · subst hji; rw [upd_same, updn_same]; exact a6
  · rw [upd_ne hji, updn_ne hji]; exact h.told j hj
  · subst hji; rw [updn_same, updn_ne (by omega)]; exact a7
  · rw [updn_ne hji, (ho j hj hji).1, updn_same]; have := h.cu j hj; rw [(ho j hj hji).1] at this; omega
  · subst hji; rw [updn_same, updn_ne (by omega)]; exact a8
  · rw [updn_ne hji, (ho j hj hji).1, updn_same]; have := h.gc j hj; rw [(ho j hj hji).1] at this; omega
  · subst hji; rw [upd_same, updn_ne (by omega)]; exact a11
  · rw [upd_ne hji, (ho j hj hji).1, updn_same]; have := h.er j hj; rw [(ho j hj hji).1] at this; exact this.mono a10
  · subst hji; rw [upd_same]; exact a12
  · rw [upd_ne hji]; exact Nat.le_trans (h.el j hj) a16
  · subst hji; rw [upd_same, updn_ne (by omega), updn_ne (by omega)]; exact a13
  · rw [upd_ne hji, (ho j hj hji).1, updn_same, updn_same]; intro f hf; have := h.way j hj f hf; rw [(ho j hj hji).1] at this; exact this.mono a10 a9
  · subst hji; rw [upd_same]; exact a14
  · rw [upd_ne hji]; have := h.wl j hj; omega
  · subst hji; rw [updn_same]; exact a15
  · rw [updn_ne hji]; exact h.ul j hj

theorem ackd_many {s : Ls} {g u a : Nat} (h1 : s.gone = g) (h2 : s.wait = many g (u - g)) : ∃ g' : Nat, g' = max g a ∧ (s.ackd (a : Int)).gone = g' ∧ (s.ackd (a : Int)).wait = many g' (u - g') ∧ (s.ackd (a : Int)).came = s.came ∧ (s.ackd (a : Int)).early = s.early ∧ (s.ackd (a : Int)).owes = s.owes := by
  refine ⟨max g a, rfl, ?_⟩
  unfold Ls.ackd
  split
  · rename_i h
    have hm : max g a = a := by omega
    refine ⟨by simp only [hm], ?_, rfl, rfl, rfl⟩
    simp only [hm, h2, h1, many_drop]
    rw [show ((a : Int) - (g : Int)).toNat = a - g by omega, show g + (a - g) = a by omega, show u - g - (a - g) = u - a by omega]
  · rename_i h
    have hm : max g a = g := by omega
    rw [hm]
    exact ⟨h1, h2, rfl, rfl, rfl⟩

/-- One side hears one of the frames that are meant for it. -/
theorem PI.hear {D : Nat → Sd} {g u c : Nat → Nat} {M i : Nat} (h : PI D g u c M) (hM : M < 1000000) (hi : i < 2) {f : Frm} (hf : Fok (u (1 - i)) (c (1 - i)) f) (tl : AV) :
    ∃ (g' c' : Nat) (items : List Itm) (s' : Ls), (D i).s.hear f = ((items, 0), s') ∧ PI (upd D i { D i with s := s', tl := tl, told := (D i).told ++ items }) (updn g i g') (updn u i (u i)) (updn c i c') (M + 1) ∧ (g' : Int) = max (g i : Int) f.ack ∧ c i ≤ c' ∧ (∀ k : Nat, f.seq = ((k + 1 : Nat) : Int) → k ≤ c i → k + 1 ≤ c') ∧ s'.owes = ((D i).s.owes || decide (f.seq ≠ 0)) := by
  obtain ⟨hseq, a, ha, hac⟩ := hf
  have h1 := h.gone i hi
  have h2 := h.came i hi
  have h3 := h.wait i hi
  have h5 := h.gu i hi
  have h6 := h.cu i hi
  have h7 := h.gc i hi
  have hw : (D i).s.wait.length = u i - g i := by rw [h3, many_len]
  have hco := h.cu (1 - i) (by omega)
  rw [show 1 - (1 - i) = i by omega] at hco
  have n1 : ¬ (f.seq < 0 ∨ f.ack < 0 ∨ (D i).s.gone + (D i).s.wait.length < f.ack) := by
    rcases hseq with ⟨hs, _⟩ | ⟨k, hs, _⟩ <;> omega
  have n2 : ¬ (0 < f.seq ∧ ¬ (1 ≤ f.it.kind ∧ f.it.kind ≤ 4)) := by
    rcases hseq with ⟨hs, _⟩ | ⟨k, hs, hit, _⟩
    · omega
    · rw [hit, itm_kind]; omega
  obtain ⟨g', hg', k1, k2, k3, k4, k5⟩ := ackd_many (a := a) h1 h3
  have h8 := h.el i hi
  have h9 := h.wl i hi
  have h10 := h.ul i hi
  have h11 := h.er i hi
  have hto := h.told i hi
  by_cases hz : f.seq = 0
  · have hh : (D i).s.hear f = (([], 0), (D i).s.ackd a) := by unfold Ls.hear; rw [if_neg n1, if_neg n2, if_pos hz, ha]
    refine ⟨g', c i, [], (D i).s.ackd a, hh, ?_, by rw [ha]; omega, Nat.le_refl _, fun k hk => by omega, by rw [k5, hz]; simp⟩
    exact h.set hi k1 (k3.trans h2) (h.pu i hi) k2 (by omega) (by simp [hto]) h6 (by omega) (Nat.le_refl _) (Nat.le_refl _) (by rw [show ({ D i with s := (D i).s.ackd a, tl := tl, told := (D i).told ++ [] } : Sd).s.early = (D i).s.early from k4]; exact h11) (by show ((D i).s.ackd a).early.length ≤ _; rw [k4]; omega) (h.way i hi) (by show (D i).way.length ≤ _; omega) h10 (by omega) (by omega)
  · obtain ⟨k, hs, hit, hku⟩ : ∃ k : Nat, f.seq = ((k + 1 : Nat) : Int) ∧ f.it = itm (k : Int) ∧ k < u (1 - i) := by
      rcases hseq with ⟨h, _⟩ | h
      · exact absurd h hz
      · exact h
    have hE : Er (u (1 - i)) ((D i).s.kept f) ∧ ((D i).s.kept f).length ≤ M + 1 ∧ (k = c i → ∃ x, eFind ((c i : Int) + 1) ((D i).s.kept f) = some x) := by
      unfold Ls.kept
      split
      · rw [hs, hit]
        exact ⟨Er.put hku h11, by have := ePut_len ((k + 1 : Nat) : Int) (itm k) (D i).s.early; omega, fun e => ⟨itm k, by rw [show (c i : Int) + 1 = ((k + 1 : Nat) : Int) by omega]; exact ePut_find _ _ _⟩⟩
      · rename_i hn
        refine ⟨h11, by omega, fun e => ?_⟩
        cases hq : eFind f.seq (D i).s.early with
        | none => exact absurd ⟨hq, by omega, by omega⟩ hn
        | some x => exact ⟨x, by rw [show (c i : Int) + 1 = f.seq by omega]; exact hq⟩
    obtain ⟨hE1, hE2, hE3⟩ := hE
    obtain ⟨d, t1, t2, t3, t4, t5⟩ := tell_many ((D i).s.kept f).length (c i) ((D i).s.kept f) hE1
    have hh : (D i).s.hear f = ((many (c i) d, 0), { (D i).s.ackd a with owes := true, came := ((c i + d : Nat) : Int), early := (tell ((D i).s.kept f).length (c i) ((D i).s.kept f)).2.2 }) := by
      unfold Ls.hear
      rw [if_neg n1, if_neg n2, if_neg hz, ha, h2]
      simp only
      rw [t1]
    refine ⟨g', c i + d, many (c i) d, _, hh, ?_, by rw [ha]; omega, by omega, fun k' hk' hkc => ?_, by simp [hz]⟩
    · refine h.set hi k1 rfl (h.pu i hi) k2 (by omega) ?_ (by omega) (by omega) (by omega) (Nat.le_refl _) t2 (by show (tell ((D i).s.kept f).length (c i) ((D i).s.kept f)).2.2.length ≤ _; omega) (h.way i hi) (by show (D i).way.length ≤ _; omega) h10 (by omega) (by omega)
      show (D i).told ++ many (c i) d = _
      rw [hto]
      have := many_app 0 (c i) d
      rw [Nat.zero_add] at this
      exact this
    · have hkk : k' = k := by omega
      subst hkk
      by_cases hkc' : k' = c i
      · obtain ⟨x, hx⟩ := hE3 hkc'
        have hpos : 0 < ((D i).s.kept f).length := by
          cases hq : (D i).s.kept f with
          | nil => rw [hq] at hx; cases hx
          | cons _ _ => simp
        have := t5 hpos ⟨x, hx⟩
        omega
      · omega
/-- A frame less is on its way. -/
theorem PI.lose {D : Nat → Sd} {g u c : Nat → Nat} {M i : Nat} (h : PI D g u c M) (hi : i < 2) (k : Nat) (wl : AV) : PI (upd D i { D i with wl := wl, way := (D i).way.take k ++ (D i).way.drop (k + 1) }) (updn g i (g i)) (updn u i (u i)) (updn c i (c i)) M :=
  h.set hi (h.gone i hi) (h.came i hi) (h.pu i hi) (h.wait i hi) (h.gu i hi) (h.told i hi) (h.cu i hi) (h.gc i hi) (Nat.le_refl _) (Nat.le_refl _) (h.er i hi) (h.el i hi) (fun f hf => by
    rcases List.mem_append.1 hf with hf | hf
    · exact h.way i hi f (List.mem_of_mem_take hf)
    · exact h.way i hi f (List.mem_of_mem_drop hf)) (by have := h.wl i hi; simp; omega) (h.ul i hi) (Nat.le_refl _) h.ml
theorem PI.more {D : Nat → Sd} {g u c : Nat → Nat} {M M' : Nat} (h : PI D g u c M) (hM : M ≤ M') (hM' : M' ≤ 1000000) : PI D g u c M' :=
  ⟨h.gone, h.came, h.pu, h.wait, h.gu, h.told, h.cu, h.gc, h.er, fun i hi => Nat.le_trans (h.el i hi) hM, h.way, fun i hi => by have := h.wl i hi; omega, h.ul, hM'⟩
theorem updn_self (g : Nat → Nat) (i : Nat) : updn g i (g i) = g := by
  funext j
  unfold updn
  split
  · rename_i h; rw [h]
  · rfl
/-- One more is pushed. -/
theorem PI.push {D : Nat → Sd} {g u c : Nat → Nat} {M i : Nat} (h : PI D g u c M) (hi : i < 2) (hu : u i < 1000) : (D i).s.push (itm (u i)) = (0, { (D i).s with wait := many (g i) (u i + 1 - g i) }) ∧ PI (upd D i { D i with s := { (D i).s with wait := many (g i) (u i + 1 - g i) }, pu := ((u i + 1 : Nat) : Int) }) (updn g i (g i)) (updn u i (u i + 1)) (updn c i (c i)) M := by
  have h3 := h.wait i hi
  have h5 := h.gu i hi
  refine ⟨?_, h.set hi (h.gone i hi) (h.came i hi) rfl rfl (by omega) (h.told i hi) (h.cu i hi) (h.gc i hi) (Nat.le_refl _) (by omega) (h.er i hi) (h.el i hi) (h.way i hi) (h.wl i hi) (by omega) (Nat.le_refl _) h.ml⟩
  unfold Ls.push
  rw [if_pos (by rw [itm_kind]; decide), if_neg (by rw [h3, many_len]; omega), h3, show u i + 1 - g i = (u i - g i) + 1 by omega, many_succ, show g i + (u i - g i) = u i by omega]
/-- One side ticks: its frames are on their way to the other one. -/
theorem PI.frames {D : Nat → Sd} {g u c : Nat → Nat} {M i : Nat} (h : PI D g u c M) (hi : i < 2) : (∀ f ∈ (D i).s.tick.1, Fok (u i) (c i) f ∧ f.ack = (c i : Int)) ∧ (D i).s.tick.1.length ≤ 8 := by
  have h1 := h.gone i hi
  have h2 := h.came i hi
  have h3 := h.wait i hi
  have h5 := h.gu i hi
  unfold Ls.tick
  split
  · split
    · exact ⟨fun f hf => by
        obtain rfl : f = ⟨0, (D i).s.came, itm0⟩ := by simpa using hf
        exact ⟨⟨.inl ⟨rfl, rfl⟩, c i, h2, Nat.le_refl _⟩, h2⟩, by simp⟩
    · exact ⟨fun f hf => by simp at hf, by simp⟩
  · refine ⟨fun f hf => ?_, by rw [frames_len]; omega⟩
    simp only [Ls.frames] at hf
    obtain ⟨j, hj, rfl⟩ := List.mem_mapIdx.1 hf
    simp only [List.length_take, h3, many_len] at hj
    refine ⟨⟨.inr ⟨g i + j, by simp only; omega, ?_, by omega⟩, c i, h2, Nat.le_refl _⟩, h2⟩
    simp only [List.getElem_take]
    have : (D i).s.wait[j]'(by rw [h3, many_len]; omega) = itm ((g i + j : Nat) : Int) := by
      have e := many_get (g i) (u i - g i) j (by rw [many_len]; omega)
      rw [← e]
      congr 1
    exact this
theorem PI.ticked {D : Nat → Sd} {g u c : Nat → Nat} {M i : Nat} (h : PI D g u c M) (hi : i < 2) : PI (upd D i { D i with s := (D i).s.tick.2 }) (updn g i (g i)) (updn u i (u i)) (updn c i (c i)) M :=
  h.set hi (h.gone i hi) (h.came i hi) (h.pu i hi) (h.wait i hi) (h.gu i hi) (h.told i hi) (h.cu i hi) (h.gc i hi) (Nat.le_refl _) (Nat.le_refl _) (h.er i hi) (h.el i hi) (h.way i hi) (h.wl i hi) (h.ul i hi) (Nat.le_refl _) h.ml
theorem PI.sent {D : Nat → Sd} {g u c : Nat → Nat} {M i : Nat} (h : PI D g u c M) (hM : M < 1000000) (hi : i < 2) {fs : List Frm} (hf : ∀ f ∈ fs, Fok (u (1 - i)) (c (1 - i)) f) (hl : fs.length ≤ 8) (wl : AV) : PI (upd D i { D i with wl := wl, way := (D i).way ++ fs }) (updn g i (g i)) (updn u i (u i)) (updn c i (c i)) (M + 1) :=
  h.set hi (h.gone i hi) (h.came i hi) (h.pu i hi) (h.wait i hi) (h.gu i hi) (h.told i hi) (h.cu i hi) (h.gc i hi) (Nat.le_refl _) (Nat.le_refl _) (h.er i hi) (by have := h.el i hi; show (D i).s.early.length ≤ _; omega) (fun f hq => by
    rcases List.mem_append.1 hq with hq | hq
    · exact h.way i hi f hq
    · exact hf f hq) (by have := h.wl i hi; simp; omega) (h.ul i hi) (by omega) (by omega)
end Go.Proofs.Ytpdbmnogfanpmaa
