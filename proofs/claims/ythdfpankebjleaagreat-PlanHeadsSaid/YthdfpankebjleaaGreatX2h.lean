/-
  Contracts of the functions that the statement reaches, and the plain laws of what they reckon.
  Conditions: none.
-/
import Derived.Test.YthdfpankebjleaaGreatRows
import Derived.RecoverIn
import Derived.BigFrame
import Derived.Test.YthdfpankebjleaaGreatV1
import Derived.Test.YthdfpankebjleaaGreatV2
import Derived.Test.YthdfpankebjleaaGreatV3
import Derived.Test.YthdfpankebjleaaGreatX1h
set_option linter.unusedVariables false
set_option linter.unusedSimpArgs false
set_option linter.unusedSectionVars false
set_option maxRecDepth 100000
/-
  The program's finder: literal by literal, in the plan's order.
  Conditions: none.
-/
namespace Go.Proofs.YthdfpankebjleaaGreat
open Go Go.Av

def fiC (r : Rl) (ov : AV) (f : Fa) (lv gv xv : AV) (first : Int) : List AV := r.cs ++ ov :: (f.cs ++ [lv, gv, xv, int first])
section
variable (r : Rl) (ov : AV) (f : Fa) (lv gv xv : AV) (first : Int)
@[go_sem] theorem fiC_len : (fiC r ov f lv gv xv first).length = 20 := rfl
@[go_sem] theorem fiC_0 : (fiC r ov f lv gv xv first).take 4 = r.ho.cs := rfl
@[go_sem] theorem fiC_10 : ((fiC r ov f lv gv xv first).drop 10).getD 0 (.v undef) = .sl 10 (liC r.bo) := rfl
@[go_sem] theorem fiC_11 : ((fiC r ov f lv gv xv first).drop 11).getD 0 (.v undef) = ov := rfl
@[go_sem] theorem fiC_12 : ((fiC r ov f lv gv xv first).drop 12).take 4 = f.cs := rfl
@[go_sem] theorem fiC_16 : ((fiC r ov f lv gv xv first).drop 16).getD 0 (.v undef) = lv := rfl
@[go_sem] theorem fiC_17 : ((fiC r ov f lv gv xv first).drop 17).getD 0 (.v undef) = gv := rfl
@[go_sem] theorem fiC_18 : ((fiC r ov f lv gv xv first).drop 18).getD 0 (.v undef) = xv := rfl
@[go_sem] theorem fiC_19 : ((fiC r ov f lv gv xv first).drop 19).getD 0 (.v undef) = int first := rfl
@[go_sem] theorem fiC_g10 : (fiC r ov f lv gv xv first).getD 10 (.v undef) = .sl 10 (liC r.bo) := rfl
@[go_sem] theorem fiC_g11 : (fiC r ov f lv gv xv first).getD 11 (.v undef) = ov := rfl
@[go_sem] theorem fiC_g16 : (fiC r ov f lv gv xv first).getD 16 (.v undef) = lv := rfl
@[go_sem] theorem fiC_g17 : (fiC r ov f lv gv xv first).getD 17 (.v undef) = gv := rfl
@[go_sem] theorem fiC_g18 : (fiC r ov f lv gv xv first).getD 18 (.v undef) = xv := rfl
@[go_sem] theorem fiC_g19 : (fiC r ov f lv gv xv first).getD 19 (.v undef) = int first := rfl
@[go_sem] theorem fiC_18s (y : AV) : splice (fiC r ov f lv gv xv first) 18 [y] = fiC r ov f lv gv y first := rfl
end
/-- The program's finder at block x. -/
def EI (β σ : St) (x : Nat) (r : Rl) (ord : List Nat) (f : Fa) (l : List Fa) (first : Int) (got : List Fa) (out : List (List Fa)) : Prop :=
  ∃ gb lo es, σ x = some (.cells (fiC r (.sl 1 (inC (nats ord))) f (.sl 4 (faC l)) (slv gb got.length got.length) lo first)) ∧ σ gb = some (.rows 4 (faC got) false got.length) ∧
    Ow 1 σ lo es ∧ es.length = out.length ∧ (∀ i (h : i < out.length), ∃ v, es.getD i [] = [v] ∧ Ow 4 σ v (faC out[i]) ∧ ¬ Own v gb ∧ ∀ x, Own v x → β x = none) ∧ (∀ y o, β y = some o → σ y = some o ∧ y ≠ x ∧ y ≠ gb ∧ ¬ Own lo y) ∧ lo ≠ .fsl 1 []
theorem EI.sub {β σ σ' : St} {x : Nat} {r : Rl} {ord : List Nat} {f : Fa} {l : List Fa} {first : Int} {got : List Fa} {out : List (List Fa)} (h : EI β σ x r ord f l first got out) (hs : ∀ y o, σ y = some o → σ' y = some o) : EI β σ' x r ord f l first got out := by
  obtain ⟨gb, lo, es, h1, h2, h3, h4, h5, h6, h7⟩ := h
  exact ⟨gb, lo, es, hs _ _ h1, hs _ _ h2, h3.sub hs, h4, fun i hi => (by obtain ⟨v, k1, k2, k3⟩ := h5 i hi; exact ⟨v, k1, k2.sub hs, k3⟩), fun y o hy => ⟨hs _ _ (h6 y o hy).1, (h6 y o hy).2⟩, h7⟩
theorem each_ge {ho : Tm} {bo : List Li} {cand : Nat → List Fa} (k : Nat) (o : List Nat) (env : List Bi) (got : List Fa) (i : Nat) (l : List Fa) (hl : l = cand k) : (l.take i).flatMap (fun x => match litF ho (bo.getD k .zero) x env with
    | some e => eachF ho bo cand o e (got.set k x)
    | none => []) ++ (l.drop i).flatMap (fun x => match litF ho (bo.getD k .zero) x env with
    | some e => eachF ho bo cand o e (got.set k x)
    | none => []) = eachF ho bo cand (k :: o) env got := by
  rw [← List.flatMap_append, List.take_append_drop, hl]; rfl
theorem faC_set {l : List Fa} {i : Nat} {y : Fa} : (faC l).set i y.cs = faC (l.set i y) := by simp [faC, List.map_set]
theorem EI.put {β σ : St} {x : Nat} {r : Rl} {ord : List Nat} {f : Fa} {l : List Fa} {first : Int} {got : List Fa} {out : List (List Fa)} {gb : Nat} {lo : AV} {es : List (List AV)} (i : Nat) (y : Fa) (h1 : σ x = some (.cells (fiC r (.sl 1 (inC (nats ord))) f (.sl 4 (faC l)) (slv gb got.length got.length) lo first))) (h2 : σ gb = some (.rows 4 (faC got) false got.length))
    (h3 : Ow 1 σ lo es) (h4 : es.length = out.length) (h5 : ∀ i (h : i < out.length), ∃ v, es.getD i [] = [v] ∧ Ow 4 σ v (faC out[i]) ∧ ¬ Own v gb ∧ ∀ x, Own v x → β x = none) (h6 : ∀ y o, β y = some o → σ y = some o ∧ y ≠ x ∧ y ≠ gb ∧ ¬ Own lo y) (h7 : lo ≠ .fsl 1 []) :
    EI β (σ.set gb (.rows 4 (faC (got.set i y)) false got.length)) x r ord f l first (got.set i y) out := by
  have hxg : x ≠ gb := fun e => by subst e; rw [h1] at h2; cases h2
  have nog : ¬ Own lo gb := fun ho => by
    obtain ⟨c, hc⟩ := h3.lat.own_rows ho
    rw [h2] at hc; cases hc
  have e : (got.set i y).length = got.length := by simp
  refine ⟨gb, lo, es, by rw [set_ne hxg, e]; exact h1, by rw [e]; exact set_same, h3.keep fun z o hz ho => ?_, h4, fun j hj => ?_, fun z o hz => ?_, h7⟩
  · rw [set_ne (fun e => by subst e; exact nog ho)]; exact hz
  · obtain ⟨v, v1, v2, v3⟩ := h5 j hj
    exact ⟨v, v1, v2.keep fun z o hz ho => by rw [set_ne (fun e => by subst e; exact v3.1 ho)]; exact hz, v3⟩
  · obtain ⟨w1, w2, w3, w4⟩ := h6 z o hz
    exact ⟨by rw [set_ne w3]; exact w1, w2, w3, w4⟩
section
variable {β σ : St} {x : Nat}
theorem each_at (r : Rl) (ord : List Nat) (first : Int) (f : Fa) (l : List Fa) (hr : r.S3) (hf : f.Sm) (hl : l.length ≤ 1000000) (hls : ∀ y ∈ l, y.Sm) (ho : ord.length ≤ 300) (hon : ord.Nodup) (hob : ∀ k ∈ ord, k < r.bo.length) :
    ∀ (m k : Nat) {β σ : St} {env : List Bi} {got : List Fa} {out : List (List Fa)}, k + m = ord.length → got.length = r.bo.length → env.length ≤ 10 + 302 * k → EI β σ x r ord f l first got out → out.length + (eachF r.ho r.bo (candF first f l) (ord.drop k) env got).length ≤ 1000000 →
    AT Tryz.prog 95 [ptr x, int k, .sl 4 (biC env)] σ fun _ σ' => ∃ got', got'.length = got.length ∧ (∀ i, i ∉ ord.drop k → got'[i]? = got[i]?) ∧ EI β σ' x r ord f l first got' (out ++ eachF r.ho r.bo (candF first f l) (ord.drop k) env got) := by
  intro m
  induction m with
  | zero =>
    intro k β σ env got out hk hg he h hb
    have hd : ord.drop k = [] := List.drop_of_length_le (by omega)
    rw [hd] at hb ⊢
    have hb : out.length + 1 ≤ 1000000 := by simpa [eachF] using hb
    obtain ⟨gb, lo, es, h1, h2, h3, h4, h5, h6, h7⟩ := h
    refine AT.of_body Tryz.func95 rfl (by decide) (by kernel_rfl) (by kernel_rfl) (Nat.le_of_ble_eq_true rfl) ?_
    have dd := decide_eq_true (show (k : Int) = ord.length by omega)
    simp only [go_sem, h1, nats_len, dd]
    refine aDraw_plan [.rd 0 false, .rd 1 false, .rd 2 false, .rd 3 false, .rd 4 true, .rd 5 false, .rd 6 false, .rd 7 false, .rd 8 true, .ef 9 [4], .rd 10 false, .ef 11 [], .rd 12 false, .rd 13 false, .ef 14 []] (by kernel_rfl) (by kernel_rfl) (by kernel_rfl) ?_
    simp only [go_sem, h1]
    have hr1 := hr.1
    refine (cloneF_at got (by omega) ⟨gb, _, rfl, h2⟩).mono ?_
    rintro rv σ1 ⟨k1, k2, k3⟩
    simp only [go_sem, k2.sub _ _ h1, k1.lat.cells, k1.lat.one]
    have h3' := h3.sub k2.sub
    refine aApp_by (ys := [[rv]]) (by rfl) (by decide) (by decide) (by decide) (Ow.of_app h3'.lat (by simp) (by simp only [List.length_nil, List.length_cons]; omega) fun lo' σ2 g1 g2 g3 => ?_)
    have hx2 := (g2 _ _ (k2.sub _ _ h1) (h3'.lat.not_own (k2.sub _ _ h1)))
    simp only [go_sem, hx2.1, g1.lat.cells, g1.lat.one]
    have nog : ¬ Own lo gb := fun ho => by
      obtain ⟨c, hc⟩ := h3.lat.own_rows ho
      rw [h2] at hc; cases hc
    have hg2 := g2 _ _ (k2.sub _ _ h2) nog
    have nrv : ∀ y, Own rv y → ¬ Own lo' y := fun y ho ho' => by
      obtain ⟨c, hc⟩ := g3 y ho'
      obtain ⟨c', hc'⟩ := k1.lat.own_rows ho
      by_cases hlo : Own lo y
      · obtain ⟨c'', hc''⟩ := h3'.lat.own_rows hlo
        rw [hc'] at hc''; cases hc''
      · rw [(g2 _ _ hc' hlo).1] at hc; cases hc
    have keep : ∀ y o, σ1 y = some o → ¬ Own lo y → y ≠ x → (σ2.set x (.cells (fiC r (.sl 1 (inC (nats ord))) f (.sl 4 (faC l)) (slv gb got.length got.length) lo' first))) y = some o := fun y o hy ho hne => by
      rw [set_ne hne]; exact (g2 _ _ hy ho).1
    have nlo : ∀ {v : AV} {es' : List (List AV)}, LAt 4 σ1 v es' → ∀ y, Own v y → ¬ Own lo y ∧ y ≠ x := fun hv y hy => by
      obtain ⟨c, hc⟩ := hv.own_rows hy
      refine ⟨fun ho => ?_, fun e => ?_⟩
      · obtain ⟨c', hc'⟩ := h3'.lat.own_rows ho
        rw [hc] at hc'; cases hc'
      · subst e
        rw [k2.sub _ _ h1] at hc; cases hc
    refine aRet_as (r := .tup []) rfl ⟨got, rfl, fun _ _ => rfl, gb, lo', es ++ [[rv]], set_same, ?_, ?_, ?_, ?_, ?_, ?_⟩
    · rw [set_ne (fun e => by subst e; rw [h1] at h2; cases h2)]; exact hg2.1
    · exact g1.keep fun y o hy ho => by
        rw [set_ne (fun e => by subst e; exact hx2.2 ho)]; exact hy
    · simp [eachF, h4]
    · intro i hi
      by_cases e : i < out.length
      · obtain ⟨v, v1, v2, v3⟩ := h5 i e
        have v2' := v2.sub k2.sub
        refine ⟨v, ?_, ?_, v3⟩
        · rw [List.getD_eq_getElem?_getD, List.getElem?_append_left (by omega)]
          rw [List.getD_eq_getElem?_getD] at v1; exact v1
        · rw [List.getElem_append_left e]
          exact v2'.keep fun y o hy ho => keep y o hy (nlo v2'.lat y ho).1 (nlo v2'.lat y ho).2
      · have e2 : i = out.length := by simp [eachF] at hi; omega
        subst e2
        refine ⟨rv, ?_, ?_, fun ho => ?_, fun y hy => ?_⟩
        · rw [List.getD_eq_getElem?_getD, List.getElem?_append_right (by omega), h4]; simp
        · rw [List.getElem_append_right (by omega)]
          simp only [eachF, Nat.sub_self, List.getElem_cons_zero]
          exact k1.keep fun y o hy ho => keep y o hy (nlo k1.lat y ho).1 (nlo k1.lat y ho).2
        · rw [k3 _ ho] at h2; cases h2
        · exact none_of_sub (fun y o hy => (h6 y o hy).1) (k3 _ hy)
    · intro y o hy
      obtain ⟨w1, w2, w3, w4⟩ := h6 y o hy
      have := g2 _ _ (k2.sub _ _ w1) w4
      exact ⟨keep y o (k2.sub _ _ w1) w4 w2, w2, w3, this.2⟩
    · rcases g1 with ⟨e, _⟩ | ⟨b, c, rfl, _⟩
      · simp at e
      · intro e; cases e
  | succ m ih =>
    intro k β σ env got out hk hg he h hb
    obtain ⟨gb, lo, es, h1, h2, h3, h4, h5, h6, h7⟩ := h
    have h : EI β σ x r ord f l first got out := ⟨gb, lo, es, h1, h2, h3, h4, h5, h6, h7⟩
    refine AT.of_body Tryz.func95 rfl (by decide) (by kernel_rfl) (by kernel_rfl) (Nat.le_of_ble_eq_true rfl) ?_
    have dd := decide_eq_false (show ¬ (k : Int) = ord.length by omega)
    have hko : k < ord.length := by omega
    obtain ⟨at', hat⟩ : ∃ a, a = ord[k] := ⟨_, rfl⟩
    have hkb : at' < r.bo.length := by rw [hat]; exact hob _ (List.getElem_mem hko)
    have hlk := hr.2 _ (List.getElem_mem hkb)
    have ek : (inC (nats ord)).getD k [] = [int (at' : Nat)] := by
      rw [inC_get (by rw [nats_len]; exact hko), hat]; simp [nats]
    have ed : ord.drop k = at' :: ord.drop (k + 1) := by rw [hat]; exact List.drop_eq_getElem_cons hko
    obtain ⟨cd, hcd⟩ : ∃ cd, cd = candF first f l at' := ⟨_, rfl⟩
    have hcl : cd.length ≤ 1000000 := by
      rw [hcd]; unfold candF; split
      · simp
      · exact hl
    have hcs : ∀ y ∈ cd, y.Sm := by
      rw [hcd]; unfold candF; split
      · intro y hy; rw [List.mem_singleton.1 hy]; exact hf
      · exact hls
    simp only [go_sem, h1, nats_len, dd, ek]
    refine ⟨by omega, ?_⟩
    refine aIf_meet (fun fr σ' => ∃ lc, (lc = .sl 4 (faC cd) ∨ lc = .fsl 4 (faC cd)) ∧ σ' = σ ∧ fr 0 = ptr x ∧ fr 1 = int k ∧ fr 2 = .sl 4 (biC env) ∧ fr 6 = int at' ∧ fr 7 = lc) (fun h0 => ?_) (fun h0 => ?_) ?_
    · have e : cd = [f] := by rw [hcd]; unfold candF; rw [if_pos h0]
      simp only [go_sem, h1]
      refine ⟨.fsl 4 (faC cd), .inr rfl, ?_⟩
      rw [e]
      try (and_intros <;> first | assumption | rfl | omega)
    · have e : cd = l := by rw [hcd]; unfold candF; rw [if_neg h0]
      simp only [go_sem]
      refine ⟨.sl 4 (faC cd), .inl rfl, ?_⟩
      rw [e]
      try (and_intros <;> first | assumption | rfl | omega)
    rintro fr σ' ⟨lc, hlc, rfl, f0, f1, f2, f6, f7⟩
    have hR : ∀ σ'', Rd 4 σ'' lc (faC cd) := fun σ'' => by
      rcases hlc with rfl | rfl
      · exact .sl
      · exact .of .full
    simp only [go_sem, r_block, f7, (hR σ').len, faC_len]
    rw [ed] at hb ⊢
    have hge := fun i => each_ge (ho := r.ho) (bo := r.bo) (cand := candF first f l) at' (ord.drop (k + 1)) env got i cd hcd
    obtain ⟨G, hG⟩ : ∃ G : Fa → List (List Fa), G = fun x => match litF r.ho (r.bo.getD at' .zero) x env with
      | some e => eachF r.ho r.bo (candF first f l) (ord.drop (k + 1)) e (got.set at' x)
      | none => [] := ⟨_, rfl⟩
    simp only [← hG] at hge
    have hat2 : at' ∉ ord.drop (k + 1) := by
      have := hon.sublist (List.drop_sublist k ord)
      rw [ed] at this
      exact (List.nodup_cons.1 this).1
    refine ⟨fun mm fr σ'' => ∃ (i : Nat) (got' : List Fa), mm = cd.length - i ∧ i ≤ cd.length ∧ got'.length = got.length ∧ (∀ j, j ∉ at' :: ord.drop (k + 1) → got'[j]? = got[j]?) ∧ EI β σ'' x r ord f l first got' (out ++ (cd.take i).flatMap G) ∧ fr 0 = ptr x ∧ fr 1 = int k ∧ fr 2 = .sl 4 (biC env) ∧ fr 6 = int at' ∧ fr 55 = lc ∧ fr 56 = int cd.length ∧ fr 57 = int i, ⟨_, 0, got, rfl, by omega, rfl, fun _ _ => rfl, by simpa using h, f0, f1, f2, f6, rfl, rfl, rfl⟩, ?_⟩
    clear f0 f1 f2 f6 f7 fr h h1 h2 h3 h4 h5 h6 h7 gb lo es
    rintro mm fr σ1 ⟨i, got', rfl, hi, hg', hgo, hE, f0, f1, f2, f6, f55, f56, f57⟩
    simp only [go_sem, f56, f57]
    refine aIf_by (fun hlt => ?_) (fun hlt => ?_)
    · have hic : i < cd.length := by omega
      obtain ⟨gb, lo, es, h1, h2, h3, h4, h5, h6, h7⟩ := hE
      have hE : EI β σ1 x r ord f l first got' (out ++ (cd.take i).flatMap G) := ⟨gb, lo, es, h1, h2, h3, h4, h5, h6, h7⟩
      simp only [go_sem, r_block, f55, f57]
      refine (hR σ1).elem (by omega) (by rw [faC_len]; omega) fun e he => ?_
      simp only [go_sem, r_block]
      refine he.load (by decide) (by rw [Int.toNat_natCast, faC_get hic]; exact Nat.le_refl 4) ?_
      simp only [go_sem, r_block, faC_get hic]
      refine Ctx.nil.alloc fun t9 σ2 c1 => ?_
      obtain ⟨σ3, e3, c2⟩ := c1.abs 0 rfl (.cells cd[i].cs)
      have hx3 := c2.sub _ _ h1
      simp only [go_sem, r_block, c1.g0, e3]
      refine aDraw_plan [.rd 0 false, .rd 1 false, .rd 2 false, .rd 3 false, .rd 4 true, .rd 5 false, .rd 6 false, .rd 7 false, .rd 8 false, .rd 9 true, .rd 10 false, .rd 11 false, .rd 12 true, .rd 13 true, .rd 14 false, .ef 15 [], .rd 16 false, .rd 17 false, .rd 18 false, .rd 19 false, .rd 20 false] (by kernel_rfl) (by kernel_rfl) (by kernel_rfl) ?_
      simp only [go_sem, r_block, f0, f2, f6, hx3, c2.g0, liC_get hkb]
      refine ⟨by omega, (lit_at r.ho r.bo[at'] cd[i] env (by omega) (by omega)).mono ?_⟩
      rintro _ σ3 ⟨rfl, rfl⟩
      have hgi : G cd[i] = match litF r.ho r.bo[at'] cd[i] env with
        | some e => eachF r.ho r.bo (candF first f l) (ord.drop (k + 1)) e (got.set at' cd[i])
        | none => [] := by rw [hG]; simp only; rw [li_get hkb]
      have htk : (cd.take (i + 1)).flatMap G = (cd.take i).flatMap G ++ G cd[i] := by
        rw [List.take_add_one, List.getElem?_eq_getElem hic, List.flatMap_append]
        simp
      cases hv : litF r.ho r.bo[at'] cd[i] env with
      | none =>
        rw [hv] at hgi
        simp only at hgi
        simp only [go_sem, r_block, f0, f1, f2, f6, f55, f56, f57, next64 (show i < 9223372036854775807 by omega)]
        refine ⟨cd.length - (i + 1), by omega, i + 1, got', ?_⟩
        have hE' : EI β σ3 x r ord f l first got' (out ++ (cd.take (i + 1)).flatMap G) := by
          rw [htk, hgi, List.append_nil]; exact hE.sub c2.sub
        (and_intros <;> first | assumption | rfl | omega)
      | some e2 =>
        rw [hv] at hgi
        simp only at hgi
        have hel := lit_len hv
        have hg3 := c2.sub _ _ h2
        simp only [go_sem, r_block]
        refine aDraw_plan [.rd 0 false, .rd 1 false, .rd 2 false, .rd 3 true, .rd 4 false, .rd 5 true, .rd 6 false, .ef 7 []] (by kernel_rfl) (by kernel_rfl) (by kernel_rfl) ?_
        have hag : at' < got'.length := by omega
        have hae := Fa.app cd[i] got'[at']
        simp only [go_sem, r_block, f0, f1, f6, hx3, c2.g0, hg3, next64 (show k < 9223372036854775807 by omega), faC_get hag, faC_set]
        refine ⟨by omega, hag, ?_⟩
        have hE3 := (EI.put at' cd[i] hx3 hg3 (h3.sub c2.sub) h4 (fun j hj => (by obtain ⟨v, k1, k2, k3⟩ := h5 j hj; exact ⟨v, k1, k2.sub c2.sub, k3⟩)) (fun y o hy => ⟨c2.sub _ _ (h6 y o hy).1, (h6 y o hy).2⟩) h7)
        have hgeq : eachF r.ho r.bo (candF first f l) (ord.drop (k + 1)) e2 (got'.set at' cd[i]) = eachF r.ho r.bo (candF first f l) (ord.drop (k + 1)) e2 (got.set at' cd[i]) := by
          refine each_got _ _ _ _ (by simp [hg']) fun j hj => ?_
          by_cases e : at' = j
          · subst e
            simp [List.getElem?_set, hag, hg', show at' < got.length by omega]
          · rw [List.getElem?_set_ne e, List.getElem?_set_ne e]
            exact hgo j (by simp [hj, Ne.symm e])
        have hlen : ((out ++ (cd.take i).flatMap G).length + (eachF r.ho r.bo (candF first f l) (ord.drop (k + 1)) e2 (got'.set at' cd[i])).length) ≤ 1000000 := by
          rw [hgeq, ← hgi]
          have h1 := congrArg List.length (hge (i + 1))
          rw [htk] at h1
          simp only [List.length_append] at h1 ⊢
          omega
        refine (ih (k + 1) (by omega) (by simp [hg', hg]) (by omega) hE3 hlen).mono ?_
        rintro _ σ5 ⟨got2, q1, q2, q3⟩
        simp only [go_sem, r_block, f0, f1, f2, f6, f55, f56, f57, next64 (show i < 9223372036854775807 by omega)]
        refine ⟨cd.length - (i + 1), by omega, i + 1, got2, ?_⟩
        have z1 : got2.length = got.length := by rw [q1]; simp [hg']
        have z2 : ∀ j, j ∉ at' :: ord.drop (k + 1) → got2[j]? = got[j]? := fun j hj => by
          rw [List.mem_cons, not_or] at hj
          rw [q2 j hj.2, List.getElem?_set_ne (Ne.symm hj.1)]
          exact hgo j (by simp [hj])
        have z3 : EI β σ5 x r ord f l first got2 (out ++ (cd.take (i + 1)).flatMap G) := by
          rw [htk, hgi, ← hgeq, ← List.append_assoc]; exact q3
        (and_intros <;> first | assumption | rfl | omega)
    · simp only [go_sem, r_block]
      rw [List.take_of_length_le (by omega)] at hE
      refine aRet_as (r := .tup []) rfl ⟨got', hg', hgo, ?_⟩
      have := hge cd.length
      rw [List.take_of_length_le (by omega), List.drop_of_length_le (by omega)] at this
      rw [← this]
      simpa using hE
end
end Go.Proofs.YthdfpankebjleaaGreat

/-
  The library's numbers of bits, and its numbers by chance.
  Conditions: none.
-/
namespace Go.Proofs.YthdfpankebjleaaGreat
open Go Go.Av Go.Sort

abbrev u64 (n : Nat) : AV := .v (.int .u64 (n : Int))
theorem bl_half {x : Nat} (h : 2 ≤ x) : bitsLen x = bitsLen (x / 2) + 1 := by
  unfold bitsLen
  rw [if_neg (by omega), if_neg (by omega), Nat.log2_def, if_pos h]
theorem bl_256 {x : Nat} (h : 256 ≤ x) : bitsLen x = bitsLen (x / 256) + 8 := by
  rw [bl_half (by omega), bl_half (x := x / 2) (by omega), bl_half (x := x / 2 / 2) (by omega), bl_half (x := x / 2 / 2 / 2) (by omega), bl_half (x := x / 2 / 2 / 2 / 2) (by omega), bl_half (x := x / 2 / 2 / 2 / 2 / 2) (by omega), bl_half (x := x / 2 / 2 / 2 / 2 / 2 / 2) (by omega), bl_half (x := x / 2 / 2 / 2 / 2 / 2 / 2 / 2) (by omega)]
  rw [show x / 2 / 2 / 2 / 2 / 2 / 2 / 2 / 2 = x / 256 by omega]
theorem shr_n (x k : Nat) : ((x : Int)).fdiv (2 ^ k) = ((x / 2 ^ k : Nat) : Int) := by
  rw [Int.fdiv_eq_ediv_of_nonneg _ (Int.le_of_lt (Int.pow_pos (by decide)))]
  norm_cast
theorem bl_le {z : Nat} (h : z < 256) : bitsLen z ≤ 8 := by
  have : ∀ z, z < 256 → bitsLen z ≤ 8 := by decide +kernel
  exact this z h
theorem bl_le32 {z : Nat} (h : z < 4294967296) : bitsLen z ≤ 32 := by
  by_cases h1 : 256 ≤ z
  · rw [bl_256 h1]
    by_cases h2 : 256 ≤ z / 256
    · rw [bl_256 h2]
      by_cases h3 : 256 ≤ z / 256 / 256
      · rw [bl_256 h3]
        have := bl_le (z := z / 256 / 256 / 256) (by omega)
        omega
      · have := bl_le (z := z / 256 / 256) (by omega)
        omega
    · have := bl_le (z := z / 256) (by omega)
      omega
  · have := bl_le (z := z) (by omega)
    omega
def len8T : List UInt8 := (List.range 256).map fun x => UInt8.ofNat (bitsLen x)
theorem len8_get {z : Nat} (h : z < 256) (T : List UInt8) (hT : T = len8T) : (T.getD z 0).toNat = bitsLen z := by
  subst hT
  have := bl_le h
  simp only [len8T, List.getD_eq_getElem?_getD, List.getElem?_map, List.getElem?_range h, Option.map_some, Option.getD_some]
  rw [UInt8.toNat_ofNat']
  omega
theorem wrapu (n : Nat) : IntKind.u64.wrap (n : Int) = ((n % 18446744073709551616 : Nat) : Int) := by
  unfold IntKind.wrap
  simp [IntKind.bits, IntKind.signed]
theorem ofI (n : Nat) : (BitVec.ofInt 64 (n : Int)).toNat = n % 18446744073709551616 := by
  rw [BitVec.ofInt_natCast, BitVec.toNat_ofNat]
theorem xs_l (s : UInt64) (k : Nat) (hk : k < 64) : IntKind.u64.wrap ((BitVec.ofInt 64 (s.toNat : Int) ^^^ BitVec.ofInt 64 (IntKind.u64.wrap ((s.toNat : Int) * 2 ^ k))).toNat : Int) = (((s ^^^ s <<< UInt64.ofNat k).toNat : Nat) : Int) := by
  have h0 : ((s.toNat : Int) * 2 ^ k) = ((s.toNat * 2 ^ k : Nat) : Int) := by push_cast; rfl
  have h1 := s.toNat_lt
  have hk' : (UInt64.ofNat k).toNat % 64 = k := by rw [UInt64.toNat_ofNat']; omega
  rw [h0, wrapu, wrapu, BitVec.toNat_xor, ofI, ofI, UInt64.toNat_xor, UInt64.toNat_shiftLeft, hk', Nat.shiftLeft_eq]
  rw [Nat.mod_eq_of_lt (a := s.toNat) (by omega), Nat.mod_mod]
  rw [Nat.mod_eq_of_lt (Nat.xor_lt_two_pow (n := 64) (by omega) (Nat.mod_lt _ (by decide)))]
theorem xs_r (s : UInt64) (k : Nat) (hk : k < 64) : IntKind.u64.wrap ((BitVec.ofInt 64 (s.toNat : Int) ^^^ BitVec.ofInt 64 (((s.toNat : Int)).fdiv (2 ^ k))).toNat : Int) = (((s ^^^ s >>> UInt64.ofNat k).toNat : Nat) : Int) := by
  have h1 := s.toNat_lt
  have hk' : (UInt64.ofNat k).toNat % 64 = k := by rw [UInt64.toNat_ofNat']; omega
  have h2 : s.toNat / 2 ^ k ≤ s.toNat := Nat.div_le_self _ _
  rw [shr_n, wrapu, BitVec.toNat_xor, ofI, ofI, UInt64.toNat_xor, UInt64.toNat_shiftRight, hk', Nat.shiftRight_eq_div_pow]
  rw [Nat.mod_eq_of_lt (a := s.toNat) (by omega), Nat.mod_eq_of_lt (a := s.toNat / 2 ^ k) (by omega)]
  rw [Nat.mod_eq_of_lt (Nat.xor_lt_two_pow (n := 64) (by omega) (by omega))]
section
variable {σ : St}
theorem len64_at {x : Nat} (h : x < 4294967296) : AT Tryz.prog 154 [u64 x] σ fun r σ' => r = int (bitsLen x) ∧ σ' = σ := by
  refine AT.of_body Tryz.func154 rfl (by decide) (by kernel_rfl) (by kernel_rfl) (Nat.le_of_ble_eq_true rfl) ?_
  have d1 := decide_eq_false (show ¬ (4294967296 : Int) ≤ (x : Int) by omega)
  simp only [go_sem, d1]
  refine aIf_meet (fun fr σ' => ∃ y k : Nat, y < 65536 ∧ k ≤ 16 ∧ bitsLen x = bitsLen y + k ∧ fr 0 = u64 y ∧ fr 2 = int k ∧ σ' = σ) (fun g1 => ?_) (fun g1 => ?_) ?_
  · have e1 : ((x : Int)).fdiv (2 ^ min 16 64) = ((x / 65536 : Nat) : Int) := shr_n x 16
    simp only [go_sem, e1]
    refine ⟨x / 65536, 16, by omega, by omega, ?_, rfl, rfl⟩
    rw [bl_256 (by omega), bl_256 (x := x / 256) (by omega), Nat.div_div_eq_div_mul]
  · simp only [go_sem]
    exact ⟨x, 0, by omega, by omega, rfl, rfl, rfl⟩
  rintro fr σ1 ⟨y, k, hy, hk, he, f0, f2, rfl⟩
  rw [he]
  clear d1 h he
  simp only [go_sem, f0, f2]
  refine aIf_meet (fun fr σ' => ∃ z l : Nat, z < 256 ∧ l ≤ 24 ∧ bitsLen y + k = bitsLen z + l ∧ fr 0 = u64 z ∧ fr 2 = int l ∧ σ' = σ1) (fun g1 => ?_) (fun g1 => ?_) ?_
  · have e1 : ((y : Int)).fdiv (2 ^ min 8 64) = ((y / 256 : Nat) : Int) := shr_n y 8
    have e2 : IntKind.i64.wrap ((k : Int) + 8) = ((k + 8 : Nat) : Int) := by rw [wrap64 (by omega)]; omega
    simp only [go_sem, f0, f2, e1, e2]
    refine ⟨y / 256, k + 8, by omega, by omega, ?_, rfl, rfl⟩
    rw [bl_256 (by omega)]; omega
  · simp only [go_sem, f0, f2]
    exact ⟨y, k, by omega, by omega, rfl, rfl, rfl⟩
  rintro fr σ2 ⟨z, l, hz, hl, he, f0, f2, rfl⟩
  rw [he]
  have e3 : IntKind.u8.wrap (z : Int) = (z : Int) := wrap8 (by omega)
  simp only [go_sem, f0, f2, e3]
  refine ⟨Int.lt_of_lt_of_le (show (z : Int) < 256 by omega) (by decide +kernel), _, rfl, _, _, View.refl _ _, ?_, rfl⟩
  refine (congrArg (fun v : Nat => AV.v (Value.int .i64 (IntKind.i64.wrap ((l : Int) + IntKind.i64.wrap (v : Int))))) (len8_get hz _ (by kernel_rfl))).trans ?_
  have := bl_le hz
  show int (IntKind.i64.wrap ((l : Int) + IntKind.i64.wrap ((bitsLen z : Nat) : Int))) = _
  rw [wrap64 (x := ((bitsLen z : Nat) : Int)) (by omega), wrap64 (by omega)]
  show AV.v (Value.int .i64 ((l : Int) + (bitsLen z : Nat))) = AV.v (Value.int .i64 ((bitsLen z + l : Nat) : Int))
  rw [Int.natCast_add, Int.add_comm]
theorem len_at {x : Nat} (h : x < 4294967296) : AT Tryz.prog 121 [u64 x] σ fun r σ' => r = int (bitsLen x) ∧ σ' = σ := by
  refine AT.of_body Tryz.func121 rfl (by decide) (by kernel_rfl) (by kernel_rfl) (Nat.le_of_ble_eq_true rfl) ?_
  simp only [go_sem]
  refine (len64_at h).mono ?_
  rintro _ σ1 ⟨rfl, rfl⟩
  simp only [go_sem]
  exact aRet_as (r := int (bitsLen x)) rfl ⟨rfl, rfl⟩
theorem pow2_at {x : Nat} (h : x < 4294967296) : AT Tryz.prog 169 [int x] σ fun r σ' => r = u64 (1 <<< bitsLen x) ∧ σ' = σ := by
  refine AT.of_body Tryz.func169 rfl (by decide) (by kernel_rfl) (by kernel_rfl) (Nat.le_of_ble_eq_true rfl) ?_
  have e1 : IntKind.u64.wrap (x : Int) = (x : Int) := by
    unfold IntKind.wrap
    simp [IntKind.bits, IntKind.signed]
    omega
  simp only [go_sem, e1]
  refine (len_at h).mono ?_
  rintro _ σ1 ⟨rfl, rfl⟩
  have hb := bl_le32 h
  have e2 : IntKind.u64.wrap (1 * 2 ^ min (bitsLen x) 64) = ((1 <<< bitsLen x : Nat) : Int) := by
    rw [Nat.min_eq_left (by omega), Nat.one_shiftLeft]
    have h1 : 2 ^ bitsLen x ≤ 2 ^ 32 := Nat.pow_le_pow_right (by decide) hb
    have h2 : (1 : Int) * 2 ^ bitsLen x = ((2 ^ bitsLen x : Nat) : Int) := by push_cast; omega
    rw [h2, wrapu]
    generalize 2 ^ bitsLen x = y at h1 ⊢
    omega
  simp only [go_sem, e2]
  exact aRet_as (r := u64 (1 <<< bitsLen x)) rfl ⟨rfl, rfl⟩
theorem next_at {p : Nat} {s : UInt64} (hp : σ p = some (.cells [u64 s.toNat])) : AT Tryz.prog 170 [.v (.pointer (some ⟨p, 0, none⟩))] σ fun r σ' => r = u64 (xorNext s).toNat ∧ σ' = σ.set p (.cells [u64 (xorNext s).toNat]) := by
  refine AT.of_body Tryz.func170 rfl (by decide) (by kernel_rfl) (by kernel_rfl) (Nat.le_of_ble_eq_true rfl) ?_
  have e : xorNext s = ((s ^^^ s <<< 13) ^^^ (s ^^^ s <<< 13) >>> 7) ^^^ ((s ^^^ s <<< 13) ^^^ (s ^^^ s <<< 13) >>> 7) <<< 17 := rfl
  rw [e]
  simp only [go_sem]
  refine aDraw_plan [.rd 0 false, .rd 1 false, .rd 2 true, .rd 3 false, .rd 4 false, .rd 5 true, .rd 6 false, .rd 7 false, .rd 8 false, .ef 9 []] (by kernel_rfl) (by kernel_rfl) (by kernel_rfl) ?_
  have a1 : ∀ s : UInt64, bxor .u64 (s.toNat : Int) (IntKind.u64.wrap ((s.toNat : Int) * 2 ^ min 13 64)) = (((s ^^^ s <<< 13).toNat : Nat) : Int) := fun s => xs_l s 13 (by decide)
  have a2 : ∀ s : UInt64, bxor .u64 (s.toNat : Int) (((s.toNat : Int)).fdiv (2 ^ min 7 64)) = (((s ^^^ s >>> 7).toNat : Nat) : Int) := fun s => xs_r s 7 (by decide)
  have a3 : ∀ s : UInt64, bxor .u64 (s.toNat : Int) (IntKind.u64.wrap ((s.toNat : Int) * 2 ^ min 17 64)) = (((s ^^^ s <<< 17).toNat : Nat) : Int) := fun s => xs_l s 17 (by decide)
  simp only [go_sem, hp, a1]
  refine aDraw_plan [.rd 0 false, .rd 1 false, .rd 2 true, .rd 3 false, .rd 4 false, .rd 5 true, .rd 6 false, .rd 7 false, .rd 8 false, .ef 9 []] (by kernel_rfl) (by kernel_rfl) (by kernel_rfl) ?_
  simp only [go_sem, set_same, a2]
  refine aDraw_plan [.rd 0 false, .rd 1 false, .rd 2 true, .rd 3 false, .rd 4 false, .rd 5 true, .rd 6 false, .rd 7 false, .rd 8 false, .ef 9 []] (by kernel_rfl) (by kernel_rfl) (by kernel_rfl) ?_
  simp only [go_sem, set_same, a3]
  exact aRet_as (r := u64 _) rfl ⟨rfl, rfl⟩
end
end Go.Proofs.YthdfpankebjleaaGreat

/-
  Parts of rows; the sort of a slice that is nil; equal ones beside each other go (plain).
  Conditions: none.
-/
namespace Go.Proofs.YthdfpankebjleaaGreat
open Go Go.Av

section
variable {ag byt : Bool} {sz q eby b n c l h : Nat} {zr ez : List Value} {ik : IntKind} {σ : St} {K : AV → Prop} {k : AV → St → Prop}
theorem sli_row_from {p : Nat} (hp : p = l * q) (h0 : l ≤ n) (hn : n ≤ c) (hlc : l < c) (hk : K (.v (.slice (some ⟨b, p, none⟩) (n - l) (c - l)))) : aSli (some ⟨ag, sz, zr, .sl q eby ez byt⟩) σ (slv b n c) (some (.v (.int ik l))) .none .none K := by
  subst hp
  refine .inl ⟨b, 0, n, c, rfl, l, n, c, rfl, rfl, .inl ⟨rfl, rfl⟩, by omega, by omega, by omega, by omega, ?_⟩
  have e : offAt (c : Int).toNat (l : Int).toNat 0 q = l * q := by
    unfold offAt
    rw [if_neg (by simp; omega)]
    simp
  rw [e]
  simpa using hk
theorem sli_row_upto (h0 : h ≤ n) (hn : n ≤ c) (hk : K (slv b h c)) : aSli (some ⟨ag, sz, zr, .sl q eby ez byt⟩) σ (slv b n c) .none (some (.v (.int ik h))) .none K := by
  refine .inl ⟨b, 0, n, c, rfl, 0, h, c, rfl, rfl, .inl ⟨rfl, rfl⟩, by omega, by omega, by omega, by omega, ?_⟩
  have e : offAt (c : Int).toNat (0 : Int).toNat 0 q = 0 := by
    unfold offAt
    split <;> simp
  rw [e]
  simpa using hk
theorem iadr_row {m cc p : Nat} {j : Int} (hp : p = l * q) (hq : 0 < q) (h0 : 0 ≤ j) (h1 : j < m) (hk : K (.rp b q (l + j.toNat) 0)) : aIadr (some ⟨ag, sz, zr, .sl q eby ez byt⟩) σ (.v (.slice (some ⟨b, p, none⟩) m cc)) (.v (.int ik j)) K := by
  subst hp
  show (l * q) % q = 0 ∧ 0 ≤ j ∧ j < m ∧ K (.rp b q (l * q / q + j.toNat) 0)
  rw [Nat.mul_mod_left, Nat.mul_div_cancel _ hq]
  exact ⟨rfl, h0, h1, hk⟩
theorem clear_row {m cc cap p : Nat} {es : List (List AV)} (hp : p = l * q) (hb : σ b = some (.rows q es false cap)) (hq : 0 < q) (hm : 0 < m) (hl : l + m ≤ es.length) (hz : ez.all Value.oneCell' = true) (hk : k (.tup []) (σ.set b (.rows q (es.take l ++ List.replicate m (ez.map .v) ++ es.drop (l + m)) false cap))) :
    aClear (some ⟨ag, sz, zr, .sl q eby ez byt⟩) σ (.v (.slice (some ⟨b, p, none⟩) m cc)) k := by
  subst hp
  simp only [aClear]
  rw [if_neg (by omega)]
  simp only [hb, Nat.mul_div_cancel _ hq]
  exact ⟨trivial, hq, Nat.mul_mod_left _ _, hl, hz, hk⟩
/-- Of a row less is tracked. -/
theorem view_trim {es : List (List AV)} {cap m : Nat} (r : AV) (hb : σ b = some (.rows q es false cap)) : View σ r (σ.set b (.rows q (es.take m) false cap)) r := fun F w x hs hv => by
  refine ⟨F, ⟨.refl F w, rfl, rfl, rfl, Nat.le_refl _, fun y _ hy => ⟨rfl, ?_, rfl⟩⟩, ⟨fun y o hy => ?_, hs.lt⟩, hv⟩
  · rw [set_ne (fun e => by rw [e, hb] at hy; cases hy)]; exact hy
  · by_cases e : y = b
    · subst e
      rw [set_same] at hy
      injection hy with hy
      subst hy
      obtain ⟨c, e, m', g1, g2, g3, g4, g5, g6, g7⟩ := hs.obj y _ hb
      refine ⟨c, e, m', g1, g2, by simp; omega, fun x hx => g4 x (List.mem_of_mem_take hx), g5, g6, fun i j hi hj => ?_⟩
      have hi' : i < es.length := by simp at hi; omega
      have : (es.take m).getD i [] = es.getD i [] := by
        simp only [List.getD_eq_getElem?_getD]
        rw [List.getElem?_take_of_lt (by simp at hi; omega)]
      rw [this]
      exact g7 i j hi' hj
    · rw [set_ne e] at hy
      exact hs.obj y o hy
end
/-- Of what is the same beside each other the first is kept. -/
def cptA {α : Type} (e : α → α → Bool) : α → List α → List α
  | _, [] => []
  | p, y :: l => if e y p = true then cptA e y l else y :: cptA e y l
def cptB {α : Type} (e : α → α → Bool) : List α → List α
  | [] => []
  | x :: l => x :: cptA e x l
theorem cptA_cons {α : Type} {e : α → α → Bool} {p y : α} {l : List α} : cptA e p (y :: l) = if e y p = true then cptA e y l else y :: cptA e y l := rfl
theorem cptB_start {α : Type} {e : α → α → Bool} {l : List α} (h : 0 < l.length) : cptB e l = l.take 1 ++ cptA e l[0] (l.drop 1) := by
  cases l with
  | nil => simp at h
  | cons x l => rfl
theorem cptB_short {α : Type} {e : α → α → Bool} {l : List α} (h : l.length < 2) : cptB e l = l := by
  match l, h with
  | [], _ => rfl
  | [x], _ => rfl
  | x :: y :: l, h => simp at h; omega
theorem cptA_len {α : Type} (e : α → α → Bool) : ∀ (l : List α) (p : α), (cptA e p l).length ≤ l.length
  | [], _ => by simp [cptA]
  | y :: l, p => by
    unfold cptA
    have := cptA_len e l y
    split <;> simp only [List.length_cons] <;> omega
theorem cptB_len {α : Type} (e : α → α → Bool) (l : List α) : (cptB e l).length ≤ l.length := by
  cases l with
  | nil => simp [cptB]
  | cons x l => have := cptA_len e l x; simp only [cptB, List.length_cons]; omega
theorem cptB_mem {α : Type} {e : α → α → Bool} {l : List α} {x : α} (h : x ∈ cptB e l) : x ∈ l := by
  have hA : ∀ (l : List α) (p : α), x ∈ cptA e p l → x ∈ l := by
    intro l
    induction l with
    | nil => intro p h; cases h
    | cons y l ih =>
      intro p h
      unfold cptA at h
      split at h
      · exact List.mem_cons_of_mem _ (ih _ h)
      · rcases List.mem_cons.1 h with rfl | h
        · exact List.mem_cons_self ..
        · exact List.mem_cons_of_mem _ (ih _ h)
  cases l with
  | nil => cases h
  | cons y l =>
    rcases List.mem_cons.1 h with rfl | h
    · exact List.mem_cons_self ..
    · exact List.mem_cons_of_mem _ (hA _ _ h)
section
variable {σ : St}
theorem insnilL_at (g : Nat) : AT Tryz.prog 156 [nilS, int 0, int 0, fnv g] σ fun _ σ' => σ' = σ := by
  refine AT.of_body Tryz.func156 rfl (by decide) (by kernel_rfl) (by kernel_rfl) (Nat.le_of_ble_eq_true rfl) ?_
  have w : IntKind.i64.wrap (0 + 1) = 1 := by rw [wrap64 (by omega)]; rfl
  simp only [go_sem, r_block, w]
  refine aLoop_few 1 ?_
  simp only [go_sem, r_block]
  exact aRet_as (r := .tup []) rfl rfl
theorem pdqnilL_at (g : Nat) (lim : Nat) : AT Tryz.prog 127 [nilS, int 0, int 0, int lim, fnv g] σ fun _ σ' => σ' = σ := by
  refine AT.of_body Tryz.func127 rfl (by decide) (by kernel_rfl) (by kernel_rfl) (Nat.le_of_ble_eq_true rfl) ?_
  have w : IntKind.i64.wrap (0 - 0) = 0 := by rw [wrap64 (by omega)]; rfl
  simp only [go_sem, r_block]
  refine aLoop_few 1 ?_
  simp only [go_sem, r_block, w]
  refine (insnilL_at g).mono ?_
  rintro _ _ rfl
  simp only [go_sem, r_block]
  exact aRet_as (r := .tup []) rfl rfl
theorem sortnilL_at (g : Nat) : AT Tryz.prog 96 [nilS, fnv g] σ fun _ σ' => σ' = σ := by
  refine AT.of_body Tryz.func96 rfl (by decide) (by kernel_rfl) (by kernel_rfl) (Nat.le_of_ble_eq_true rfl) ?_
  have w1 : IntKind.u64.wrap (0 : Int) = (0 : Int) := by simp [IntKind.wrap, IntKind.signed, IntKind.bits]
  simp only [go_sem, w1]
  refine (len_at (x := 0) (by omega)).mono ?_
  rintro _ σ1 ⟨rfl, rfl⟩
  simp only [go_sem]
  refine (pdqnilL_at g _).mono ?_
  rintro _ _ rfl
  simp only [go_sem]
  exact aRet_as (r := .tup []) rfl rfl
end
end Go.Proofs.YthdfpankebjleaaGreat

/-
  What is left when neighbours that are the same are one.
  Conditions: none.
-/
namespace Go.Proofs.YthdfpankebjleaaGreat
open Go Go.Av

theorem cptB_map {α γ : Type} {e : α → α → Bool} {f : α → γ} {e' : γ → γ → Bool} (he : ∀ x y, e x y = true ↔ f x = f y) (he' : ∀ x y, e' x y = true ↔ x = y) (l : List α) : (cptB e l).map f = cptF e' (l.map f) := by
  have key : ∀ (l : List α) (p : α), cptF e' (f p :: l.map f) = f p :: (cptA e p l).map f := by
    intro l
    induction l with
    | nil => intro p; simp [cptF, cptA]
    | cons y l ih =>
      intro p
      rw [List.map_cons, cptF, cptA_cons]
      by_cases h : f y = f p
      · rw [if_pos ((he' _ _).2 h), if_pos ((he _ _).2 h), ← h, ih y]
      · rw [if_neg fun h' => h ((he' _ _).1 h'), if_neg fun h' => h ((he _ _).1 h'), ih y]
        rfl
  cases l with
  | nil => simp [cptB, cptF]
  | cons x l => rw [List.map_cons, key]; rfl
end Go.Proofs.YthdfpankebjleaaGreat

/-
  Equal ones beside each other go: the library's CompactFunc, of lists of facts.
  Conditions: none.
-/
namespace Go.Proofs.YthdfpankebjleaaGreat.L
open Go Go.Av Go.Sort

section
variable {α : Type} {en : α → List AV} (hl : ∀ x, (en x).length = 1) (ho : ∀ x, (en x).all AV.one = true) (hce : ∀ x, ((en x).getD 0 (.v undef)).cells = en x) {e : α → α → Bool} {g : Nat} {β : St} (hC : ∀ σ', (∀ x o, β x = some o → σ' x = some o) → ∀ x y, AT Tryz.prog g [(en x).getD 0 (.v undef), (en y).getD 0 (.v undef)] σ' fun r σ'' => r = boo (e x y) ∧ σ'' = σ')
variable {b cap : Nat} (hn : β b = none)
include hl ho hce hC hn
theorem compact_at {σ : St} {l : List α} (hb : σ b = some (.rows 1 (l.map en) false cap)) (hs : ∀ x o, β x = some o → σ x = some o) (hcap : l.length ≤ cap) (hsz : l.length ≤ 1000000000) : AT Tryz.prog 98 [slv b l.length cap, fnv g] σ fun r σ' => r = slv b (cptB e l).length cap ∧ σ' = σ.set b (.rows 1 ((cptB e l).map en) false cap) := by
  refine AT.of_body Tryz.func98 rfl (by decide) (by kernel_rfl) (by kernel_rfl) (Nat.le_of_ble_eq_true rfl) ?_
  have e4 : ∀ x, (en x).take 1 = en x := fun x => List.take_of_length_le (by rw [hl]; omega)
  have e5 : ∀ x y, en x ++ List.drop 1 (en y) = en x := fun x y => by rw [List.drop_eq_nil_of_le (by rw [hl]; omega), List.append_nil]
  have eg : ∀ j (hj : j < l.length), (l.map en).getD j [] = en l[j] := fun j hj => by simp [List.getD_eq_getElem?_getD, hj]
  have same : ∀ {fr : Fr} {m : Nat}, m = l.length → cptB e l = l → aResult Tryz.prog fr σ (Tryz.f98).results.toList = some (slv b l.length cap) → aRet Tryz.prog (fun r σ' => r = slv b (cptB e l).length cap ∧ σ' = σ.set b (.rows 1 ((cptB e l).map en) false cap)) (Tryz.f98).results.toList fr σ := fun _ he hr =>
    aRet_as hr ⟨by rw [he], by rw [he]; exact (set_id hb).symm⟩
  simp only [go_sem]
  refine aIf_by (fun h2 => ?_) (fun h2 => ?_)
  · simp only [go_sem]
    exact same rfl (cptB_short (by omega)) rfl
  · simp only [go_sem, r_block]
    refine ⟨fun m fr σ' => ∃ (k : Nat) (hk : 0 < k) (hkn : k ≤ l.length), m = l.length - k ∧ σ' = σ ∧ cptB e l = l.take k ++ cptA e (l[k - 1]'(by omega)) (l.drop k) ∧ fr 0 = slv b l.length cap ∧ fr 1 = fnv g ∧ fr 5 = int k, ⟨_, 1, by omega, by omega, rfl, rfl, cptB_start (by omega), rfl, rfl, rfl⟩, ?_⟩
    rintro m fr σ ⟨k, hk, hkn, rfl, rfl, hI, f0, f1, f5⟩
    simp only [go_sem, f0, f5]
    refine aIf_by (fun hlt => ?_) (fun hlt => ?_)
    · have hkl : k < l.length := by omega
      have w1 : IntKind.i64.wrap ((k : Int) - 1) = ((k - 1 : Nat) : Int) := by rw [wrap64 (by omega)]; omega
      have q1 := eg k hkl
      have q2 := eg (k - 1) (by omega)
      have ed : l.drop k = l[k] :: l.drop (k + 1) := List.drop_eq_getElem_cons hkl
      rw [ed] at hI
      simp only [go_sem, r_block]
      refine aDraw_plan [.rd 0 false, .rd 1 false, .rd 2 false, .rd 3 false, .rd 4 true, .rd 5 false, .rd 6 false, .rd 7 false, .rd 8 false, .rd 9 true, .ef 10 []] (by kernel_rfl) (by kernel_rfl) (by kernel_rfl) ?_
      simp only [go_sem, r_block, f0, f1, f5, w1, hb, q1, q2, e4, hl, List.length_map]
      refine ⟨by omega, by omega, by omega, by omega, (hC _ hs _ _).mono ?_⟩
      rintro _ σ ⟨rfl, rfl⟩
      simp only [go_sem, r_block]
      refine aIf_bool (fun h0 => ?_) (fun h0 => ?_)
      · have hI : cptB e l = l.take k ++ cptA e l[k] (l.drop (k + 1)) := by rw [hI, cptA_cons, if_pos h0]
        simp only [go_sem, r_block, f0, f5]
        refine sli_row_from (p := k) (by omega) (by omega) hcap (by omega) ?_
        simp only [go_sem, r_block]
        refine ⟨fun m fr σ' => ∃ (w j : Nat) (es : List (List AV)) (hj : k < j) (hjn : j ≤ l.length) (res : List α), m = l.length - j ∧ w < j ∧ es.length = l.length ∧ (∀ i, i < l.length → (es.getD i []).length = 1) ∧ σ' = σ.set b (.rows 1 es false cap) ∧ res.length = w ∧ es.take w = res.map en ∧ es.drop (j - 1) = (l.drop (j - 1)).map en ∧ cptB e l = res ++ cptA e (l[j - 1]'(by omega)) (l.drop j) ∧ fr 0 = slv b l.length cap ∧ fr 1 = fnv g ∧ fr 5 = int w ∧ fr 6 = .v (.slice (some ⟨b, k, none⟩) (l.length - k) (cap - k)) ∧ fr 7 = int (j - k : Nat),
          ⟨_, k, k + 1, l.map en, by omega, by omega, l.take k, rfl, by omega, by simp, (fun i hi => by rw [eg i hi, hl]), (set_id hb).symm, by simp; omega, by simp [List.map_take], by simp [List.map_drop], hI, f0, f1, f5, rfl, by rw [show k + 1 - k = 1 by omega]; rfl⟩, ?_⟩
        clear hI f0 f1 f5 h0 hlt w1 q1 q2 ed fr
        rintro m fr σ' ⟨w, j, es, hj, hjn, res, rfl, hwj, hes, he1, rfl, hres, ht, hd, hI, f0, f1, f5, f6, f7⟩
        have hge : ∀ i, j - 1 ≤ i → ∀ hi : i < l.length, es.getD i [] = en l[i] := fun i h1 h2 => by
          have := congrArg (fun x => x.getD (i - (j - 1)) []) hd
          simp only [List.getD_eq_getElem?_getD, List.getElem?_drop, List.getElem?_map] at this
          rw [show j - 1 + (i - (j - 1)) = i by omega] at this
          simpa [List.getD_eq_getElem?_getD, h2] using this
        simp only [go_sem, f6, f7]
        refine aIf_by (fun hlt => ?_) (fun hlt => ?_)
        · have hjl : j < l.length := by omega
          have w2 : IntKind.i64.wrap (((j - k : Nat) : Int) - 1) = ((j - k - 1 : Nat) : Int) := by rw [wrap64 (by omega)]; omega
          have p1 := hge j (by omega) hjl
          have p2 := hge (j - 1) (by omega) (by omega)
          have ed : l.drop j = l[j] :: l.drop (j + 1) := List.drop_eq_getElem_cons hjl
          have a1 : k + (j - k) = j := by omega
          have a2 : k + (j - k - 1) = j - 1 := by omega
          rw [ed] at hI
          simp only [go_sem, r_block]
          refine aDraw_plan [.rd 0 false, .rd 1 false, .rd 2 false, .rd 3 false, .rd 4 true, .rd 5 false, .rd 6 false, .rd 7 false, .rd 8 false, .rd 9 true, .ef 10 [], .rd 11 false] (by kernel_rfl) (by kernel_rfl) (by kernel_rfl) ?_
          simp only [go_sem, r_block, f1, f6, f7, w2]
          refine iadr_row (l := k) (by omega) (by decide) (by omega) (by omega) ?_
          simp only [go_sem, r_block, a1, set_same, p1, e4, hl, hes, f6, f7, w2]
          refine ⟨by omega, iadr_row (l := k) (by omega) (by decide) (by omega) (by omega) ?_⟩
          simp only [go_sem, r_block, a2, set_same, p2, e4, hl, hes, f1]
          refine ⟨by omega, (hC _ (sub_set hn hs) _ _).mono ?_⟩
          rintro _ σ1 ⟨rfl, rfl⟩
          simp only [go_sem, r_block]
          refine aIf_bool (fun h0 => ?_) (fun h0 => ?_)
          · have hI : cptB e l = res ++ cptA e l[j] (l.drop (j + 1)) := by rw [hI, cptA_cons, if_pos h0]
            have n1 : IntKind.i64.wrap (((j - k : Nat) : Int) + 1) = ((j + 1 - k : Nat) : Int) := by rw [wrap64 (by omega)]; omega
            simp only [go_sem, r_block, f0, f1, f5, f6, f7, n1]
            refine ⟨l.length - (j + 1), by omega, w, j + 1, es, by omega, by omega, res, rfl, by omega, hes, he1, rfl, hres, ht, ?_, hI, rfl, rfl⟩
            rw [Nat.add_sub_cancel, show j = j - 1 + 1 by omega, ← List.drop_drop, hd, ← List.map_drop, List.drop_drop]
          · have hI : cptB e l = (res ++ [l[j]]) ++ cptA e l[j] (l.drop (j + 1)) := by rw [hI, cptA_cons, if_neg (by rw [h0]; decide), List.append_assoc]; rfl
            have n1 : IntKind.i64.wrap (((j - k : Nat) : Int) + 1) = ((j + 1 - k : Nat) : Int) := by rw [wrap64 (by omega)]; omega
            have dz : List.drop 1 (es.getD w []) = [] := List.drop_eq_nil_of_le (by rw [he1 w (by omega)]; omega)
            simp only [go_sem, r_block, f0, f1, f5, f6, f7, n1]
            refine iadr_row (l := k) (by omega) (by decide) (by omega) (by omega) ?_
            simp only [go_sem, r_block, a1, set_same, p1, e4, hl, hes, f0, f1, f5, f6, f7, n1, dz, List.append_nil, hce, ho, set_set, next64 (show w < 9223372036854775807 by omega)]
            refine ⟨by omega, by omega, by omega, l.length - (j + 1), by omega, w + 1, j + 1, es.set w (en l[j]), by omega, by omega, res ++ [l[j]], rfl, by omega, by simp; omega, fun i hi => ?_, rfl, by simp; omega, ?_, ?_, hI, rfl, rfl⟩
            · simp only [List.getD_eq_getElem?_getD, List.getElem?_set]
              split
              · rw [if_pos (by omega)]; exact hl _
              · have := he1 i hi
                rwa [List.getD_eq_getElem?_getD] at this
            · rw [List.take_add_one, List.take_set_of_le (by omega), ht]
              simp [show w < es.length by omega]
            · rw [Nat.add_sub_cancel, List.drop_set_of_lt (by omega), show j = j - 1 + 1 by omega, ← List.drop_drop, hd, ← List.map_drop, List.drop_drop]
        · rw [List.drop_of_length_le (by omega)] at hI
          have hI : cptB e l = res := by rw [hI]; simp [cptA]
          simp only [go_sem, r_block, f0, f5]
          refine sli_row_from (p := w) (by omega) (by omega) hcap (by omega) ?_
          simp only [go_sem, r_block]
          refine clear_row (l := w) (by omega) set_same (by decide) (by omega) (by omega) (by decide) ?_
          simp only [go_sem, r_block, set_set, f0, f5]
          refine sli_row_upto (by omega) hcap ?_
          simp only [go_sem, r_block]
          have hw : (cptB e l).length = w := by rw [hI]; exact hres
          refine aRet_view (r := slv b w cap) rfl _ _ (view_trim (m := w) _ set_same) ⟨by rw [hw], ?_⟩
          rw [set_set, List.append_assoc, List.take_append_of_le_length (by simp; omega), List.take_take, Nat.min_self, ht, hI]
      · have hI : cptB e l = l.take (k + 1) ++ cptA e l[k] (l.drop (k + 1)) := by
          have e1 : l.take (k + 1) = l.take k ++ [l[k]] := by rw [List.take_add_one, List.getElem?_eq_getElem hkl]; rfl
          rw [hI, e1, cptA_cons, if_neg (by rw [h0]; decide), List.append_assoc]; rfl
        simp only [go_sem, r_block, f0, f1, f5, next64 (show k < 9223372036854775807 by omega)]
        exact ⟨l.length - (k + 1), by omega, k + 1, by omega, by omega, rfl, hI, rfl⟩
    · simp only [go_sem, r_block, f0]
      refine same rfl ?_ rfl
      rw [hI, List.drop_of_length_le (by omega), List.take_of_length_le (by omega)]
      simp [cptA]
end
end Go.Proofs.YthdfpankebjleaaGreat.L

/-
  The library's sort, of lists of facts: by insertion.
  Conditions: none.
-/
namespace Go.Proofs.YthdfpankebjleaaGreat.L
open Go Go.Av Go.Sort

section
variable {α : Type} [Inhabited α] {en : α → List AV} (hl : ∀ x, (en x).length = 1) (ho : ∀ x, (en x).all AV.one = true) (hce : ∀ x, ((en x).getD 0 (.v undef)).cells = en x) {cf : α → α → Int} {g : Nat} {β : St} (hC : ∀ σ', (∀ x o, β x = some o → σ' x = some o) → ∀ x y, AT Tryz.prog g [(en x).getD 0 (.v undef), (en y).getD 0 (.v undef)] σ' fun r σ'' => r = int (cf x y) ∧ σ'' = σ')
variable {σ : St} {b cap : Nat} {d : Array α} (hb : σ b = some (.rows 1 (rw' en d) false cap)) (hn : β b = none) (hs : ∀ x o, β x = some o → σ x = some o) {n : Nat} (hd : d.size = n) (hsz : n ≤ 1000000000)
include hl ho hce hC hb hn hs hd hsz
theorem ins_at {a e : Nat} (he : e ≤ n) (ha : a ≤ n) : AT Tryz.prog 156 [slv b n cap, int a, int e, fnv g] σ fun _ σ' => σ' = σ.set b (.rows 1 (rw' en (insertionSort (ltc cf) d a e)) false cap) := by
  refine AT.of_body Tryz.func156 rfl (by decide) (by kernel_rfl) (by kernel_rfl) (Nat.le_of_ble_eq_true rfl) ?_
  have sub : ∀ d', ∀ x o, β x = some o → (σ.set b (.rows 1 (rw' en d') false cap)) x = some o := fun d' x o hx => by
    have : x ≠ b := fun e => by subst e; rw [hn] at hx; cases hx
    rw [set_ne this]; exact hs x o hx
  have e4 : ∀ x, (en x).take 1 = en x := fun x => List.take_of_length_le (by rw [hl]; omega)
  have e5 : ∀ x y, en x ++ List.drop 1 (en y) = en x := fun x y => by rw [List.drop_eq_nil_of_le (by rw [hl]; omega), List.append_nil]
  simp only [go_sem, r_block, next64 (show a < 9223372036854775807 by omega)]
  refine ⟨fun m fr σ' => ∃ (i : Nat) (d' : Array α), m = e - i ∧ a < i ∧ d'.size = n ∧ insOuter (ltc cf) a e i d' = insertionSort (ltc cf) d a e ∧ σ' = σ.set b (.rows 1 (rw' en d') false cap) ∧ fr 0 = slv b n cap ∧ fr 1 = int a ∧ fr 2 = int e ∧ fr 3 = fnv g ∧ fr 8 = int i, ⟨_, a + 1, d, rfl, by omega, hd, rfl, (set_id hb).symm, rfl, rfl, rfl, rfl, rfl⟩, ?_⟩
  rintro m fr σ' ⟨i, d', rfl, hi, hd', hI, rfl, f0, f1, f2, f3, f8⟩
  simp only [go_sem, f2, f8]
  refine aIf_by (fun hlt => ?_) (fun hlt => ?_)
  · simp only [go_sem, r_block, f8]
    unfold insOuter at hI
    rw [if_pos (by omega)] at hI
    refine ⟨fun m fr σ' => ∃ (j : Nat) (d'' : Array α), m = j + 1 ∧ j ≤ i ∧ d''.size = n ∧ insInner (ltc cf) a j d'' = insInner (ltc cf) a i d' ∧ σ' = σ.set b (.rows 1 (rw' en d'') false cap) ∧ fr 0 = slv b n cap ∧ fr 1 = int a ∧ fr 2 = int e ∧ fr 3 = fnv g ∧ fr 8 = int i ∧ fr 9 = int j, ⟨_, i, d', rfl, by omega, hd', rfl, rfl, f0, f1, f2, f3, f8, rfl⟩, ?_⟩
    clear f0 f1 f2 f3 f8 fr
    rintro m fr σ' ⟨j, dd, rfl, hj, hdd, hJ, rfl, f0, f1, f2, f3, f8, f9⟩
    have out : insInner (ltc cf) a j dd = dd → insOuter (ltc cf) a e (i + 1) dd = insertionSort (ltc cf) d a e := fun h => by rw [← hI, ← hJ, h]
    simp only [go_sem]
    refine aDraw_plan [.rd 0 false, .rd 1 false, .rd 2 false, .rd 3 false, .rd 4 false, .rd 5 false, .rd 6 false, .rd 7 false, .rd 8 true, .rd 9 false, .rd 10 false, .rd 11 false, .rd 12 false, .rd 13 true, .ef 14 [], .rd 15 false, .rd 16 false] (by kernel_rfl) (by kernel_rfl) (by kernel_rfl) ?_
    by_cases g1 : (a : Int) < j
    · obtain ⟨k, rfl⟩ : ∃ k, j = k + 1 := ⟨j - 1, by omega⟩
      have ek : IntKind.i64.wrap (((k + 1 : Nat) : Int) - 1) = (k : Int) := by rw [wrap64 (by omega)]; omega
      have q1 := rw_get (en := en) (d := dd) (j := k + 1) (by omega)
      have q2 := rw_get (en := en) (d := dd) (j := k) (by omega)
      simp only [go_sem, f0, f1, f3, f9, decide_eq_true g1, ek, set_same, q1, q2, e4]
      refine ⟨by omega, by omega, by omega, by omega, (hC _ (sub dd) _ _).mono ?_⟩
      rintro _ σ1 ⟨rfl, rfl⟩
      have hu : insInner (ltc cf) a (k + 1) dd = if ltc cf dd[k + 1]! dd[k]! = true then insInner (ltc cf) a k (swp dd (k + 1) k) else dd := by
        rw [insInner]
        simp only [gt_iff_lt, show a < k + 1 by omega, decide_true, Bool.true_and]
      simp only [go_sem]
      refine aIf_by (fun g2 => ?_) (fun g2 => ?_)
      · rw [if_pos (by unfold ltc; exact decide_eq_true g2)] at hu
        simp only [go_sem, r_block]
        refine aDraw_plan [.rd 0 false, .rd 1 false, .rd 2 false, .rd 3 false, .rd 4 false, .rd 5 false, .rd 6 false, .rd 7 false, .rd 8 false, .rd 9 true, .rd 10 false, .rd 11 false, .rd 12 false, .rd 13 true, .rd 14 false, .ef 15 [], .rd 16 false, .ef 17 []] (by kernel_rfl) (by kernel_rfl) (by kernel_rfl) ?_
        have q3 := rw_get (en := en) (d := dd.setIfInBounds (k + 1) dd[k]!) (j := k) (by rw [Array.size_setIfInBounds]; omega)
        simp only [go_sem, f0, f1, f3, f9, ek, set_same, q1, q2, e4, e5, hl, ho, hce, rw_set, q3, Array.size_setIfInBounds]
        refine ⟨by omega, by omega, by omega, by omega, by omega, by omega, by omega, by omega, k + 1, by omega, k, swp dd (k + 1) k, rfl, by omega, by rw [swp_size]; exact hdd, by rw [← hu, hJ], rfl, f2, f8, rfl⟩
      · rw [if_neg (by unfold ltc; rw [decide_eq_false g2]; decide)] at hu
        have out := out hu
        simp only [go_sem, f0, f1, f2, f3, f8, next64 (show i < 9223372036854775807 by omega)]
        exact ⟨e - (i + 1), by omega, i + 1, dd, rfl, by omega, hdd, out, rfl, rfl⟩
    · have out := out (by
        cases j with
        | zero => rfl
        | succ k => rw [insInner]; simp only [gt_iff_lt, show ¬ a < k + 1 by omega, decide_false, Bool.false_and, Bool.false_eq_true, if_false])
      simp only [go_sem, f0, f1, f2, f3, f8, f9, decide_eq_false g1, next64 (show i < 9223372036854775807 by omega)]
      exact ⟨e - (i + 1), by omega, i + 1, dd, rfl, by omega, hdd, out, rfl, rfl⟩
  · simp only [go_sem, r_block]
    unfold insOuter at hI
    rw [if_neg (by omega)] at hI
    rw [hI]
    exact aRet_as (r := .tup []) rfl rfl
end
end Go.Proofs.YthdfpankebjleaaGreat.L

/-
  The library's sort, of lists of facts: heaps, and reversing.
  Conditions: none.
-/
namespace Go.Proofs.YthdfpankebjleaaGreat.L
open Go Go.Av Go.Sort

section
variable {α : Type} [Inhabited α] {en : α → List AV} (hl : ∀ x, (en x).length = 1) (ho : ∀ x, (en x).all AV.one = true) (hce : ∀ x, ((en x).getD 0 (.v undef)).cells = en x) {cf : α → α → Int} {g : Nat} {β : St} (hC : ∀ σ', (∀ x o, β x = some o → σ' x = some o) → ∀ x y, AT Tryz.prog g [(en x).getD 0 (.v undef), (en y).getD 0 (.v undef)] σ' fun r σ'' => r = int (cf x y) ∧ σ'' = σ')
variable {σ : St} {b cap : Nat} {d : Array α} (hb : σ b = some (.rows 1 (rw' en d) false cap)) (hn : β b = none) (hs : ∀ x o, β x = some o → σ x = some o) {n : Nat} (hd : d.size = n) (hsz : n ≤ 1000000000)
include hl ho hce hC hb hn hs hd hsz
theorem sift_at {lo hi f : Nat} (hf : f + hi ≤ n) (hlo : lo ≤ n) : AT Tryz.prog 173 [slv b n cap, int lo, int hi, int f, fnv g] σ fun _ σ' => σ' = σ.set b (.rows 1 (rw' en (siftDown (ltc cf) hi f lo d)) false cap) := by
  refine AT.of_body Tryz.func173 rfl (by decide) (by kernel_rfl) (by kernel_rfl) (Nat.le_of_ble_eq_true rfl) ?_
  simp only [go_sem, r_block]
  refine ⟨fun m fr σ' => ∃ (r : Nat) (d' : Array α), m = n - r ∧ r ≤ n ∧ d'.size = n ∧ siftDown (ltc cf) hi f r d' = siftDown (ltc cf) hi f lo d ∧ σ' = σ.set b (.rows 1 (rw' en d') false cap) ∧ fr 0 = slv b n cap ∧ fr 2 = int hi ∧ fr 3 = int f ∧ fr 4 = fnv g ∧ fr 10 = int r, ⟨_, lo, d, rfl, hlo, hd, rfl, (set_id hb).symm, rfl, rfl, rfl, rfl, rfl⟩, ?_⟩
  rintro m fr σ' ⟨r, dd, rfl, hr, hdd, hI, rfl, f0, f2, f3, f4, f10⟩
  have w1 : IntKind.i64.wrap (IntKind.i64.wrap (2 * (r : Int)) + 1) = ((2 * r + 1 : Nat) : Int) := by rw [wrap64 (x := 2 * (r : Int)) (by omega), wrap64 (by omega)]; omega
  simp only [go_sem, r_block, f0, f2, f3, f4, f10, w1]
  refine aIf_by (fun hge => ?_) (fun hge => ?_)
  · simp only [go_sem, r_block]
    rw [← hI, sift_stop (by omega)]
    exact aRet_as (r := .tup []) rfl rfl
  · have hlt : 2 * r + 1 < hi := by omega
    rw [sift_step hlt] at hI
    have hch := chd_lt (lt := ltc cf) (f := f) (d := dd) hlt
    simp only [go_sem]
    refine aDraw_plan [.rd 0 false, .rd 1 false, .rd 2 false, .rd 3 false, .rd 4 false, .rd 5 false, .rd 6 false, .rd 7 false, .rd 8 false, .rd 9 false, .rd 10 false, .rd 11 true, .rd 12 false, .rd 13 false, .rd 14 false, .rd 15 false, .rd 16 false, .rd 17 false, .rd 18 true, .ef 19 [], .rd 20 false, .rd 21 false] (by kernel_rfl) (by kernel_rfl) (by kernel_rfl) ?_
    apply meet_by (fun fr σ' => σ' = σ.set b (.rows 1 (rw' en dd) false cap) ∧ fr 0 = slv b n cap ∧ fr 2 = int hi ∧ fr 3 = int f ∧ fr 4 = fnv g ∧ fr 10 = int r ∧ fr 11 = int (chd (ltc cf) hi f r dd))
    case h1 =>
      intro key
      have w2 : IntKind.i64.wrap (((2 * r + 1 : Nat) : Int) + 1) = ((2 * r + 2 : Nat) : Int) := by rw [wrap64 (by omega)]; omega
      by_cases g1 : ((2 * r + 2 : Nat) : Int) < hi
      · have w3 : IntKind.i64.wrap ((f : Int) + ((2 * r + 1 : Nat) : Int)) = ((f + (2 * r + 1) : Nat) : Int) := by rw [wrap64 (by omega)]; omega
        have w4 : IntKind.i64.wrap (((f + (2 * r + 1) : Nat) : Int) + 1) = ((f + (2 * r + 2) : Nat) : Int) := by rw [wrap64 (by omega)]; omega
        have q1 := rw_get (en := en) (d := dd) (j := f + (2 * r + 1)) (by omega)
        have q2 := rw_get (en := en) (d := dd) (j := f + (2 * r + 2)) (by omega)
        simp only [go_sem, f0, f2, f3, f4, f10, w2, w3, w4, decide_eq_true g1, set_same, q1, q2, en_take hl]
        refine ⟨by omega, by omega, by omega, by omega, (hC _ (sub_set hn hs) _ _).mono ?_⟩
        rintro _ σ1 ⟨rfl, rfl⟩
        simp only [go_sem]
        refine aIf_by (fun g2 => ?_) (fun g2 => ?_)
        · simp only [go_sem, w2]
          refine key _ _ ⟨rfl, f0, f2, f3, f4, f10, ?_⟩
          unfold chd
          rw [if_pos ⟨by omega, decide_eq_true g2⟩]
          rfl
        · simp only [go_sem, w2]
          refine key _ _ ⟨rfl, f0, f2, f3, f4, f10, ?_⟩
          unfold chd
          rw [if_neg (fun h => g2 (of_decide_eq_true h.2))]
          rfl
      · simp only [go_sem, f0, f2, f3, f4, f10, w2, decide_eq_false g1]
        refine key _ _ ⟨rfl, f0, f2, f3, f4, f10, ?_⟩
        unfold chd
        rw [if_neg (fun h => g1 (by omega))]
        rfl
    case h2 =>
      clear f0 f2 f3 f4 f10 fr
      generalize chd (ltc cf) hi f r dd = c at *
      rintro fr σ1 ⟨rfl, f0, f2, f3, f4, f10, f11⟩
      have w5 : IntKind.i64.wrap ((f : Int) + (r : Int)) = ((f + r : Nat) : Int) := by rw [wrap64 (by omega)]; omega
      have w6 : IntKind.i64.wrap ((f : Int) + (c : Int)) = ((f + c : Nat) : Int) := by rw [wrap64 (by omega)]; omega
      have q1 := rw_get (en := en) (d := dd) (j := f + r) (by omega)
      have q2 := rw_get (en := en) (d := dd) (j := f + c) (by omega)
      refine aDraw_plan [.rd 0 false, .rd 1 false, .rd 2 false, .rd 3 false, .rd 4 false, .rd 5 false, .rd 6 true, .rd 7 false, .rd 8 false, .rd 9 false, .rd 10 false, .rd 11 false, .rd 12 true, .ef 13 [], .rd 14 false, .rd 15 false] (by kernel_rfl) (by kernel_rfl) (by kernel_rfl) ?_
      simp only [go_sem, f0, f2, f3, f4, f10, f11, w5, w6, set_same, q1, q2, en_take hl]
      refine ⟨by omega, by omega, by omega, by omega, (hC _ (sub_set hn hs) _ _).mono ?_⟩
      rintro _ σ1 ⟨rfl, rfl⟩
      simp only [go_sem]
      refine aIf_by (fun g2 => ?_) (fun g2 => ?_)
      · rw [if_pos (by unfold ltc; exact decide_eq_true g2)] at hI
        simp only [go_sem]
        refine aDraw_plan [.rd 0 false, .rd 1 false, .rd 2 false, .rd 3 false, .rd 4 false, .rd 5 false, .rd 6 false, .rd 7 false, .rd 8 false, .rd 9 false, .rd 10 false, .rd 11 false, .rd 12 false, .rd 13 true, .rd 14 false, .rd 15 false, .rd 16 false, .rd 17 false, .rd 18 false, .rd 19 true, .rd 20 false, .ef 21 [], .rd 22 false, .ef 23 []] (by kernel_rfl) (by kernel_rfl) (by kernel_rfl) ?_
        have q3 := rw_get (en := en) (d := dd.setIfInBounds (f + r) dd[f + c]!) (j := f + c) (by rw [Array.size_setIfInBounds]; omega)
        simp only [go_sem, f0, f2, f3, f4, f10, f11, w5, w6, set_same, q1, q2, en_take hl, en_app hl, hl, ho, hce, rw_set, q3, Array.size_setIfInBounds]
        refine ⟨by omega, by omega, by omega, by omega, by omega, by omega, by omega, by omega, n - c, by omega, c, swp dd (f + r) (f + c), rfl, by omega, by rw [swp_size]; exact hdd, hI, rfl, rfl⟩
      · rw [if_neg (by unfold ltc; rw [decide_eq_false g2]; decide)] at hI
        simp only [go_sem]
        rw [← hI]
        exact aRet_as (r := .tup []) rfl rfl
omit hl ho hce hC hb hn hs hd hsz in
theorem sift_size {lt : α → α → Bool} {hi f : Nat} : ∀ (m r : Nat) (d : Array α), hi - r ≤ m → (siftDown lt hi f r d).size = d.size
  | 0, r, d, h => by rw [sift_stop (by omega)]
  | m + 1, r, d, h => by
    by_cases h1 : 2 * r + 1 < hi
    · have hc := chd_lt (lt := lt) (f := f) (d := d) h1
      rw [sift_step h1]
      split
      · rw [sift_size m _ _ (by omega), swp_size]
      · rfl
    · rw [sift_stop h1]
theorem heap_at {a e : Nat} (he : e ≤ n) (ha : a < e) : AT Tryz.prog 157 [slv b n cap, int a, int e, fnv g] σ fun _ σ' => σ' = σ.set b (.rows 1 (rw' en (heapSort (ltc cf) d a e)) false cap) := by
  refine AT.of_body Tryz.func157 rfl (by decide) (by kernel_rfl) (by kernel_rfl) (Nat.le_of_ble_eq_true rfl) ?_
  have w1 : IntKind.i64.wrap ((e : Int) - a) = ((e - a : Nat) : Int) := by rw [wrap64 (by omega)]; omega
  have w2 : IntKind.i64.wrap ((IntKind.i64.wrap (((e - a : Nat) : Int) - 1)).tdiv 2) = ((((e - a - 1) / 2 + 1 : Nat) : Int) - 1) := by
    rw [wrap64 (x := ((e - a : Nat) : Int) - 1) (by omega), Int.tdiv_eq_ediv_of_nonneg (by omega), wrap64 (by omega)]; omega
  simp only [go_sem, r_block, w1, w2]
  refine ⟨fun m fr σ' => ∃ (k : Nat) (d' : Array α), m = k + 1 ∧ k ≤ n ∧ d'.size = n ∧ heapBuild (ltc cf) (e - a) a k d' = heapBuild (ltc cf) (e - a) a ((e - a - 1) / 2 + 1) d ∧ σ' = σ.set b (.rows 1 (rw' en d') false cap) ∧ fr 0 = slv b n cap ∧ fr 3 = fnv g ∧ fr 8 = int a ∧ fr 9 = int 0 ∧ fr 10 = int (e - a : Nat) ∧ fr 11 = int ((k : Int) - 1), ⟨_, _, d, rfl, by omega, hd, rfl, (set_id hb).symm, rfl, rfl, rfl, rfl, rfl, rfl⟩, ?_⟩
  rintro m fr σ' ⟨k, dd, rfl, hk, hdd, hI, rfl, f0, f3, f8, f9, f10, f11⟩
  simp only [go_sem, f11]
  refine aIf_by (fun hge => ?_) (fun hge => ?_)
  · obtain ⟨j, rfl⟩ : ∃ j, k = j + 1 := ⟨k - 1, by omega⟩
    have ej : ((j + 1 : Nat) : Int) - 1 = (j : Int) := by omega
    simp only [go_sem, r_block, f0, f3, f8, f10, f11, ej]
    refine (sift_at hl ho hce hC (σ := σ.set b (.rows 1 (rw' en dd) false cap)) (d := dd) set_same hn (sub_set hn hs) hdd hsz (by omega) (by omega)).mono ?_
    rintro _ σ1 rfl
    have w3 : IntKind.i64.wrap ((j : Int) - 1) = (j : Int) - 1 := wrap64 (by omega)
    simp only [go_sem, f0, f3, f8, f9, f10, f11, ej, w3, hdd]
    exact ⟨j + 1, by omega, j, siftDown (ltc cf) (e - a) a j dd, rfl, by omega, by rw [sift_size _ _ _ (Nat.le_refl _)]; exact hdd, hI, rfl, rfl⟩
  · have hk0 : k = 0 := by omega
    subst hk0
    have w4 : IntKind.i64.wrap (((e - a : Nat) : Int) - 1) = ((e - a : Nat) : Int) - 1 := wrap64 (by omega)
    simp only [go_sem, r_block, f0, f3, f8, f9, f10, f11, w4]
    have hI : dd = heapBuild (ltc cf) (e - a) a ((e - a - 1) / 2 + 1) d := hI
    have hfin : heapSort (ltc cf) d a e = heapPop (ltc cf) a (e - a) dd := by rw [hI]; rfl
    refine ⟨fun m fr σ' => ∃ (k : Nat) (d' : Array α), m = k + 1 ∧ k ≤ e - a ∧ d'.size = n ∧ heapPop (ltc cf) a k d' = heapPop (ltc cf) a (e - a) dd ∧ σ' = σ.set b (.rows 1 (rw' en d') false cap) ∧ fr 0 = slv b n cap ∧ fr 3 = fnv g ∧ fr 8 = int a ∧ fr 9 = int 0 ∧ fr 12 = int ((k : Int) - 1), ⟨_, _, dd, rfl, by omega, hdd, rfl, rfl, f0, f3, f8, f9, rfl⟩, ?_⟩
    clear f0 f3 f8 f9 f10 f11 fr hI
    rintro m fr σ' ⟨k, de, rfl, hk, hde, hI, rfl, f0, f3, f8, f9, f12⟩
    simp only [go_sem, f12]
    refine aIf_by (fun hge => ?_) (fun hge => ?_)
    · obtain ⟨j, rfl⟩ : ∃ j, k = j + 1 := ⟨k - 1, by omega⟩
      have ej : ((j + 1 : Nat) : Int) - 1 = (j : Int) := by omega
      have w5 : IntKind.i64.wrap ((a : Int) + (j : Int)) = ((a + j : Nat) : Int) := by rw [wrap64 (by omega)]; omega
      have q1 := rw_get (en := en) (d := de) (j := a) (by omega)
      have q2 := rw_get (en := en) (d := de) (j := a + j) (by omega)
      have q3 := rw_get (en := en) (d := de.setIfInBounds a de[a + j]!) (j := a + j) (by rw [Array.size_setIfInBounds]; omega)
      simp only [go_sem, r_block, f0, f3, f8, f9, f12, ej]
      refine aDraw_plan [.rd 0 false, .rd 1 false, .rd 2 false, .rd 3 false, .rd 4 false, .rd 5 false, .rd 6 false, .rd 7 false, .rd 8 false, .rd 9 false, .rd 10 false, .rd 11 true, .rd 12 false, .rd 13 false, .rd 14 false, .rd 15 true, .rd 16 false, .ef 17 [], .rd 18 false, .ef 19 []] (by kernel_rfl) (by kernel_rfl) (by kernel_rfl) ?_
      simp only [go_sem, f0, f3, f8, f9, f12, ej, w5, set_same, q1, q2, en_take hl, en_app hl, hl, ho, hce, rw_set, q3, Array.size_setIfInBounds]
      refine ⟨by omega, by omega, by omega, by omega, by omega, by omega, by omega, by omega, ?_⟩
      have hsw : (swp de a (a + j)).size = n := by rw [swp_size]; exact hde
      refine (sift_at hl ho hce hC (lo := 0) (hi := j) (f := a) (σ := σ.set b (.rows 1 (rw' en (swp de a (a + j))) false cap)) (d := swp de a (a + j)) set_same hn (sub_set hn hs) hsw hsz (by omega) (by omega)).mono ?_
      rintro _ σ1 rfl
      have w3 : IntKind.i64.wrap ((j : Int) - 1) = (j : Int) - 1 := wrap64 (by omega)
      simp only [go_sem, f0, f3, f8, f9, f12, ej, w3]
      exact ⟨j + 1, by omega, j, siftDown (ltc cf) j a 0 (swp de a (a + j)), rfl, by omega, by rw [sift_size _ _ _ (Nat.le_refl _)]; exact hsw, hI, rfl, rfl⟩
    · have hk0 : k = 0 := by omega
      subst hk0
      simp only [go_sem]
      rw [hfin, ← hI]
      exact aRet_as (r := .tup []) rfl rfl
omit hl ho hce hC hb hn hs hd hsz in
theorem rev_eq {i j : Nat} {d : Array α} : reverseLoop i j d = if i < j then reverseLoop (i + 1) (j - 1) (swp d i j) else d := by rw [reverseLoop]
omit hC hn hs in
theorem rev_at {a e : Nat} (he : e ≤ n) (ha : a < e) : AT Tryz.prog 160 [slv b n cap, int a, int e, fnv g] σ fun _ σ' => σ' = σ.set b (.rows 1 (rw' en (reverseRange d a e)) false cap) := by
  refine AT.of_body Tryz.func160 rfl (by decide) (by kernel_rfl) (by kernel_rfl) (Nat.le_of_ble_eq_true rfl) ?_
  have w1 : IntKind.i64.wrap ((e : Int) - 1) = ((e - 1 : Nat) : Int) := by rw [wrap64 (by omega)]; omega
  simp only [go_sem, r_block, w1]
  refine ⟨fun m fr σ' => ∃ (i j : Nat) (d' : Array α), m = j - i ∧ j < n ∧ i ≤ n ∧ d'.size = n ∧ reverseLoop i j d' = reverseRange d a e ∧ σ' = σ.set b (.rows 1 (rw' en d') false cap) ∧ fr 0 = slv b n cap ∧ fr 8 = int i ∧ fr 9 = int j, ⟨_, a, e - 1, d, rfl, by omega, by omega, hd, rfl, (set_id hb).symm, rfl, rfl, rfl⟩, ?_⟩
  rintro m fr σ' ⟨i, j, dd, rfl, hj, hi, hdd, hI, rfl, f0, f8, f9⟩
  rw [rev_eq] at hI
  simp only [go_sem, f8, f9]
  refine aIf_by (fun hlt => ?_) (fun hlt => ?_)
  · have w2 : IntKind.i64.wrap ((j : Int) - 1) = ((j - 1 : Nat) : Int) := by rw [wrap64 (by omega)]; omega
    have q1 := rw_get (en := en) (d := dd) (j := i) (by omega)
    have q2 := rw_get (en := en) (d := dd) (j := j) (by omega)
    have q3 := rw_get (en := en) (d := dd.setIfInBounds i dd[j]!) (j := j) (by rw [Array.size_setIfInBounds]; omega)
    rw [if_pos (by omega)] at hI
    simp only [go_sem, r_block]
    refine aDraw_plan [.rd 0 false, .rd 1 false, .rd 2 false, .rd 3 false, .rd 4 false, .rd 5 false, .rd 6 false, .rd 7 true, .rd 8 false, .rd 9 false, .rd 10 false, .rd 11 true, .rd 12 false, .ef 13 [], .rd 14 false, .ef 15 []] (by kernel_rfl) (by kernel_rfl) (by kernel_rfl) ?_
    simp only [go_sem, f0, f8, f9, set_same, q1, q2, en_take hl, en_app hl, hl, ho, hce, rw_set, q3, Array.size_setIfInBounds, w2, next64 (show i < 9223372036854775807 by omega)]
    refine ⟨by omega, by omega, by omega, by omega, by omega, by omega, by omega, by omega, j - 1 - (i + 1), by omega, i + 1, j - 1, swp dd i j, rfl, by omega, by omega, by rw [swp_size]; exact hdd, hI, rfl, rfl, rfl⟩
  · rw [if_neg (by omega)] at hI
    simp only [go_sem]
    rw [← hI]
    exact aRet_as (r := .tup []) rfl rfl
end
end Go.Proofs.YthdfpankebjleaaGreat.L

/-
  The library's sort, of lists of facts: the choice of a pivot.
  Conditions: none.
-/
namespace Go.Proofs.YthdfpankebjleaaGreat.L
open Go Go.Av Go.Sort

def hintN : Hint → Int
  | .unknown => 0
  | .increasing => 1
  | .decreasing => 2
section
variable {α : Type} [Inhabited α] {en : α → List AV} (hl : ∀ x, (en x).length = 1) (ho : ∀ x, (en x).all AV.one = true) (hce : ∀ x, ((en x).getD 0 (.v undef)).cells = en x) {cf : α → α → Int} {g : Nat} {β : St} (hC : ∀ σ', (∀ x o, β x = some o → σ' x = some o) → ∀ x y, AT Tryz.prog g [(en x).getD 0 (.v undef), (en y).getD 0 (.v undef)] σ' fun r σ'' => r = int (cf x y) ∧ σ'' = σ')
variable {σ : St} {b cap : Nat} {d : Array α} (hb : σ b = some (.rows 1 (rw' en d) false cap)) (hn : β b = none) (hs : ∀ x o, β x = some o → σ x = some o) {n : Nat} (hd : d.size = n) (hsz : n ≤ 1000000000)
variable {p : Nat} (hpb : p ≠ b) (hpn : β p = none)
theorem order2_lt {lt : α → α → Bool} {a c m k : Nat} (ha : a < m) (hc : c < m) : (order2 lt d a c k).1 < m ∧ (order2 lt d a c k).2.1 < m ∧ (order2 lt d a c k).2.2 ≤ k + 1 := by
  unfold order2
  split
  · exact ⟨hc, ha, Nat.le_refl _⟩
  · exact ⟨ha, hc, Nat.le_succ _⟩
theorem median_lt {lt : α → α → Bool} {a c e m k : Nat} (ha : a < m) (hc : c < m) (he : e < m) : (median lt d a c e k).1 < m ∧ (median lt d a c e k).2 ≤ k + 3 := by
  unfold median
  have h1 := order2_lt (d := d) (lt := lt) (k := k) ha hc
  have h2 := order2_lt (d := d) (lt := lt) (k := (order2 lt d a c k).2.2) h1.2.1 he
  have h3 := order2_lt (d := d) (lt := lt) (k := (order2 lt d (order2 lt d a c k).2.1 e (order2 lt d a c k).2.2).2.2) h1.1 h2.1
  exact ⟨h3.2.1, by show (order2 lt d _ _ _).2.2 ≤ _; omega⟩
include hl ho hce hC hb hn hs hd hsz hpb hpn
theorem order2_at {a c k : Nat} (ha : a < n) (hc : c < n) (hk : k ≤ 1000) (hp : σ p = some (.cells [int k])) : AT Tryz.prog 180 [slv b n cap, int a, int c, ptr p, fnv g] σ fun r σ' => r = .tup [int (order2 (ltc cf) d a c k).1, int (order2 (ltc cf) d a c k).2.1] ∧ σ' = σ.set p (.cells [int (order2 (ltc cf) d a c k).2.2]) := by
  refine AT.of_body Tryz.func180 rfl (by decide) (by kernel_rfl) (by kernel_rfl) (Nat.le_of_ble_eq_true rfl) ?_
  have q1 := rw_get (en := en) (d := d) (j := a) (by omega)
  have q2 := rw_get (en := en) (d := d) (j := c) (by omega)
  simp only [go_sem]
  refine aDraw_plan [.rd 0 false, .rd 1 false, .rd 2 false, .rd 3 false, .rd 4 true, .rd 5 false, .rd 6 false, .rd 7 false, .rd 8 true, .ef 9 [], .rd 10 false] (by kernel_rfl) (by kernel_rfl) (by kernel_rfl) ?_
  simp only [go_sem, hb, q1, q2, en_take hl]
  refine ⟨by omega, by omega, by omega, by omega, (hC _ hs _ _).mono ?_⟩
  rintro _ σ1 ⟨rfl, rfl⟩
  simp only [go_sem]
  refine aIf_by (fun g2 => ?_) (fun g2 => ?_)
  · have e : order2 (ltc cf) d a c k = (c, a, k + 1) := by unfold order2; exact if_pos (decide_eq_true g2)
    simp only [go_sem, hp, next64 (show k < 9223372036854775807 by omega)]
    refine aRet_as (r := .tup [int c, int a]) rfl ?_
    rw [e]
    exact ⟨rfl, rfl⟩
  · have e : order2 (ltc cf) d a c k = (a, c, k) := by unfold order2; exact if_neg (fun h => g2 (of_decide_eq_true h))
    simp only [go_sem]
    refine aRet_as (r := .tup [int a, int c]) rfl ?_
    rw [e]
    exact ⟨rfl, (set_id hp).symm⟩
theorem median_at {a c e k : Nat} (ha : a < n) (hc : c < n) (he : e < n) (hk : k ≤ 990) (hp : σ p = some (.cells [int k])) : AT Tryz.prog 175 [slv b n cap, int a, int c, int e, ptr p, fnv g] σ fun r σ' => r = int (median (ltc cf) d a c e k).1 ∧ σ' = σ.set p (.cells [int (median (ltc cf) d a c e k).2]) := by
  refine AT.of_body Tryz.func175 rfl (by decide) (by kernel_rfl) (by kernel_rfl) (Nat.le_of_ble_eq_true rfl) ?_
  have hm : median (ltc cf) d a c e k = ((order2 (ltc cf) d (order2 (ltc cf) d a c k).1 (order2 (ltc cf) d (order2 (ltc cf) d a c k).2.1 e (order2 (ltc cf) d a c k).2.2).1 (order2 (ltc cf) d (order2 (ltc cf) d a c k).2.1 e (order2 (ltc cf) d a c k).2.2).2.2).2.1, (order2 (ltc cf) d (order2 (ltc cf) d a c k).1 (order2 (ltc cf) d (order2 (ltc cf) d a c k).2.1 e (order2 (ltc cf) d a c k).2.2).1 (order2 (ltc cf) d (order2 (ltc cf) d a c k).2.1 e (order2 (ltc cf) d a c k).2.2).2.2).2.2) := rfl
  rw [hm]
  have l1 := order2_lt (d := d) (lt := ltc cf) (k := k) ha hc
  generalize hx1 : order2 (ltc cf) d a c k = x1 at l1 ⊢
  have l2 := order2_lt (d := d) (lt := ltc cf) (k := x1.2.2) l1.2.1 he
  generalize hx2 : order2 (ltc cf) d x1.2.1 e x1.2.2 = x2 at l2 ⊢
  have l3 := order2_lt (d := d) (lt := ltc cf) (k := x2.2.2) l1.1 l2.1
  generalize hx3 : order2 (ltc cf) d x1.1 x2.1 x2.2.2 = x3 at l3 ⊢
  simp only [go_sem]
  refine (order2_at hl ho hce hC hb hn hs hd hsz hpb hpn ha hc (by omega) hp).mono ?_
  rintro _ _ ⟨rfl, rfl⟩
  rw [hx1]
  simp only [go_sem]
  refine (order2_at hl ho hce hC (σ := σ.set p (.cells [int x1.2.2])) (by rw [set_ne (Ne.symm hpb)]; exact hb) hn (sub_set hpn hs) hd hsz hpb hpn l1.2.1 he (by omega) set_same).mono ?_
  rintro _ _ ⟨rfl, rfl⟩
  rw [hx2]
  simp only [go_sem]
  refine (order2_at hl ho hce hC (σ := σ.set p (.cells [int x2.2.2])) (by rw [set_ne (Ne.symm hpb)]; exact hb) hn (sub_set hpn hs) hd hsz hpb hpn l1.1 l2.1 (by omega) set_same).mono ?_
  rintro _ _ ⟨rfl, rfl⟩
  rw [hx3]
  simp only [go_sem]
  exact aRet_as (r := int x3.2.1) rfl ⟨rfl, rfl⟩
theorem medadj_at {a k : Nat} (ha : 1 ≤ a) (ha2 : a + 1 < n) (hk : k ≤ 990) (hp : σ p = some (.cells [int k])) : AT Tryz.prog 174 [slv b n cap, int a, ptr p, fnv g] σ fun r σ' => r = int (medianAdjacent (ltc cf) d a k).1 ∧ σ' = σ.set p (.cells [int (medianAdjacent (ltc cf) d a k).2]) := by
  refine AT.of_body Tryz.func174 rfl (by decide) (by kernel_rfl) (by kernel_rfl) (Nat.le_of_ble_eq_true rfl) ?_
  have w1 : IntKind.i64.wrap ((a : Int) - 1) = ((a - 1 : Nat) : Int) := by rw [wrap64 (by omega)]; omega
  simp only [go_sem, w1, next64 (show a < 9223372036854775807 by omega)]
  refine (median_at hl ho hce hC hb hn hs hd hsz hpb hpn (by omega) (by omega) ha2 hk hp).mono ?_
  rintro _ _ ⟨rfl, rfl⟩
  simp only [go_sem]
  exact aRet_as (r := int (medianAdjacent (ltc cf) d a k).1) rfl ⟨rfl, rfl⟩
omit hpb hpn in
theorem pivot_at {a e : Nat} (he : e ≤ n) (ha : a + 12 < e) : AT Tryz.prog 159 [slv b n cap, int a, int e, fnv g] σ fun r σ' => r = .tup [int (choosePivot (ltc cf) d a e).1, int (hintN (choosePivot (ltc cf) d a e).2)] ∧ σ' = σ := by
  refine AT.of_body Tryz.func159 rfl (by decide) (by kernel_rfl) (by kernel_rfl) (Nat.le_of_ble_eq_true rfl) ?_
  obtain ⟨q, hq⟩ : ∃ q, q = (e - a) / 4 := ⟨_, rfl⟩
  have w1 : IntKind.i64.wrap ((e : Int) - a) = ((e - a : Nat) : Int) := by rw [wrap64 (by omega)]; omega
  have w2 : IntKind.i64.wrap (((e - a : Nat) : Int).tdiv 4) = (q : Int) := by rw [Int.tdiv_eq_ediv_of_nonneg (by omega), wrap64 (by omega)]; omega
  have w3 : IntKind.i64.wrap ((a : Int) + IntKind.i64.wrap ((q : Int) * 1)) = ((a + q : Nat) : Int) := by rw [wrap64 (x := (q : Int) * 1) (by omega), wrap64 (by omega)]; omega
  have w4 : IntKind.i64.wrap ((a : Int) + IntKind.i64.wrap ((q : Int) * 2)) = ((a + q * 2 : Nat) : Int) := by rw [wrap64 (x := (q : Int) * 2) (by omega), wrap64 (by omega)]; omega
  have w5 : IntKind.i64.wrap ((a : Int) + IntKind.i64.wrap ((q : Int) * 3)) = ((a + q * 3 : Nat) : Int) := by rw [wrap64 (x := (q : Int) * 3) (by omega), wrap64 (by omega)]; omega
  simp only [go_sem, w1]
  refine aNew_intro fun p hp hpx => ?_
  have hpb : p ≠ b := fun h => hpx b _ hb h.symm
  have hpn : β p = none := by
    cases h : β p with
    | none => rfl
    | some o => exact absurd rfl (hpx p o (hs p o h))
  have hb1 : ∀ ob, (σ.set p ob) b = some (.rows 1 (rw' en d) false cap) := fun ob => by rw [set_ne (Ne.symm hpb)]; exact hb
  have cp : ∀ r : Nat × Nat, r = (if 8 ≤ e - a then (if 50 ≤ e - a then median (ltc cf) d (medianAdjacent (ltc cf) d (a + q) 0).1 (medianAdjacent (ltc cf) d (a + q * 2) (medianAdjacent (ltc cf) d (a + q) 0).2).1 (medianAdjacent (ltc cf) d (a + q * 3) (medianAdjacent (ltc cf) d (a + q * 2) (medianAdjacent (ltc cf) d (a + q) 0).2).2).1 (medianAdjacent (ltc cf) d (a + q * 3) (medianAdjacent (ltc cf) d (a + q * 2) (medianAdjacent (ltc cf) d (a + q) 0).2).2).2 else median (ltc cf) d (a + q) (a + q * 2) (a + q * 3) 0) else (a + q * 2, 0)) → choosePivot (ltc cf) d a e = (r.1, if r.2 = 0 then .increasing else if r.2 = 12 then .decreasing else .unknown) := fun r h => by
    subst h
    subst hq
    unfold choosePivot
    simp only [Nat.mul_one]
  rw [if_pos (show 8 ≤ e - a by omega)] at cp
  have d8 := decide_eq_true (show (8 : Int) ≤ ((e - a : Nat) : Int) by omega)
  have hm1 : ∀ {a c k : Nat}, 1 ≤ a → a + 1 < n → (medianAdjacent (ltc cf) d a k).1 < n ∧ (medianAdjacent (ltc cf) d a k).2 ≤ k + 3 := fun h1 h2 => median_lt (by omega) (by omega) h2
  simp only [go_sem, w2, w3, w4, w5, w1, d8]
  apply meet_by (fun fr σ' => ∃ r : Nat × Nat, fr 13 = int r.1 ∧ fr 55 = int r.2 ∧ σ' = σ.set p (.cells [int r.2]) ∧ choosePivot (ltc cf) d a e = (r.1, if r.2 = 0 then .increasing else if r.2 = 12 then .decreasing else .unknown))
  case h1 =>
    intro key
    refine aIf_by (fun g1 => ?_) (fun g1 => ?_)
    · rw [if_pos (show 50 ≤ e - a by omega)] at cp
      have l1 := hm1 (a := a + q) (c := 0) (k := 0) (by omega) (by omega)
      simp only [go_sem]
      refine (medadj_at hl ho hce hC (σ := σ.set p (.cells [int 0])) (hb1 _) hn (sub_set hpn hs) hd hsz hpb hpn (a := a + q) (k := 0) (by omega) (by omega) (by omega) set_same).mono ?_
      rintro _ _ ⟨rfl, rfl⟩
      generalize medianAdjacent (ltc cf) d (a + q) 0 = x1 at cp l1 ⊢
      have l2 := hm1 (a := a + q * 2) (c := 0) (k := x1.2) (by omega) (by omega)
      simp only [go_sem]
      refine (medadj_at hl ho hce hC (σ := σ.set p (.cells [int x1.2])) (hb1 _) hn (sub_set hpn hs) hd hsz hpb hpn (a := a + q * 2) (k := x1.2) (by omega) (by omega) (by omega) set_same).mono ?_
      rintro _ _ ⟨rfl, rfl⟩
      generalize medianAdjacent (ltc cf) d (a + q * 2) x1.2 = x2 at cp l2 ⊢
      have l3 := hm1 (a := a + q * 3) (c := 0) (k := x2.2) (by omega) (by omega)
      simp only [go_sem]
      refine (medadj_at hl ho hce hC (σ := σ.set p (.cells [int x2.2])) (hb1 _) hn (sub_set hpn hs) hd hsz hpb hpn (a := a + q * 3) (k := x2.2) (by omega) (by omega) (by omega) set_same).mono ?_
      rintro _ _ ⟨rfl, rfl⟩
      generalize medianAdjacent (ltc cf) d (a + q * 3) x2.2 = x3 at cp l3 ⊢
      simp only [go_sem]
      refine (median_at hl ho hce hC (σ := σ.set p (.cells [int x3.2])) (hb1 _) hn (sub_set hpn hs) hd hsz hpb hpn (a := x1.1) (c := x2.1) (e := x3.1) (k := x3.2) (by omega) (by omega) (by omega) (by omega) set_same).mono ?_
      rintro _ _ ⟨rfl, rfl⟩
      generalize median (ltc cf) d x1.1 x2.1 x3.1 x3.2 = r at cp ⊢
      simp only [go_sem, set_same]
      refine key _ _ ?_
      exact ⟨r, rfl, rfl, rfl, cp r rfl⟩
    · rw [if_neg (show ¬ 50 ≤ e - a by omega)] at cp
      simp only [go_sem]
      refine (median_at hl ho hce hC (σ := σ.set p (.cells [int 0])) (hb1 _) hn (sub_set hpn hs) hd hsz hpb hpn (a := a + q) (c := a + q * 2) (e := a + q * 3) (k := 0) (by omega) (by omega) (by omega) (by omega) set_same).mono ?_
      rintro _ _ ⟨rfl, rfl⟩
      generalize median (ltc cf) d (a + q) (a + q * 2) (a + q * 3) 0 = r at cp ⊢
      simp only [go_sem, set_same]
      refine key _ _ ?_
      exact ⟨r, rfl, rfl, rfl, cp r rfl⟩
  case h2 =>
    rintro fr σ1 ⟨r, f13, f55, rfl, hcp⟩
    have hdr : ∀ v, View (σ.set p (.cells [int r.2])) v σ v := fun v => view_drop (set_sub hp fun _ _ h => h)
    rw [hcp]
    simp only [go_sem, r_block, f55]
    refine aIf_by (fun k1 => ?_) (fun k1 => ?_)
    · simp only [go_sem, r_block, f13]
      refine aRet_view (r := .tup [int r.1, int 1]) rfl _ σ (hdr _) ⟨?_, rfl⟩
      show _ = AV.tup [int r.1, int (hintN (if r.2 = 0 then _ else _))]
      rw [if_pos (by omega)]
      rfl
    · simp only [go_sem, r_block, f55]
      refine aIf_by (fun k2 => ?_) (fun k2 => ?_)
      · simp only [go_sem, r_block, f13]
        refine aRet_view (r := .tup [int r.1, int 2]) rfl _ σ (hdr _) ⟨?_, rfl⟩
        show _ = AV.tup [int r.1, int (hintN (if r.2 = 0 then _ else if r.2 = 12 then _ else _))]
        rw [if_neg (by omega), if_pos (by omega)]
        rfl
      · simp only [go_sem, r_block, f13]
        refine aRet_view (r := .tup [int r.1, int 0]) rfl _ σ (hdr _) ⟨?_, rfl⟩
        show _ = AV.tup [int r.1, int (hintN (if r.2 = 0 then _ else if r.2 = 12 then _ else _))]
        rw [if_neg (by omega), if_neg (by omega)]
        rfl
end
end Go.Proofs.YthdfpankebjleaaGreat.L

/-
  The library's sort, of lists of facts: patterns are broken.
  Conditions: none.
-/
namespace Go.Proofs.YthdfpankebjleaaGreat.L
open Go Go.Av Go.Sort

section
variable {α : Type} [Inhabited α] {en : α → List AV} (hl : ∀ x, (en x).length = 1) (ho : ∀ x, (en x).all AV.one = true) (hce : ∀ x, ((en x).getD 0 (.v undef)).cells = en x) {cf : α → α → Int} {g : Nat}
variable {σ : St} {b cap : Nat} {d : Array α} (hb : σ b = some (.rows 1 (rw' en d) false cap)) {n : Nat} (hd : d.size = n) (hsz : n ≤ 1000000000)
/-- The rounds. -/
def brk (d : Array α) (a len m i0 : Nat) : Nat → UInt64 × Array α
  | 0 => (UInt64.ofNat len, d)
  | j + 1 => breakStep a len m (brk d a len m i0 j) (i0 + j)
theorem pow_bl {len : Nat} (h : 0 < len) : 1 <<< bitsLen len ≤ 2 * len := by
  unfold bitsLen
  rw [if_neg (by omega), Nat.one_shiftLeft, Nat.pow_succ]
  have := Nat.log2_self_le (n := len) (by omega)
  omega
theorem brk_eq {a e : Nat} (h : 8 ≤ e - a) : breakPatterns d a e = (brk d a (e - a) (1 <<< bitsLen (e - a)) (a + (e - a) / 4 * 2 - 1) 3).2 := by
  unfold breakPatterns
  simp only [ge_iff_le, h, if_true]
  rfl
theorem bandu {x y : Nat} (hx : x < 18446744073709551616) (hy : y < 18446744073709551616) : band .u64 (x : Int) (y : Int) = ((x &&& y : Nat) : Int) := by
  show IntKind.u64.wrap ((BitVec.ofInt 64 (x : Int) &&& BitVec.ofInt 64 (y : Int)).toNat : Int) = _
  have h : x &&& y ≤ x := Nat.and_le_left
  rw [wrapu, BitVec.toNat_and, ofI, ofI, Nat.mod_eq_of_lt hx, Nat.mod_eq_of_lt hy, Nat.mod_eq_of_lt (by omega)]
/-- The other one of a round. -/
def oth (len m : Nat) (s : UInt64) : Nat := if len ≤ (s.toNat &&& (m - 1)) then (s.toNat &&& (m - 1)) - len else s.toNat &&& (m - 1)
theorem oth_lt {len : Nat} {s : UInt64} (h : 0 < len) : oth len (1 <<< bitsLen len) s < len := by
  have h1 := pow_bl h
  have h2 : s.toNat &&& (1 <<< bitsLen len - 1) ≤ 1 <<< bitsLen len - 1 := Nat.and_le_right
  unfold oth
  split <;> omega
include hl ho hce hb hd hsz
theorem break_at {a e : Nat} (he : e ≤ n) (ha : a + 8 ≤ e) : AT Tryz.prog 158 [slv b n cap, int a, int e, fnv g] σ fun _ σ' => σ' = σ.set b (.rows 1 (rw' en (breakPatterns d a e)) false cap) := by
  refine AT.of_body Tryz.func158 rfl (by decide) (by kernel_rfl) (by kernel_rfl) (Nat.le_of_ble_eq_true rfl) ?_
  rw [brk_eq (by omega)]
  obtain ⟨len, hlen⟩ : ∃ len, len = e - a := ⟨_, rfl⟩
  obtain ⟨m, hm⟩ : ∃ m, m = 1 <<< bitsLen len := ⟨_, rfl⟩
  have hm2 : m ≤ 2 * len := by rw [hm]; exact pow_bl (by omega)
  have hm1 : 1 ≤ m := by rw [hm, Nat.one_shiftLeft]; exact Nat.one_le_two_pow
  obtain ⟨q, hq⟩ : ∃ q, q = len / 4 := ⟨_, rfl⟩
  have w1 : IntKind.i64.wrap ((e : Int) - a) = (len : Int) := by rw [wrap64 (by omega)]; omega
  have w2 : IntKind.i64.wrap ((len : Int).tdiv 4) = (q : Int) := by rw [Int.tdiv_eq_ediv_of_nonneg (by omega), wrap64 (by omega)]; omega
  have w3 : IntKind.i64.wrap ((a : Int) + IntKind.i64.wrap ((q : Int) * 2)) = ((a + q * 2 : Nat) : Int) := by rw [wrap64 (x := (q : Int) * 2) (by omega), wrap64 (by omega)]; omega
  have w4 : IntKind.i64.wrap (((a + q * 2 : Nat) : Int) - 1) = ((a + q * 2 - 1 : Nat) : Int) := by rw [wrap64 (by omega)]; omega
  have w5 : IntKind.i64.wrap (((a + q * 2 : Nat) : Int) + 1) = ((a + q * 2 + 1 : Nat) : Int) := by rw [wrap64 (by omega)]; omega
  have w6 : IntKind.u64.wrap (len : Int) = ((UInt64.ofNat len).toNat : Int) := by rw [wrapu, UInt64.toNat_ofNat']
  rw [← hlen, ← hm, ← hq]
  have d8 := decide_eq_true (show (8 : Int) ≤ (len : Int) by omega)
  simp only [go_sem, w1, d8, w6]
  refine aNew_intro fun r hr hrx => ?_
  have hrb : r ≠ b := fun h => hrx b _ hb h.symm
  simp only [go_sem]
  refine (pow2_at (by omega)).mono ?_
  rintro _ σ1 ⟨rfl, rfl⟩
  rw [← hm]
  simp only [go_sem, r_block, w2, w3, w4]
  refine ⟨fun k fr σ' => ∃ j : Nat, k = 3 - j ∧ j ≤ 3 ∧ (brk d a len m (a + q * 2 - 1) j).2.size = n ∧ σ' b = some (.rows 1 (rw' en (brk d a len m (a + q * 2 - 1) j).2) false cap) ∧ σ' r = some (.cells [u64 (brk d a len m (a + q * 2 - 1) j).1.toNat]) ∧ (∀ x o, σ x = some o → x ≠ b → σ' x = some o) ∧ fr 0 = slv b n cap ∧ fr 1 = int a ∧ fr 8 = int len ∧ fr 9 = .v (.pointer (some ⟨r, 0, none⟩)) ∧ fr 10 = u64 m ∧ fr 11 = int (a + q * 2 - 1 + j : Nat), ⟨_, 0, rfl, by omega, hd, by rw [set_ne (Ne.symm hrb)]; exact hb, set_same, fun x o hx _ => set_sub hr (fun _ _ h => h) x o hx, rfl, rfl, rfl, rfl, rfl, rfl⟩, ?_⟩
  rintro k fr σ' ⟨j, rfl, hj, hdd, hbb, hrr, hss, f0, f1, f8, f9, f10, f11⟩
  simp only [go_sem, f1, f8, f11, w2, w3, w5]
  refine aIf_by (fun hlt => ?_) (fun hlt => ?_)
  · have hj3 : j < 3 := by omega
    have hst : brk d a len m (a + q * 2 - 1) (j + 1) = (xorNext (brk d a len m (a + q * 2 - 1) j).1, swp (brk d a len m (a + q * 2 - 1) j).2 (a + q * 2 - 1 + j) (a + oth len m (xorNext (brk d a len m (a + q * 2 - 1) j).1))) := rfl
    generalize brk d a len m (a + q * 2 - 1) j = st at hdd hbb hrr hst
    obtain ⟨s, dd⟩ := st
    have hot : oth len m (xorNext s) < len := by rw [hm]; exact oth_lt (by omega)
    simp only [go_sem, r_block, f9]
    refine (next_at hrr).mono ?_
    rintro _ _ ⟨rfl, rfl⟩
    have v1 : IntKind.u64.wrap ((m : Int) - 1) = ((m - 1 : Nat) : Int) := by
      rw [show ((m : Int) - 1) = ((m - 1 : Nat) : Int) by omega, wrapu]; omega
    have v2 : band .u64 ((xorNext s).toNat : Int) ((m - 1 : Nat) : Int) = (((xorNext s).toNat &&& (m - 1) : Nat) : Int) := bandu (xorNext s).toNat_lt (by omega)
    have hand : (xorNext s).toNat &&& (m - 1) ≤ m - 1 := Nat.and_le_right
    obtain ⟨t, ht⟩ : ∃ t, t = (xorNext s).toNat &&& (m - 1) := ⟨_, rfl⟩
    rw [← ht] at v2 hand
    have v3 : IntKind.i64.wrap (t : Int) = (t : Int) := wrap64 (by omega)
    simp only [go_sem, f1, f8, f10, v1, v2, v3]
    refine aIf_meet (fun fr σ'' => σ'' = σ'.set r (.cells [u64 (xorNext s).toNat]) ∧ fr 0 = slv b n cap ∧ fr 1 = int a ∧ fr 8 = int len ∧ fr 9 = .v (.pointer (some ⟨r, 0, none⟩)) ∧ fr 10 = u64 m ∧ fr 11 = int (a + q * 2 - 1 + j : Nat) ∧ fr 12 = int (oth len m (xorNext s))) (fun g1 => ?_) (fun g1 => ?_) ?_
    · have v4 : IntKind.i64.wrap ((t : Int) - len) = ((t - len : Nat) : Int) := by rw [wrap64 (by omega)]; omega
      have e : oth len m (xorNext s) = t - len := by unfold oth; rw [← ht, if_pos (by omega)]
      simp only [go_sem, f0, f1, f8, f9, f10, f11, v4, e]
    · have e : oth len m (xorNext s) = t := by unfold oth; rw [← ht, if_neg (by omega)]
      simp only [go_sem, f0, f1, f8, f9, f10, f11, e]
    clear f0 f1 f8 f9 f10 f11 ht v1 v2 v3
    generalize oth len m (xorNext s) = k at hot hst
    rintro fr σ2 ⟨hσ2, f0, f1, f8, f9, f10, f11, f12⟩
    obtain ⟨i, hi⟩ : ∃ i, i = a + q * 2 - 1 + j := ⟨_, rfl⟩
    have hb2 : σ2 b = some (.rows 1 (rw' en dd) false cap) := by rw [hσ2, set_ne (Ne.symm hrb)]; exact hbb
    have hr2 : σ2 r = some (.cells [u64 (xorNext s).toNat]) := by rw [hσ2]; exact set_same
    have hs2 : ∀ x o, σ x = some o → x ≠ b → σ2 x = some o := fun x o hx hxb => by
      rw [hσ2, set_ne (hrx x o hx)]; exact hss x o hx hxb
    have hdd : dd.size = n := hdd
    have v5 : IntKind.i64.wrap ((a : Int) + (k : Int)) = ((a + k : Nat) : Int) := by rw [wrap64 (by omega)]; omega
    have v6 : IntKind.i64.wrap (((a + q * 2 - 1 + j : Nat) : Int) + 1) = ((a + q * 2 - 1 + (j + 1) : Nat) : Int) := by rw [wrap64 (by omega)]; omega
    have q1 := rw_get (en := en) (d := dd) (j := a + q * 2 - 1 + j) (by omega)
    have q2 := rw_get (en := en) (d := dd) (j := a + k) (by omega)
    have q3 := rw_get (en := en) (d := dd.setIfInBounds (a + q * 2 - 1 + j) dd[a + k]!) (j := a + k) (by rw [Array.size_setIfInBounds]; omega)
    simp only [go_sem]
    refine aDraw_plan [.rd 0 false, .rd 1 false, .rd 2 false, .rd 3 false, .rd 4 false, .rd 5 false, .rd 6 false, .rd 7 false, .rd 8 false, .rd 9 false, .rd 10 false, .rd 11 true, .rd 12 false, .rd 13 false, .rd 14 false, .rd 15 true, .rd 16 false, .ef 17 [], .rd 18 false, .ef 19 []] (by kernel_rfl) (by kernel_rfl) (by kernel_rfl) ?_
    simp only [go_sem, f0, f1, f11, f12, v5, hb2, set_same, q1, q2, en_take hl, en_app hl, hl, ho, hce, rw_set, q3, Array.size_setIfInBounds, v6, f8, f9, f10]
    refine ⟨by omega, by omega, by omega, by omega, by omega, by omega, by omega, by omega, 3 - (j + 1), by omega, j + 1, rfl, by omega, by rw [hst, swp_size]; exact hdd, by rw [hst]; rfl, by rw [set_ne hrb, hst]; exact hr2, fun x o hx hxb => by rw [set_ne hxb]; exact hs2 x o hx hxb, rfl⟩
  · obtain rfl : j = 3 := by omega
    simp only [go_sem]
    refine aRet_view (r := .tup []) rfl _ (σ.set b (.rows 1 (rw' en (brk d a len m (a + q * 2 - 1) 3).2) false cap)) (view_drop fun x o hx => ?_) rfl
    by_cases e : x = b
    · subst e
      rw [set_same] at hx
      rw [hbb]; exact hx
    · rw [set_ne e] at hx
      exact hss x o hx e
end
end Go.Proofs.YthdfpankebjleaaGreat.L

/-
  The library's sort, of lists of facts: what is nearly sorted.
  Conditions: none.
-/
namespace Go.Proofs.YthdfpankebjleaaGreat.L
open Go Go.Av Go.Sort

section
variable {α : Type} [Inhabited α] {en : α → List AV} (hl : ∀ x, (en x).length = 1) (ho : ∀ x, (en x).all AV.one = true) (hce : ∀ x, ((en x).getD 0 (.v undef)).cells = en x) {cf : α → α → Int} {g : Nat} {β : St} (hC : ∀ σ', (∀ x o, β x = some o → σ' x = some o) → ∀ x y, AT Tryz.prog g [(en x).getD 0 (.v undef), (en y).getD 0 (.v undef)] σ' fun r σ'' => r = int (cf x y) ∧ σ'' = σ')
variable {σ : St} {b cap : Nat} {d : Array α} (hb : σ b = some (.rows 1 (rw' en d) false cap)) (hn : β b = none) (hs : ∀ x o, β x = some o → σ x = some o) {n : Nat} (hd : d.size = n) (hsz : n ≤ 1000000000)
theorem scan_eq {lt : α → α → Bool} {d : Array α} {e i : Nat} : scanSorted lt d e i = if i < e ∧ lt d[i]! d[i - 1]! = false then scanSorted lt d e (i + 1) else i := by
  rw [scanSorted]
  by_cases h : i < e <;> cases h2 : lt d[i]! d[i - 1]! <;> simp [h]
theorem up_eq {lt : α → α → Bool} {d : Array α} {e j : Nat} : shiftUp lt e j d = if j < e ∧ lt d[j]! d[j - 1]! = true then shiftUp lt e (j + 1) (swp d j (j - 1)) else d := by
  rw [shiftUp]
  by_cases h : j < e <;> cases h2 : lt d[j]! d[j - 1]! <;> simp [h]
/-- One step. -/
def pst (lt : α → α → Bool) (a e : Nat) (i : Nat) (d : Array α) : Array α :=
  let d1 := swp d i (i - 1)
  let d2 := if 2 ≤ i - a then shiftDown lt (i - 1) d1 else d1
  if 2 ≤ e - i then shiftUp lt e (i + 1) d2 else d2
theorem pin_eq {lt : α → α → Bool} {a e s i : Nat} {d : Array α} : partialIns lt a e (s + 1) i d = if scanSorted lt d e i = e then (d, true) else if e - a < 50 then (d, false) else partialIns lt a e s (scanSorted lt d e i) (pst lt a e (scanSorted lt d e i) d) := rfl
include hl ho hce hC hb hn hs hd hsz
theorem partial_at {a e : Nat} (he : e ≤ n) (ha : a < e) : AT Tryz.prog 161 [slv b n cap, int a, int e, fnv g] σ fun r σ' => r = boo (partialInsertionSort (ltc cf) d a e).2 ∧ σ' = σ.set b (.rows 1 (rw' en (partialInsertionSort (ltc cf) d a e).1) false cap) := by
  refine AT.of_body Tryz.func161 rfl (by decide) (by kernel_rfl) (by kernel_rfl) (Nat.le_of_ble_eq_true rfl) ?_
  simp only [go_sem, r_block, next64 (show a < 9223372036854775807 by omega)]
  refine ⟨fun m fr σ' => ∃ (s i : Nat) (d' : Array α), m = s ∧ s ≤ 5 ∧ a < i ∧ i ≤ e ∧ d'.size = n ∧ partialIns (ltc cf) a e s i d' = partialInsertionSort (ltc cf) d a e ∧ σ' = σ.set b (.rows 1 (rw' en d') false cap) ∧ fr 0 = slv b n cap ∧ fr 1 = int a ∧ fr 2 = int e ∧ fr 3 = fnv g ∧ fr 9 = int i ∧ fr 10 = int ((5 : Int) - s), ⟨_, 5, a + 1, d, rfl, by omega, by omega, by omega, hd, rfl, (set_id hb).symm, rfl, rfl, rfl, rfl, rfl, rfl⟩, ?_⟩
  rintro m fr σ' ⟨s, i, dd, hm, h5, hi1, hi2, hdd, hI, rfl, f0, f1, f2, f3, f9, f10⟩
  subst hm
  simp only [go_sem, f10]
  refine aIf_by (fun hlt => ?_) (fun hlt => ?_)
  · obtain ⟨t, rfl⟩ : ∃ t, m = t + 1 := ⟨m - 1, by omega⟩
    rw [pin_eq] at hI
    simp only [go_sem]
    rw [r_block]
    simp only [go_sem]
    refine aMeet (fun fr σ' => σ' = σ.set b (.rows 1 (rw' en dd) false cap) ∧ ∃ j : Nat, a < j ∧ j ≤ e ∧ scanSorted (ltc cf) dd e i = j ∧ fr 0 = slv b n cap ∧ fr 1 = int a ∧ fr 2 = int e ∧ fr 3 = fnv g ∧ fr 9 = int j ∧ fr 10 = int ((5 : Int) - (t + 1 : Nat))) ?_ ?_
    · simp only [go_sem, r_block]
      refine ⟨fun k fr σ' => ∃ j : Nat, k = e - j ∧ a < j ∧ j ≤ e ∧ scanSorted (ltc cf) dd e j = scanSorted (ltc cf) dd e i ∧ σ' = σ.set b (.rows 1 (rw' en dd) false cap) ∧ fr 0 = slv b n cap ∧ fr 1 = int a ∧ fr 2 = int e ∧ fr 3 = fnv g ∧ fr 9 = int j ∧ fr 10 = int ((5 : Int) - (t + 1 : Nat)), ⟨_, i, rfl, hi1, hi2, rfl, rfl, f0, f1, f2, f3, f9, f10⟩, ?_⟩
      clear f0 f1 f2 f3 f9 f10 fr
      rintro k fr σ' ⟨j, rfl, hj1, hj2, hJ, rfl, f0, f1, f2, f3, f9, f10⟩
      rw [scan_eq] at hJ
      have w1 : IntKind.i64.wrap ((j : Int) - 1) = ((j - 1 : Nat) : Int) := by rw [wrap64 (by omega)]; omega
      simp only [go_sem]
      refine aDraw_plan [.rd 0 false, .rd 1 false, .rd 2 false, .rd 3 false, .rd 4 false, .rd 5 false, .rd 6 false, .rd 7 false, .rd 8 true, .rd 9 false, .rd 10 false, .rd 11 false, .rd 12 false, .rd 13 true, .ef 14 [], .rd 15 false, .rd 16 false, .rd 17 false] (by kernel_rfl) (by kernel_rfl) (by kernel_rfl) ?_
      by_cases g1 : (j : Int) < e
      · have q1 := rw_get (en := en) (d := dd) (j := j) (by omega)
        have q2 := rw_get (en := en) (d := dd) (j := j - 1) (by omega)
        simp only [go_sem, f0, f1, f2, f3, f9, decide_eq_true g1, w1, set_same, q1, q2, en_take hl]
        refine ⟨by omega, by omega, by omega, by omega, (hC _ (sub_set hn hs) _ _).mono ?_⟩
        rintro _ σ1 ⟨rfl, rfl⟩
        simp only [go_sem]
        refine aIf_by (fun g2 => ?_) (fun g2 => ?_)
        · rw [if_neg (by unfold ltc; rw [decide_eq_true g2]; simp)] at hJ
          simp only [go_sem]
          exact ⟨j, hj1, hj2, hJ.symm, f0, f1, f2, f3, f9, f10⟩
        · rw [if_pos ⟨by omega, by unfold ltc; exact decide_eq_false g2⟩] at hJ
          simp only [go_sem, r_block, f0, f1, f2, f3, f9, f10, next64 (show j < 9223372036854775807 by omega)]
          exact ⟨e - (j + 1), by omega, j + 1, rfl, by omega, by omega, hJ, rfl⟩
      · rw [if_neg (by omega)] at hJ
        simp only [go_sem, f2, f9, decide_eq_false g1]
        exact ⟨j, hj1, hj2, hJ.symm, f0, f1, f3, rfl, f10⟩
    clear f0 f1 f2 f3 f9 f10 fr
    rintro fr σ' ⟨rfl, j, hj1, hj2, hJ, f0, f1, f2, f3, f9, f10⟩
    rw [hJ] at hI
    have w1 : IntKind.i64.wrap ((j : Int) - 1) = ((j - 1 : Nat) : Int) := by rw [wrap64 (by omega)]; omega
    have w2 : IntKind.i64.wrap ((e : Int) - a) = ((e - a : Nat) : Int) := by rw [wrap64 (by omega)]; omega
    have w3 : IntKind.i64.wrap ((j : Int) - a) = ((j - a : Nat) : Int) := by rw [wrap64 (by omega)]; omega
    have w4 : IntKind.i64.wrap ((e : Int) - j) = ((e - j : Nat) : Int) := by rw [wrap64 (by omega)]; omega
    simp only [go_sem, f2, f9]
    refine aIf_by (fun g1 => ?_) (fun g1 => ?_)
    · rw [if_pos (by omega)] at hI
      simp only [go_sem]
      rw [← hI]
      exact aRet_as (r := boo true) rfl ⟨rfl, rfl⟩
    rw [if_neg (by omega)] at hI
    simp only [go_sem, f1, f2, w2]
    refine aIf_by (fun g2 => ?_) (fun g2 => ?_)
    · rw [if_pos (by omega)] at hI
      simp only [go_sem]
      rw [← hI]
      exact aRet_as (r := boo false) rfl ⟨rfl, rfl⟩
    rw [if_neg (by omega)] at hI
    simp only [go_sem]
    have q1 := rw_get (en := en) (d := dd) (j := j) (by omega)
    have q2 := rw_get (en := en) (d := dd) (j := j - 1) (by omega)
    have q3 := rw_get (en := en) (d := dd.setIfInBounds j dd[j - 1]!) (j := j - 1) (by rw [Array.size_setIfInBounds]; omega)
    refine aDraw_plan [.rd 0 false, .rd 1 false, .rd 2 false, .rd 3 false, .rd 4 false, .rd 5 false, .rd 6 false, .rd 7 false, .rd 8 false, .rd 9 true, .rd 10 false, .rd 11 false, .rd 12 false, .rd 13 true, .rd 14 false, .ef 15 [], .rd 16 false, .ef 17 []] (by kernel_rfl) (by kernel_rfl) (by kernel_rfl) ?_
    simp only [go_sem, f0, f1, f2, f3, f9, w1, w3, set_same, q1, q2, en_take hl, en_app hl, hl, ho, hce, rw_set, q3, Array.size_setIfInBounds]
    refine ⟨by omega, by omega, by omega, by omega, by omega, by omega, by omega, by omega, ?_⟩
    obtain ⟨d1, hd1⟩ : ∃ d1, d1 = swp dd j (j - 1) := ⟨_, rfl⟩
    have hz1 : d1.size = n := by rw [hd1, swp_size]; exact hdd
    have hI : partialIns (ltc cf) a e t j (if 2 ≤ e - j then shiftUp (ltc cf) e (j + 1) (if 2 ≤ j - a then shiftDown (ltc cf) (j - 1) d1 else d1) else (if 2 ≤ j - a then shiftDown (ltc cf) (j - 1) d1 else d1)) = partialInsertionSort (ltc cf) d a e := by rw [hd1]; exact hI
    have e1 : AObj.rows 1 (rw' en ((dd.setIfInBounds j dd[j - 1]!).setIfInBounds (j - 1) dd[j]!)) false cap = AObj.rows 1 (rw' en d1) false cap := by rw [hd1]; rfl
    rw [e1]
    clear e1 q1 q2 q3
    refine aIf_meet (fun fr σ' => ∃ d2, d2 = (if 2 ≤ j - a then shiftDown (ltc cf) (j - 1) d1 else d1) ∧ d2.size = n ∧ σ' = σ.set b (.rows 1 (rw' en d2) false cap) ∧ fr 0 = slv b n cap ∧ fr 1 = int a ∧ fr 2 = int e ∧ fr 3 = fnv g ∧ fr 9 = int j ∧ fr 10 = int ((5 : Int) - (t + 1 : Nat))) (fun g3 => ?_) (fun g3 => ?_) ?_
    · rw [if_pos (by omega)]
      simp only [go_sem, r_block, f9, w1]
      refine ⟨fun m fr σ' => ∃ (k : Nat) (dk : Array α), m = k + 1 ∧ k < n ∧ dk.size = n ∧ shiftDown (ltc cf) k dk = shiftDown (ltc cf) (j - 1) d1 ∧ σ' = σ.set b (.rows 1 (rw' en dk) false cap) ∧ fr 0 = slv b n cap ∧ fr 1 = int a ∧ fr 2 = int e ∧ fr 3 = fnv g ∧ fr 9 = int j ∧ fr 10 = int ((5 : Int) - (t + 1 : Nat)) ∧ fr 11 = int k, ⟨_, j - 1, d1, rfl, by omega, hz1, rfl, rfl, f0, f1, f2, f3, f9, f10, rfl⟩, ?_⟩
      clear f0 f1 f2 f3 f9 f10 fr
      rintro m fr σ' ⟨k, dk, rfl, hk, hdk, hK, rfl, f0, f1, f2, f3, f9, f10, f11⟩
      simp only [go_sem, f11]
      refine aIf_by (fun g4 => ?_) (fun g4 => ?_)
      · obtain ⟨l, rfl⟩ : ∃ l, k = l + 1 := ⟨k - 1, by omega⟩
        have w5 : IntKind.i64.wrap (((l + 1 : Nat) : Int) - 1) = (l : Int) := by rw [wrap64 (by omega)]; omega
        have q1 := rw_get (en := en) (d := dk) (j := l + 1) (by omega)
        have q2 := rw_get (en := en) (d := dk) (j := l) (by omega)
        have q3 := rw_get (en := en) (d := dk.setIfInBounds (l + 1) dk[l]!) (j := l) (by rw [Array.size_setIfInBounds]; omega)
        rw [shiftDown] at hK
        simp only [go_sem, r_block]
        refine aDraw_plan [.rd 0 false, .rd 1 false, .rd 2 false, .rd 3 false, .rd 4 true, .rd 5 false, .rd 6 false, .rd 7 false, .rd 8 false, .rd 9 true, .ef 10 [], .rd 11 false, .rd 12 false] (by kernel_rfl) (by kernel_rfl) (by kernel_rfl) ?_
        simp only [go_sem, f0, f3, f11, w5, set_same, q1, q2, en_take hl]
        refine ⟨by omega, by omega, by omega, by omega, (hC _ (sub_set hn hs) _ _).mono ?_⟩
        rintro _ σ1 ⟨rfl, rfl⟩
        simp only [go_sem]
        refine aIf_by (fun g5 => ?_) (fun g5 => ?_)
        · rw [if_neg (by unfold ltc; rw [decide_eq_true g5]; simp)] at hK
          simp only [go_sem]
          refine aDraw_plan [.rd 0 false, .rd 1 false, .rd 2 false, .rd 3 false, .rd 4 false, .rd 5 false, .rd 6 false, .rd 7 false, .rd 8 false, .rd 9 true, .rd 10 false, .rd 11 false, .rd 12 false, .rd 13 true, .rd 14 false, .ef 15 [], .rd 16 false, .ef 17 []] (by kernel_rfl) (by kernel_rfl) (by kernel_rfl) ?_
          simp only [go_sem, f0, f3, f11, w5, set_same, q1, q2, en_take hl, en_app hl, hl, ho, hce, rw_set, q3, Array.size_setIfInBounds, f1, f2, f9, f10]
          exact ⟨by omega, by omega, by omega, by omega, by omega, by omega, by omega, by omega, l + 1, by omega, l, swp dk (l + 1) l, rfl, by omega, by rw [swp_size]; exact hdk, hK, rfl, rfl⟩
        · rw [if_pos (by unfold ltc; rw [decide_eq_false g5]; rfl)] at hK
          simp only [go_sem]
          exact ⟨dk, hK, hdk, rfl, f0, f1, f2, f3, f9, f10⟩
      · obtain rfl : k = 0 := by omega
        simp only [go_sem]
        exact ⟨dk, hK, hdk, rfl, f0, f1, f2, f3, f9, f10⟩
    · rw [if_neg (by omega)]
      simp only [go_sem]
      exact ⟨d1, rfl, hz1, rfl, f0, f1, f2, f3, f9, f10⟩
    clear f0 f1 f2 f3 f9 f10 fr
    rintro fr σ' ⟨d2, hd2, hz2, rfl, f0, f1, f2, f3, f9, f10⟩
    rw [← hd2] at hI
    clear hd1 hd2 hz1 d1
    simp only [go_sem, f2, f9, w4]
    have w6 : IntKind.i64.wrap (((5 : Int) - (t + 1 : Nat)) + 1) = (5 : Int) - (t : Nat) := by rw [wrap64 (by omega)]; omega
    refine aIf_by (fun g3 => ?_) (fun g3 => ?_)
    · rw [if_pos (by omega)] at hI
      simp only [go_sem, r_block, f9, next64 (show j < 9223372036854775807 by omega)]
      refine ⟨fun m fr σ' => ∃ (k : Nat) (dk : Array α), m = e - k ∧ j < k ∧ dk.size = n ∧ shiftUp (ltc cf) e k dk = shiftUp (ltc cf) e (j + 1) d2 ∧ σ' = σ.set b (.rows 1 (rw' en dk) false cap) ∧ fr 0 = slv b n cap ∧ fr 1 = int a ∧ fr 2 = int e ∧ fr 3 = fnv g ∧ fr 9 = int j ∧ fr 10 = int ((5 : Int) - (t + 1 : Nat)) ∧ fr 12 = int k, ⟨_, j + 1, d2, rfl, by omega, hz2, rfl, rfl, f0, f1, f2, f3, f9, f10, rfl⟩, ?_⟩
      clear f0 f1 f2 f3 f9 f10 fr
      rintro m fr σ' ⟨k, dk, rfl, hk, hdk, hK, rfl, f0, f1, f2, f3, f9, f10, f12⟩
      rw [up_eq] at hK
      simp only [go_sem, f12, f2]
      refine aIf_by (fun g4 => ?_) (fun g4 => ?_)
      · have w5 : IntKind.i64.wrap ((k : Int) - 1) = ((k - 1 : Nat) : Int) := by rw [wrap64 (by omega)]; omega
        have q1 := rw_get (en := en) (d := dk) (j := k) (by omega)
        have q2 := rw_get (en := en) (d := dk) (j := k - 1) (by omega)
        have q3 := rw_get (en := en) (d := dk.setIfInBounds k dk[k - 1]!) (j := k - 1) (by rw [Array.size_setIfInBounds]; omega)
        simp only [go_sem, r_block]
        refine aDraw_plan [.rd 0 false, .rd 1 false, .rd 2 false, .rd 3 false, .rd 4 true, .rd 5 false, .rd 6 false, .rd 7 false, .rd 8 false, .rd 9 true, .ef 10 [], .rd 11 false, .rd 12 false] (by kernel_rfl) (by kernel_rfl) (by kernel_rfl) ?_
        simp only [go_sem, f0, f3, f12, w5, set_same, q1, q2, en_take hl]
        refine ⟨by omega, by omega, by omega, by omega, (hC _ (sub_set hn hs) _ _).mono ?_⟩
        rintro _ σ1 ⟨rfl, rfl⟩
        simp only [go_sem]
        refine aIf_by (fun g5 => ?_) (fun g5 => ?_)
        · rw [if_pos ⟨by omega, by unfold ltc; exact decide_eq_true g5⟩] at hK
          simp only [go_sem]
          refine aDraw_plan [.rd 0 false, .rd 1 false, .rd 2 false, .rd 3 false, .rd 4 false, .rd 5 false, .rd 6 false, .rd 7 false, .rd 8 false, .rd 9 true, .rd 10 false, .rd 11 false, .rd 12 false, .rd 13 true, .rd 14 false, .ef 15 [], .rd 16 false, .ef 17 []] (by kernel_rfl) (by kernel_rfl) (by kernel_rfl) ?_
          simp only [go_sem, f0, f3, f12, w5, set_same, q1, q2, en_take hl, en_app hl, hl, ho, hce, rw_set, q3, Array.size_setIfInBounds, f1, f2, f9, f10, next64 (show k < 9223372036854775807 by omega)]
          exact ⟨by omega, by omega, by omega, by omega, by omega, by omega, by omega, by omega, e - (k + 1), by omega, k + 1, swp dk k (k - 1), rfl, by omega, by rw [swp_size]; exact hdk, hK, rfl, rfl⟩
        · rw [if_neg (fun h => g5 (of_decide_eq_true h.2))] at hK
          simp only [go_sem, f0, f1, f2, f3, f9, f10, w6]
          exact ⟨t, by omega, t, j, dk, rfl, by omega, hj1, hj2, hdk, by rw [hK]; exact hI, rfl, rfl, rfl⟩
      · rw [if_neg (fun h => g4 (by omega))] at hK
        simp only [go_sem, f0, f1, f2, f3, f9, f10, w6]
        exact ⟨t, by omega, t, j, dk, rfl, by omega, hj1, hj2, hdk, by rw [hK]; exact hI, rfl, rfl, rfl⟩
    · rw [if_neg (by omega)] at hI
      simp only [go_sem, f0, f1, f2, f3, f9, f10, w6]
      exact ⟨t, by omega, t, j, d2, rfl, by omega, hj1, hj2, hz2, hI, rfl, rfl, rfl⟩
  · obtain rfl : m = 0 := by omega
    simp only [go_sem]
    rw [← hI]
    exact aRet_as (r := boo false) rfl ⟨rfl, rfl⟩
end
end Go.Proofs.YthdfpankebjleaaGreat.L

/-
  The library's sort, of lists of facts: parting those that are equal.
  Conditions: none.
-/
namespace Go.Proofs.YthdfpankebjleaaGreat.L
open Go Go.Av Go.Sort

section
variable {α : Type} [Inhabited α] {en : α → List AV} (hl : ∀ x, (en x).length = 1) (ho : ∀ x, (en x).all AV.one = true) (hce : ∀ x, ((en x).getD 0 (.v undef)).cells = en x) {cf : α → α → Int} {g : Nat} {β : St} (hC : ∀ σ', (∀ x o, β x = some o → σ' x = some o) → ∀ x y, AT Tryz.prog g [(en x).getD 0 (.v undef), (en y).getD 0 (.v undef)] σ' fun r σ'' => r = int (cf x y) ∧ σ'' = σ')
variable {σ : St} {b cap : Nat} {d : Array α} (hb : σ b = some (.rows 1 (rw' en d) false cap)) (hn : β b = none) (hs : ∀ x o, β x = some o → σ x = some o) {n : Nat} (hd : d.size = n) (hsz : n ≤ 1000000000)
theorem sup_eq {p : α → Bool} {d : Array α} {j i : Nat} : scanUp p d j i = if i ≤ j ∧ p d[i]! = true then scanUp p d j (i + 1) else i := by
  rw [scanUp]
  by_cases h : i ≤ j <;> cases h2 : p d[i]! <;> simp [h]
theorem sdn_eq {p : α → Bool} {d : Array α} {i j : Nat} (hi : 1 ≤ i) : scanDown p d i j = if i ≤ j ∧ p d[j]! = true then scanDown p d i (j - 1) else j := by
  cases j with
  | zero => rw [scanDown, if_neg (fun h => by omega)]
  | succ k =>
    rw [scanDown]
    by_cases h : i ≤ k + 1 <;> cases h2 : p d[k + 1]! <;> simp [h]
theorem peq_stop {lt : α → α → Bool} {a i j i2 j2 : Nat} {d : Array α} (h1 : scanUp (fun x => !lt d[a]! x) d j i = i2) (h2 : scanDown (fun x => lt d[a]! x) d i2 j = j2) (h : j2 < i2) : partEqLoop lt a i j d = (i2, d) := by
  rw [partEqLoop]
  simp only [h1, h2]
  rw [if_pos h]
theorem peq_go {lt : α → α → Bool} {a i j i2 j2 : Nat} {d : Array α} (h1 : scanUp (fun x => !lt d[a]! x) d j i = i2) (h2 : scanDown (fun x => lt d[a]! x) d i2 j = j2) (h : ¬ j2 < i2) (hi : i ≤ i2) (hj : j2 ≤ j) : partEqLoop lt a i j d = partEqLoop lt a (i2 + 1) (j2 - 1) (swp d i2 j2) := by
  rw [partEqLoop]
  simp only [h1, h2]
  rw [if_neg h, dif_pos (by omega)]
include hl ho hce hC hb hn hs hd hsz
theorem parteq_at {a e pv : Nat} (he : e ≤ n) (ha : a + 2 ≤ e) (hp : pv < n) : AT Tryz.prog 162 [slv b n cap, int a, int e, int pv, fnv g] σ fun r σ' => r = int (partitionEqual (ltc cf) d a e pv).1 ∧ σ' = σ.set b (.rows 1 (rw' en (partitionEqual (ltc cf) d a e pv).2) false cap) := by
  refine AT.of_body Tryz.func162 rfl (by decide) (by kernel_rfl) (by kernel_rfl) (Nat.le_of_ble_eq_true rfl) ?_
  have q1 := rw_get (en := en) (d := d) (j := a) (by omega)
  have q2 := rw_get (en := en) (d := d) (j := pv) (by omega)
  have q3 := rw_get (en := en) (d := d.setIfInBounds a d[pv]!) (j := pv) (by rw [Array.size_setIfInBounds]; omega)
  have w1 : IntKind.i64.wrap ((e : Int) - 1) = ((e - 1 : Nat) : Int) := by rw [wrap64 (by omega)]; omega
  simp only [go_sem]
  refine aDraw_plan [.rd 0 false, .rd 1 false, .rd 2 false, .rd 3 false, .rd 4 false, .rd 5 false, .rd 6 false, .rd 7 true, .rd 8 false, .rd 9 false, .rd 10 false, .rd 11 true, .rd 12 false, .ef 13 [], .rd 14 false, .ef 15 []] (by kernel_rfl) (by kernel_rfl) (by kernel_rfl) ?_
  simp only [go_sem, r_block, hb, set_same, q1, q2, en_take hl, en_app hl, hl, ho, hce, rw_set, q3, Array.size_setIfInBounds, w1, next64 (show a < 9223372036854775807 by omega)]
  refine ⟨by omega, by omega, by omega, by omega, by omega, by omega, by omega, by omega, ?_⟩
  clear q1 q2 q3
  refine ⟨fun m fr σ' => ∃ (i j : Nat) (d' : Array α), m = j + 1 - i ∧ a < i ∧ i ≤ e ∧ j < e ∧ i ≤ j + 2 ∧ d'.size = n ∧ partEqLoop (ltc cf) a i j d' = partitionEqual (ltc cf) d a e pv ∧ σ' = σ.set b (.rows 1 (rw' en d') false cap) ∧ fr 0 = slv b n cap ∧ fr 1 = int a ∧ fr 4 = fnv g ∧ fr 11 = int i ∧ fr 12 = int j, ⟨_, a + 1, e - 1, swp d a pv, rfl, by omega, by omega, by omega, by omega, by rw [swp_size]; exact hd, rfl, rfl, rfl, rfl, rfl, rfl, rfl⟩, ?_⟩
  rintro m fr σ' ⟨i, j, dd, rfl, hi1, hi2, hj1, hij, hdd, hI, rfl, f0, f1, f4, f11, f12⟩
  simp only [go_sem]
  rw [r_block]
  simp only [go_sem]
  refine aMeet (fun fr σ' => σ' = σ.set b (.rows 1 (rw' en dd) false cap) ∧ ∃ i2 : Nat, i ≤ i2 ∧ (i2 ≤ i ∨ i2 ≤ j + 1) ∧ scanUp (fun x => !ltc cf dd[a]! x) dd j i = i2 ∧ fr 0 = slv b n cap ∧ fr 1 = int a ∧ fr 4 = fnv g ∧ fr 11 = int i2 ∧ fr 12 = int j) ?_ ?_
  · simp only [go_sem, r_block]
    refine ⟨fun m fr σ' => ∃ i2 : Nat, m = j + 1 - i2 ∧ i ≤ i2 ∧ (i2 ≤ i ∨ i2 ≤ j + 1) ∧ scanUp (fun x => !ltc cf dd[a]! x) dd j i2 = scanUp (fun x => !ltc cf dd[a]! x) dd j i ∧ σ' = σ.set b (.rows 1 (rw' en dd) false cap) ∧ fr 0 = slv b n cap ∧ fr 1 = int a ∧ fr 4 = fnv g ∧ fr 11 = int i2 ∧ fr 12 = int j, ⟨_, i, rfl, by omega, by omega, rfl, rfl, f0, f1, f4, f11, f12⟩, ?_⟩
    clear f0 f1 f4 f11 f12 fr
    rintro m fr σ' ⟨i2, rfl, h1, h2, hJ, rfl, f0, f1, f4, f11, f12⟩
    rw [sup_eq] at hJ
    simp only [go_sem]
    refine aDraw_plan [.rd 0 false, .rd 1 false, .rd 2 false, .rd 3 false, .rd 4 false, .rd 5 false, .rd 6 false, .rd 7 false, .rd 8 true, .rd 9 false, .rd 10 false, .rd 11 false, .rd 12 true, .ef 13 [], .rd 14 false, .rd 15 false, .rd 16 false] (by kernel_rfl) (by kernel_rfl) (by kernel_rfl) ?_
    by_cases g1 : (i2 : Int) ≤ j
    · have q1 := rw_get (en := en) (d := dd) (j := i2) (by omega)
      have q2 := rw_get (en := en) (d := dd) (j := a) (by omega)
      simp only [go_sem, f0, f1, f4, f11, f12, decide_eq_true g1, set_same, q1, q2, en_take hl]
      refine ⟨by omega, by omega, by omega, by omega, (hC _ (sub_set hn hs) _ _).mono ?_⟩
      rintro _ σ1 ⟨rfl, rfl⟩
      simp only [go_sem]
      refine aIf_by (fun g2 => ?_) (fun g2 => ?_)
      · rw [if_neg (by unfold ltc; rw [decide_eq_true g2]; simp)] at hJ
        simp only [go_sem]
        exact ⟨i2, h1, h2, hJ.symm, f0, f1, f4, f11, f12⟩
      · rw [if_pos ⟨by omega, by unfold ltc; rw [decide_eq_false g2]; rfl⟩] at hJ
        simp only [go_sem, r_block, f0, f1, f4, f11, f12, next64 (show i2 < 9223372036854775807 by omega)]
        exact ⟨j + 1 - (i2 + 1), by omega, i2 + 1, rfl, by omega, by omega, hJ, rfl⟩
    · rw [if_neg (by omega)] at hJ
      simp only [go_sem, f11, f12, decide_eq_false g1]
      exact ⟨i2, h1, h2, hJ.symm, f0, f1, f4, rfl⟩
  clear f0 f1 f4 f11 f12 fr
  rintro fr σ' ⟨rfl, i2, h1, h2, hi3, f0, f1, f4, f11, f12⟩
  simp only [go_sem]
  refine aMeet (fun fr σ' => σ' = σ.set b (.rows 1 (rw' en dd) false cap) ∧ ∃ j2 : Nat, j2 ≤ j ∧ scanDown (fun x => ltc cf dd[a]! x) dd i2 j = j2 ∧ (i2 ≤ j → i2 ≤ j2 + 1) ∧ (j < i2 → j2 = j) ∧ fr 0 = slv b n cap ∧ fr 1 = int a ∧ fr 4 = fnv g ∧ fr 11 = int i2 ∧ fr 12 = int j2) ?_ ?_
  · simp only [go_sem, r_block]
    refine ⟨fun m fr σ' => ∃ j2 : Nat, m = j2 ∧ j2 ≤ j ∧ scanDown (fun x => ltc cf dd[a]! x) dd i2 j2 = scanDown (fun x => ltc cf dd[a]! x) dd i2 j ∧ (i2 ≤ j → i2 ≤ j2 + 1) ∧ (j < i2 → j2 = j) ∧ σ' = σ.set b (.rows 1 (rw' en dd) false cap) ∧ fr 0 = slv b n cap ∧ fr 1 = int a ∧ fr 4 = fnv g ∧ fr 11 = int i2 ∧ fr 12 = int j2, ⟨_, j, rfl, by omega, rfl, by omega, by omega, rfl, f0, f1, f4, f11, f12⟩, ?_⟩
    clear f0 f1 f4 f11 f12 fr
    rintro m fr σ' ⟨j2, hm, k1, hJ, k2, k3, rfl, f0, f1, f4, f11, f12⟩
    subst hm
    rw [sdn_eq (by omega)] at hJ
    simp only [go_sem]
    refine aDraw_plan [.rd 0 false, .rd 1 false, .rd 2 false, .rd 3 false, .rd 4 false, .rd 5 false, .rd 6 false, .rd 7 false, .rd 8 true, .rd 9 false, .rd 10 false, .rd 11 false, .rd 12 true, .ef 13 [], .rd 14 false, .rd 15 false] (by kernel_rfl) (by kernel_rfl) (by kernel_rfl) ?_
    by_cases g1 : (i2 : Int) ≤ m
    · have q1 := rw_get (en := en) (d := dd) (j := m) (by omega)
      have q2 := rw_get (en := en) (d := dd) (j := a) (by omega)
      have w2 : IntKind.i64.wrap ((m : Int) - 1) = ((m - 1 : Nat) : Int) := by rw [wrap64 (by omega)]; omega
      simp only [go_sem, f0, f1, f4, f11, f12, decide_eq_true g1, set_same, q1, q2, en_take hl]
      refine ⟨by omega, by omega, by omega, by omega, (hC _ (sub_set hn hs) _ _).mono ?_⟩
      rintro _ σ1 ⟨rfl, rfl⟩
      simp only [go_sem]
      refine aIf_by (fun g2 => ?_) (fun g2 => ?_)
      · rw [if_pos ⟨by omega, by unfold ltc; exact decide_eq_true g2⟩] at hJ
        simp only [go_sem, r_block, f0, f1, f4, f11, f12, w2]
        exact ⟨m - 1, by omega, m - 1, rfl, by omega, hJ, by omega, by omega, rfl⟩
      · rw [if_neg (fun h => g2 (of_decide_eq_true h.2))] at hJ
        simp only [go_sem]
        exact ⟨m, k1, hJ.symm, k2, k3, f0, f1, f4, f11, f12⟩
    · rw [if_neg (fun h => g1 (by omega))] at hJ
      simp only [go_sem, f11, f12, decide_eq_false g1]
      exact ⟨m, k1, hJ.symm, k2, k3, f0, f1, f4, rfl⟩
  clear f0 f1 f4 f11 f12 fr
  rintro fr σ' ⟨rfl, j2, k1, hj3, k2, k3, f0, f1, f4, f11, f12⟩
  simp only [go_sem, f11, f12]
  refine aIf_by (fun g1 => ?_) (fun g1 => ?_)
  · rw [peq_stop hi3 hj3 (by omega)] at hI
    simp only [go_sem, f11]
    rw [← hI]
    exact aRet_as (r := int i2) rfl ⟨rfl, rfl⟩
  · rw [peq_go hi3 hj3 (by omega) h1 k1] at hI
    have w2 : IntKind.i64.wrap ((j2 : Int) - 1) = ((j2 - 1 : Nat) : Int) := by rw [wrap64 (by omega)]; omega
    have q1 := rw_get (en := en) (d := dd) (j := i2) (by omega)
    have q2 := rw_get (en := en) (d := dd) (j := j2) (by omega)
    have q3 := rw_get (en := en) (d := dd.setIfInBounds i2 dd[j2]!) (j := j2) (by rw [Array.size_setIfInBounds]; omega)
    simp only [go_sem]
    refine aDraw_plan [.rd 0 false, .rd 1 false, .rd 2 false, .rd 3 false, .rd 4 false, .rd 5 false, .rd 6 false, .rd 7 true, .rd 8 false, .rd 9 false, .rd 10 false, .rd 11 true, .rd 12 false, .ef 13 [], .rd 14 false, .ef 15 []] (by kernel_rfl) (by kernel_rfl) (by kernel_rfl) ?_
    simp only [go_sem, f0, f1, f4, f11, f12, set_same, q1, q2, en_take hl, en_app hl, hl, ho, hce, rw_set, q3, Array.size_setIfInBounds, w2, next64 (show i2 < 9223372036854775807 by omega)]
    exact ⟨by omega, by omega, by omega, by omega, by omega, by omega, by omega, by omega, j2 - 1 + 1 - (i2 + 1), by omega, i2 + 1, j2 - 1, swp dd i2 j2, rfl, by omega, by omega, by omega, by omega, by rw [swp_size]; exact hdd, hI, rfl, rfl, rfl⟩
end
end Go.Proofs.YthdfpankebjleaaGreat.L

/-
  The library's sort, of lists of facts: parting.
  Conditions: none.
-/
namespace Go.Proofs.YthdfpankebjleaaGreat.L
open Go Go.Av Go.Sort

section
variable {α : Type} [Inhabited α] {en : α → List AV} (hl : ∀ x, (en x).length = 1) (ho : ∀ x, (en x).all AV.one = true) (hce : ∀ x, ((en x).getD 0 (.v undef)).cells = en x) {cf : α → α → Int} {g : Nat} {β : St} (hC : ∀ σ', (∀ x o, β x = some o → σ' x = some o) → ∀ x y, AT Tryz.prog g [(en x).getD 0 (.v undef), (en y).getD 0 (.v undef)] σ' fun r σ'' => r = int (cf x y) ∧ σ'' = σ')
variable {σ : St} {b cap : Nat} {d : Array α} (hb : σ b = some (.rows 1 (rw' en d) false cap)) (hn : β b = none) (hs : ∀ x o, β x = some o → σ x = some o) {n : Nat} (hd : d.size = n) (hsz : n ≤ 1000000000)
theorem pl_stop {lt : α → α → Bool} {a i j i2 j2 : Nat} {d : Array α} (h1 : scanUp (fun x => lt x d[a]!) d j i = i2) (h2 : scanDown (fun x => !lt x d[a]!) d i2 j = j2) (h : j2 < i2) : partLoop lt a i j d = (j2, d) := by
  rw [partLoop]
  simp only [h1, h2]
  rw [if_pos h]
theorem pl_go {lt : α → α → Bool} {a i j i2 j2 : Nat} {d : Array α} (h1 : scanUp (fun x => lt x d[a]!) d j i = i2) (h2 : scanDown (fun x => !lt x d[a]!) d i2 j = j2) (h : ¬ j2 < i2) (hi : i ≤ i2) (hj : j2 ≤ j) : partLoop lt a i j d = partLoop lt a (i2 + 1) (j2 - 1) (swp d i2 j2) := by
  rw [partLoop]
  simp only [h1, h2]
  rw [if_neg h, dif_pos (by omega)]
theorem pt_stop {lt : α → α → Bool} {a e pv i2 j2 : Nat} {d d0 : Array α} (h0 : d0 = swp d a pv) (h1 : scanUp (fun x => lt x d0[a]!) d0 (e - 1) (a + 1) = i2) (h2 : scanDown (fun x => !lt x d0[a]!) d0 i2 (e - 1) = j2) (h : j2 < i2) : partition lt d a e pv = (j2, true, swp d0 j2 a) := by
  unfold partition
  simp only [← h0, h1, h2]
  rw [if_pos h]
theorem pt_go {lt : α → α → Bool} {a e pv i2 j2 : Nat} {d d0 : Array α} (h0 : d0 = swp d a pv) (h1 : scanUp (fun x => lt x d0[a]!) d0 (e - 1) (a + 1) = i2) (h2 : scanDown (fun x => !lt x d0[a]!) d0 i2 (e - 1) = j2) (h : ¬ j2 < i2) : partition lt d a e pv = ((partLoop lt a (i2 + 1) (j2 - 1) (swp d0 i2 j2)).1, false, swp (partLoop lt a (i2 + 1) (j2 - 1) (swp d0 i2 j2)).2 (partLoop lt a (i2 + 1) (j2 - 1) (swp d0 i2 j2)).1 a) := by
  unfold partition
  simp only [← h0, h1, h2]
  rw [if_neg h]
include hl ho hce hC hb hn hs hd hsz
theorem part_at {a e pv : Nat} (he : e ≤ n) (ha : a + 2 ≤ e) (hp : pv < n) : AT Tryz.prog 163 [slv b n cap, int a, int e, int pv, fnv g] σ fun r σ' => r = .tup [int (partition (ltc cf) d a e pv).1, boo (partition (ltc cf) d a e pv).2.1] ∧ σ' = σ.set b (.rows 1 (rw' en (partition (ltc cf) d a e pv).2.2) false cap) := by
  refine AT.of_body Tryz.func163 rfl (by decide) (by kernel_rfl) (by kernel_rfl) (Nat.le_of_ble_eq_true rfl) ?_
  have q1 := rw_get (en := en) (d := d) (j := a) (by omega)
  have q2 := rw_get (en := en) (d := d) (j := pv) (by omega)
  have q3 := rw_get (en := en) (d := d.setIfInBounds a d[pv]!) (j := pv) (by rw [Array.size_setIfInBounds]; omega)
  have w1 : IntKind.i64.wrap ((e : Int) - 1) = ((e - 1 : Nat) : Int) := by rw [wrap64 (by omega)]; omega
  simp only [go_sem]
  refine aDraw_plan [.rd 0 false, .rd 1 false, .rd 2 false, .rd 3 false, .rd 4 false, .rd 5 false, .rd 6 false, .rd 7 true, .rd 8 false, .rd 9 false, .rd 10 false, .rd 11 true, .rd 12 false, .ef 13 [], .rd 14 false, .ef 15 []] (by kernel_rfl) (by kernel_rfl) (by kernel_rfl) ?_
  simp only [go_sem, hb, set_same, q1, q2, en_take hl, en_app hl, hl, ho, hce, rw_set, q3, Array.size_setIfInBounds, w1, next64 (show a < 9223372036854775807 by omega)]
  refine ⟨by omega, by omega, by omega, by omega, by omega, by omega, by omega, by omega, ?_⟩
  clear q1 q2 q3
  obtain ⟨d0, hd0⟩ : ∃ d0, d0 = swp d a pv := ⟨_, rfl⟩
  have hz0 : d0.size = n := by rw [hd0, swp_size]; exact hd
  have e1 : AObj.rows 1 (rw' en ((d.setIfInBounds a d[pv]!).setIfInBounds pv d[a]!)) false cap = AObj.rows 1 (rw' en d0) false cap := by rw [hd0]; rfl
  rw [e1]
  clear e1
  apply meet_by (fun fr σ' => σ' = σ.set b (.rows 1 (rw' en d0) false cap) ∧ fr 0 = slv b n cap ∧ fr 1 = int a ∧ fr 4 = fnv g ∧ fr 12 = int (a + 1 : Nat) ∧ fr 13 = int (e - 1 : Nat))
  case h1 => exact fun key => key _ _ ⟨rfl, rfl, rfl, rfl, rfl, rfl⟩
  rintro fr σ' ⟨rfl, f0, f1, f4, f12, f13⟩
  obtain ⟨i0, hi0⟩ : ∃ i0, i0 = a + 1 := ⟨_, rfl⟩
  obtain ⟨j0, hj0⟩ : ∃ j0, j0 = e - 1 := ⟨_, rfl⟩
  rw [← hi0] at f12
  rw [← hj0] at f13
  refine aMeet (fun fr σ' => σ' = σ.set b (.rows 1 (rw' en d0) false cap) ∧ ∃ i2 : Nat, i0 ≤ i2 ∧ (i2 ≤ i0 ∨ i2 ≤ j0 + 1) ∧ scanUp (fun x => ltc cf x d0[a]!) d0 j0 i0 = i2 ∧ fr 0 = slv b n cap ∧ fr 1 = int a ∧ fr 4 = fnv g ∧ fr 12 = int i2 ∧ fr 13 = int j0) ?_ ?_
  · simp only [go_sem, r_block]
    refine ⟨fun m fr σ' => ∃ i2 : Nat, m = j0 + 1 - i2 ∧ i0 ≤ i2 ∧ (i2 ≤ i0 ∨ i2 ≤ j0 + 1) ∧ scanUp (fun x => ltc cf x d0[a]!) d0 j0 i2 = scanUp (fun x => ltc cf x d0[a]!) d0 j0 i0 ∧ σ' = σ.set b (.rows 1 (rw' en d0) false cap) ∧ fr 0 = slv b n cap ∧ fr 1 = int a ∧ fr 4 = fnv g ∧ fr 12 = int i2 ∧ fr 13 = int j0, ⟨_, i0, rfl, by omega, by omega, rfl, rfl, f0, f1, f4, f12, f13⟩, ?_⟩
    clear f0 f1 f4 f12 f13
    rintro m fr σ' ⟨i2, rfl, h1, h2, hJ, rfl, f0, f1, f4, f12, f13⟩
    rw [sup_eq] at hJ
    simp only [go_sem]
    refine aDraw_plan [.rd 0 false, .rd 1 false, .rd 2 false, .rd 3 false, .rd 4 false, .rd 5 false, .rd 6 false, .rd 7 false, .rd 8 true, .rd 9 false, .rd 10 false, .rd 11 false, .rd 12 true, .ef 13 [], .rd 14 false, .rd 15 false] (by kernel_rfl) (by kernel_rfl) (by kernel_rfl) ?_
    by_cases g1 : (i2 : Int) ≤ (j0 : Nat)
    · have q1 := rw_get (en := en) (d := d0) (j := i2) (by omega)
      have q2 := rw_get (en := en) (d := d0) (j := a) (by omega)
      simp only [go_sem, f0, f1, f4, f12, f13, decide_eq_true g1, set_same, q1, q2, en_take hl]
      refine ⟨by omega, by omega, by omega, by omega, (hC _ (sub_set hn hs) _ _).mono ?_⟩
      rintro _ σ1 ⟨rfl, rfl⟩
      simp only [go_sem]
      refine aIf_by (fun g2 => ?_) (fun g2 => ?_)
      · rw [if_pos ⟨by omega, by unfold ltc; exact decide_eq_true g2⟩] at hJ
        simp only [go_sem, r_block, f0, f1, f4, f12, f13, next64 (show i2 < 9223372036854775807 by omega)]
        exact ⟨j0 + 1 - (i2 + 1), by omega, i2 + 1, rfl, by omega, by omega, hJ, rfl⟩
      · rw [if_neg (fun h => g2 (of_decide_eq_true h.2))] at hJ
        simp only [go_sem]
        exact ⟨i2, h1, h2, hJ.symm, f0, f1, f4, f12, f13⟩
    · rw [if_neg (fun h => g1 (by omega))] at hJ
      simp only [go_sem, f12, f13, decide_eq_false g1]
      exact ⟨i2, h1, h2, hJ.symm, f0, f1, f4, rfl⟩
  clear f0 f1 f4 f12 f13
  rintro fr σ' ⟨rfl, i2, h1, h2, hi3, f0, f1, f4, f12, f13⟩
  simp only [go_sem]
  refine aMeet (fun fr σ' => σ' = σ.set b (.rows 1 (rw' en d0) false cap) ∧ ∃ j2 : Nat, j2 ≤ j0 ∧ scanDown (fun x => !ltc cf x d0[a]!) d0 i2 j0 = j2 ∧ (i2 ≤ j0 → i2 ≤ j2 + 1) ∧ (j0 < i2 → j2 = j0) ∧ fr 0 = slv b n cap ∧ fr 1 = int a ∧ fr 4 = fnv g ∧ fr 12 = int i2 ∧ fr 13 = int j2) ?_ ?_
  · simp only [go_sem, r_block]
    refine ⟨fun m fr σ' => ∃ j2 : Nat, m = j2 ∧ j2 ≤ j0 ∧ scanDown (fun x => !ltc cf x d0[a]!) d0 i2 j2 = scanDown (fun x => !ltc cf x d0[a]!) d0 i2 j0 ∧ (i2 ≤ j0 → i2 ≤ j2 + 1) ∧ (j0 < i2 → j2 = j0) ∧ σ' = σ.set b (.rows 1 (rw' en d0) false cap) ∧ fr 0 = slv b n cap ∧ fr 1 = int a ∧ fr 4 = fnv g ∧ fr 12 = int i2 ∧ fr 13 = int j2, ⟨_, j0, rfl, by omega, rfl, by omega, by omega, rfl, f0, f1, f4, f12, f13⟩, ?_⟩
    clear f0 f1 f4 f12 f13
    rintro m fr σ' ⟨j2, hm, k1, hJ, k2, k3, rfl, f0, f1, f4, f12, f13⟩
    subst hm
    rw [sdn_eq (by omega)] at hJ
    simp only [go_sem]
    refine aDraw_plan [.rd 0 false, .rd 1 false, .rd 2 false, .rd 3 false, .rd 4 false, .rd 5 false, .rd 6 false, .rd 7 false, .rd 8 true, .rd 9 false, .rd 10 false, .rd 11 false, .rd 12 true, .ef 13 [], .rd 14 false, .rd 15 false, .rd 16 false] (by kernel_rfl) (by kernel_rfl) (by kernel_rfl) ?_
    by_cases g1 : (i2 : Int) ≤ m
    · have q1 := rw_get (en := en) (d := d0) (j := m) (by omega)
      have q2 := rw_get (en := en) (d := d0) (j := a) (by omega)
      have w2 : IntKind.i64.wrap ((m : Int) - 1) = ((m - 1 : Nat) : Int) := by rw [wrap64 (by omega)]; omega
      simp only [go_sem, f0, f1, f4, f12, f13, decide_eq_true g1, set_same, q1, q2, en_take hl]
      refine ⟨by omega, by omega, by omega, by omega, (hC _ (sub_set hn hs) _ _).mono ?_⟩
      rintro _ σ1 ⟨rfl, rfl⟩
      simp only [go_sem]
      refine aIf_by (fun g2 => ?_) (fun g2 => ?_)
      · rw [if_neg (by unfold ltc; rw [decide_eq_true g2]; simp)] at hJ
        simp only [go_sem]
        exact ⟨m, k1, hJ.symm, k2, k3, f0, f1, f4, f12, f13⟩
      · rw [if_pos ⟨by omega, by unfold ltc; rw [decide_eq_false g2]; rfl⟩] at hJ
        simp only [go_sem, r_block, f0, f1, f4, f12, f13, w2]
        exact ⟨m - 1, by omega, m - 1, rfl, by omega, hJ, by omega, by omega, rfl⟩
    · rw [if_neg (fun h => g1 (by omega))] at hJ
      simp only [go_sem, f12, f13, decide_eq_false g1]
      exact ⟨m, k1, hJ.symm, k2, k3, f0, f1, f4, rfl⟩
  clear f0 f1 f4 f12 f13
  rintro fr σ' ⟨rfl, j2, k1, hj3, k2, k3, f0, f1, f4, f12, f13⟩
  rw [hi0, hj0] at hi3
  rw [hj0] at hj3
  simp only [go_sem, f12, f13]
  have q1 := rw_get (en := en) (d := d0) (j := a) (by omega)
  refine aIf_by (fun g1 => ?_) (fun g1 => ?_)
  · rw [pt_stop hd0 hi3 hj3 (by omega)]
    have q2 := rw_get (en := en) (d := d0) (j := j2) (by omega)
    have q3 := rw_get (en := en) (d := d0.setIfInBounds j2 d0[a]!) (j := a) (by rw [Array.size_setIfInBounds]; omega)
    simp only [go_sem]
    refine aDraw_plan [.rd 0 false, .rd 1 false, .rd 2 false, .rd 3 false, .rd 4 false, .rd 5 false, .rd 6 false, .rd 7 true, .rd 8 false, .rd 9 false, .rd 10 false, .rd 11 true, .rd 12 false, .ef 13 [], .rd 14 false, .ef 15 []] (by kernel_rfl) (by kernel_rfl) (by kernel_rfl) ?_
    simp only [go_sem, f0, f1, f4, f12, f13, set_same, q1, q2, en_take hl, en_app hl, hl, ho, hce, rw_set, q3, Array.size_setIfInBounds]
    refine ⟨by omega, by omega, by omega, by omega, by omega, by omega, by omega, by omega, ?_⟩
    exact aRet_as (r := .tup [int j2, boo true]) rfl ⟨rfl, rfl⟩
  · rw [pt_go hd0 hi3 hj3 (by omega)]
    have w2 : IntKind.i64.wrap ((j2 : Int) - 1) = ((j2 - 1 : Nat) : Int) := by rw [wrap64 (by omega)]; omega
    have q1 := rw_get (en := en) (d := d0) (j := i2) (by omega)
    have q2 := rw_get (en := en) (d := d0) (j := j2) (by omega)
    have q3 := rw_get (en := en) (d := d0.setIfInBounds i2 d0[j2]!) (j := j2) (by rw [Array.size_setIfInBounds]; omega)
    simp only [go_sem]
    refine aDraw_plan [.rd 0 false, .rd 1 false, .rd 2 false, .rd 3 false, .rd 4 false, .rd 5 false, .rd 6 false, .rd 7 true, .rd 8 false, .rd 9 false, .rd 10 false, .rd 11 true, .rd 12 false, .ef 13 [], .rd 14 false, .ef 15 []] (by kernel_rfl) (by kernel_rfl) (by kernel_rfl) ?_
    simp only [go_sem, r_block, f0, f1, f4, f12, f13, set_same, q1, q2, en_take hl, en_app hl, hl, ho, hce, rw_set, q3, Array.size_setIfInBounds, w2, next64 (show i2 < 9223372036854775807 by omega)]
    refine ⟨by omega, by omega, by omega, by omega, by omega, by omega, by omega, by omega, ?_⟩
    clear q1 q2 q3
    obtain ⟨R, hR⟩ : ∃ R, R = partLoop (ltc cf) a (i2 + 1) (j2 - 1) (swp d0 i2 j2) := ⟨_, rfl⟩
    rw [← hR]
    refine ⟨fun m fr σ' => ∃ (i j : Nat) (d' : Array α), m = j + 1 - i ∧ a < i ∧ i ≤ e ∧ j < e ∧ i ≤ j + 2 ∧ d'.size = n ∧ partLoop (ltc cf) a i j d' = R ∧ σ' = σ.set b (.rows 1 (rw' en d') false cap) ∧ fr 0 = slv b n cap ∧ fr 1 = int a ∧ fr 4 = fnv g ∧ fr 12 = int i ∧ fr 13 = int j, ⟨_, i2 + 1, j2 - 1, swp d0 i2 j2, rfl, by omega, by omega, by omega, by omega, by rw [swp_size]; exact hz0, hR.symm, rfl, f0, f1, f4, rfl, rfl⟩, ?_⟩
    clear f0 f1 f4 f12 f13 hi3 hj3 k2 k3 h1 h2 k1 w2 g1 i2 j2 hR
    rintro m fr σ' ⟨i, j, dd, rfl, hi1, hi2, hj1, hij, hdd, hI, rfl, f0, f1, f4, f12, f13⟩
    simp only [go_sem]
    rw [r_block]
    simp only [go_sem]
    refine aMeet (fun fr σ' => σ' = σ.set b (.rows 1 (rw' en dd) false cap) ∧ ∃ i2 : Nat, i ≤ i2 ∧ (i2 ≤ i ∨ i2 ≤ j + 1) ∧ scanUp (fun x => ltc cf x dd[a]!) dd j i = i2 ∧ fr 0 = slv b n cap ∧ fr 1 = int a ∧ fr 4 = fnv g ∧ fr 12 = int i2 ∧ fr 13 = int j) ?_ ?_
    · simp only [go_sem, r_block]
      refine ⟨fun m fr σ' => ∃ i2 : Nat, m = j + 1 - i2 ∧ i ≤ i2 ∧ (i2 ≤ i ∨ i2 ≤ j + 1) ∧ scanUp (fun x => ltc cf x dd[a]!) dd j i2 = scanUp (fun x => ltc cf x dd[a]!) dd j i ∧ σ' = σ.set b (.rows 1 (rw' en dd) false cap) ∧ fr 0 = slv b n cap ∧ fr 1 = int a ∧ fr 4 = fnv g ∧ fr 12 = int i2 ∧ fr 13 = int j, ⟨_, i, rfl, by omega, by omega, rfl, rfl, f0, f1, f4, f12, f13⟩, ?_⟩
      clear f0 f1 f4 f12 f13
      rintro m fr σ' ⟨i2, rfl, h1, h2, hJ, rfl, f0, f1, f4, f12, f13⟩
      rw [sup_eq] at hJ
      simp only [go_sem]
      refine aDraw_plan [.rd 0 false, .rd 1 false, .rd 2 false, .rd 3 false, .rd 4 false, .rd 5 false, .rd 6 false, .rd 7 false, .rd 8 true, .rd 9 false, .rd 10 false, .rd 11 false, .rd 12 true, .ef 13 [], .rd 14 false, .rd 15 false] (by kernel_rfl) (by kernel_rfl) (by kernel_rfl) ?_
      by_cases g1 : (i2 : Int) ≤ (j : Nat)
      · have q1 := rw_get (en := en) (d := dd) (j := i2) (by omega)
        have q2 := rw_get (en := en) (d := dd) (j := a) (by omega)
        simp only [go_sem, f0, f1, f4, f12, f13, decide_eq_true g1, set_same, q1, q2, en_take hl]
        refine ⟨by omega, by omega, by omega, by omega, (hC _ (sub_set hn hs) _ _).mono ?_⟩
        rintro _ σ1 ⟨rfl, rfl⟩
        simp only [go_sem]
        refine aIf_by (fun g2 => ?_) (fun g2 => ?_)
        · rw [if_pos ⟨by omega, by unfold ltc; exact decide_eq_true g2⟩] at hJ
          simp only [go_sem, r_block, f0, f1, f4, f12, f13, next64 (show i2 < 9223372036854775807 by omega)]
          exact ⟨j + 1 - (i2 + 1), by omega, i2 + 1, rfl, by omega, by omega, hJ, rfl⟩
        · rw [if_neg (fun h => g2 (of_decide_eq_true h.2))] at hJ
          simp only [go_sem]
          exact ⟨i2, h1, h2, hJ.symm, f0, f1, f4, f12, f13⟩
      · rw [if_neg (fun h => g1 (by omega))] at hJ
        simp only [go_sem, f12, f13, decide_eq_false g1]
        exact ⟨i2, h1, h2, hJ.symm, f0, f1, f4, rfl⟩
    clear f0 f1 f4 f12 f13
    rintro fr σ' ⟨rfl, i2, h1, h2, hi3, f0, f1, f4, f12, f13⟩
    simp only [go_sem]
    refine aMeet (fun fr σ' => σ' = σ.set b (.rows 1 (rw' en dd) false cap) ∧ ∃ j2 : Nat, j2 ≤ j ∧ scanDown (fun x => !ltc cf x dd[a]!) dd i2 j = j2 ∧ (i2 ≤ j → i2 ≤ j2 + 1) ∧ (j < i2 → j2 = j) ∧ fr 0 = slv b n cap ∧ fr 1 = int a ∧ fr 4 = fnv g ∧ fr 12 = int i2 ∧ fr 13 = int j2) ?_ ?_
    · simp only [go_sem, r_block]
      refine ⟨fun m fr σ' => ∃ j2 : Nat, m = j2 ∧ j2 ≤ j ∧ scanDown (fun x => !ltc cf x dd[a]!) dd i2 j2 = scanDown (fun x => !ltc cf x dd[a]!) dd i2 j ∧ (i2 ≤ j → i2 ≤ j2 + 1) ∧ (j < i2 → j2 = j) ∧ σ' = σ.set b (.rows 1 (rw' en dd) false cap) ∧ fr 0 = slv b n cap ∧ fr 1 = int a ∧ fr 4 = fnv g ∧ fr 12 = int i2 ∧ fr 13 = int j2, ⟨_, j, rfl, by omega, rfl, by omega, by omega, rfl, f0, f1, f4, f12, f13⟩, ?_⟩
      clear f0 f1 f4 f12 f13
      rintro m fr σ' ⟨j2, hm, k1, hJ, k2, k3, rfl, f0, f1, f4, f12, f13⟩
      subst hm
      rw [sdn_eq (by omega)] at hJ
      simp only [go_sem]
      refine aDraw_plan [.rd 0 false, .rd 1 false, .rd 2 false, .rd 3 false, .rd 4 false, .rd 5 false, .rd 6 false, .rd 7 false, .rd 8 true, .rd 9 false, .rd 10 false, .rd 11 false, .rd 12 true, .ef 13 [], .rd 14 false, .rd 15 false, .rd 16 false] (by kernel_rfl) (by kernel_rfl) (by kernel_rfl) ?_
      by_cases g1 : (i2 : Int) ≤ m
      · have q1 := rw_get (en := en) (d := dd) (j := m) (by omega)
        have q2 := rw_get (en := en) (d := dd) (j := a) (by omega)
        have w2 : IntKind.i64.wrap ((m : Int) - 1) = ((m - 1 : Nat) : Int) := by rw [wrap64 (by omega)]; omega
        simp only [go_sem, f0, f1, f4, f12, f13, decide_eq_true g1, set_same, q1, q2, en_take hl]
        refine ⟨by omega, by omega, by omega, by omega, (hC _ (sub_set hn hs) _ _).mono ?_⟩
        rintro _ σ1 ⟨rfl, rfl⟩
        simp only [go_sem]
        refine aIf_by (fun g2 => ?_) (fun g2 => ?_)
        · rw [if_neg (by unfold ltc; rw [decide_eq_true g2]; simp)] at hJ
          simp only [go_sem]
          exact ⟨m, k1, hJ.symm, k2, k3, f0, f1, f4, f12, f13⟩
        · rw [if_pos ⟨by omega, by unfold ltc; rw [decide_eq_false g2]; rfl⟩] at hJ
          simp only [go_sem, r_block, f0, f1, f4, f12, f13, w2]
          exact ⟨m - 1, by omega, m - 1, rfl, by omega, hJ, by omega, by omega, rfl⟩
      · rw [if_neg (fun h => g1 (by omega))] at hJ
        simp only [go_sem, f12, f13, decide_eq_false g1]
        exact ⟨m, k1, hJ.symm, k2, k3, f0, f1, f4, rfl⟩
    clear f0 f1 f4 f12 f13
    rintro fr σ' ⟨rfl, j2, k1, hj3, k2, k3, f0, f1, f4, f12, f13⟩
    simp only [go_sem, f12, f13]
    refine aIf_by (fun g1 => ?_) (fun g1 => ?_)
    · rw [pl_stop hi3 hj3 (by omega)] at hI
      rw [← hI]
      have q1 := rw_get (en := en) (d := dd) (j := a) (by omega)
      have q2 := rw_get (en := en) (d := dd) (j := j2) (by omega)
      have q3 := rw_get (en := en) (d := dd.setIfInBounds j2 dd[a]!) (j := a) (by rw [Array.size_setIfInBounds]; omega)
      simp only [go_sem]
      refine aDraw_plan [.rd 0 false, .rd 1 false, .rd 2 false, .rd 3 false, .rd 4 false, .rd 5 false, .rd 6 false, .rd 7 true, .rd 8 false, .rd 9 false, .rd 10 false, .rd 11 true, .rd 12 false, .ef 13 [], .rd 14 false, .ef 15 []] (by kernel_rfl) (by kernel_rfl) (by kernel_rfl) ?_
      simp only [go_sem, f0, f1, f4, f12, f13, set_same, q1, q2, en_take hl, en_app hl, hl, ho, hce, rw_set, q3, Array.size_setIfInBounds]
      refine ⟨by omega, by omega, by omega, by omega, by omega, by omega, by omega, by omega, ?_⟩
      exact aRet_as (r := .tup [int j2, boo false]) rfl ⟨rfl, rfl⟩
    · rw [pl_go hi3 hj3 (by omega) h1 k1] at hI
      have w2 : IntKind.i64.wrap ((j2 : Int) - 1) = ((j2 - 1 : Nat) : Int) := by rw [wrap64 (by omega)]; omega
      have q1 := rw_get (en := en) (d := dd) (j := i2) (by omega)
      have q2 := rw_get (en := en) (d := dd) (j := j2) (by omega)
      have q3 := rw_get (en := en) (d := dd.setIfInBounds i2 dd[j2]!) (j := j2) (by rw [Array.size_setIfInBounds]; omega)
      simp only [go_sem]
      refine aDraw_plan [.rd 0 false, .rd 1 false, .rd 2 false, .rd 3 false, .rd 4 false, .rd 5 false, .rd 6 false, .rd 7 true, .rd 8 false, .rd 9 false, .rd 10 false, .rd 11 true, .rd 12 false, .ef 13 [], .rd 14 false, .ef 15 []] (by kernel_rfl) (by kernel_rfl) (by kernel_rfl) ?_
      simp only [go_sem, f0, f1, f4, f12, f13, set_same, q1, q2, en_take hl, en_app hl, hl, ho, hce, rw_set, q3, Array.size_setIfInBounds, w2, next64 (show i2 < 9223372036854775807 by omega)]
      exact ⟨by omega, by omega, by omega, by omega, by omega, by omega, by omega, by omega, j2 - 1 + 1 - (i2 + 1), by omega, i2 + 1, j2 - 1, swp dd i2 j2, rfl, by omega, by omega, by omega, by omega, by rw [swp_size]; exact hdd, hI, rfl, rfl, rfl⟩
end
end Go.Proofs.YthdfpankebjleaaGreat.L

/-
  The library's sort, of lists of facts: the whole.
  Conditions: none.
-/
namespace Go.Proofs.YthdfpankebjleaaGreat.L
open Go Go.Av Go.Sort

section
variable {α : Type} [Inhabited α] {en : α → List AV} (hl : ∀ x, (en x).length = 1) (ho : ∀ x, (en x).all AV.one = true) (hce : ∀ x, ((en x).getD 0 (.v undef)).cells = en x) {cf : α → α → Int} {g : Nat} {β : St} (hC : ∀ σ', (∀ x o, β x = some o → σ' x = some o) → ∀ x y, AT Tryz.prog g [(en x).getD 0 (.v undef), (en y).getD 0 (.v undef)] σ' fun r σ'' => r = int (cf x y) ∧ σ'' = σ')
variable {b cap : Nat} (hn : β b = none) {n : Nat} (hsz : n ≤ 1000000000) (hS : SWO (ltc cf))
include hl ho hce hC hn hsz hS
theorem pdq_at : ∀ (w : Nat) {σ : St} {d : Array α} {a e limit : Nat}, e - a ≤ w → σ b = some (.rows 1 (rw' en d) false cap) → (∀ x o, β x = some o → σ x = some o) → d.size = n → a ≤ e → e ≤ n → limit ≤ 1000 → Below (ltc cf) a e d →
    AT Tryz.prog 127 [slv b n cap, int a, int e, int limit, fnv g] σ fun _ σ' => ∃ d', σ' = σ.set b (.rows 1 (rw' en d') false cap) ∧ PermIn a e d d' ∧ SortedIn (ltc cf) a e d' := by
  intro w
  induction w using Nat.strongRecOn with
  | ind w ih =>
  intro σ d a e limit hw hb hs hd hae he hlim hB
  refine AT.of_body Tryz.func127 rfl (by decide) (by kernel_rfl) (by kernel_rfl) (Nat.le_of_ble_eq_true rfl) ?_
  simp only [go_sem, r_block]
  refine ⟨fun m fr σ' => ∃ (p q lim : Nat) (wb wp : Bool) (d' : Array α), m = q - p ∧ p ≤ q ∧ q ≤ n ∧ q - p ≤ w ∧ lim ≤ 1000 ∧ d'.size = n ∧ Below (ltc cf) p q d' ∧ (∀ R, PermIn p q d' R → SortedIn (ltc cf) p q R → PermIn a e d R ∧ SortedIn (ltc cf) a e R) ∧ σ' = σ.set b (.rows 1 (rw' en d') false cap) ∧ fr 0 = slv b n cap ∧ fr 1 = int p ∧ fr 2 = int q ∧ fr 3 = int lim ∧ fr 4 = fnv g ∧ fr 10 = boo wb ∧ fr 11 = boo wp, ⟨_, a, e, limit, true, true, d, rfl, hae, he, hw, hlim, hd, hB, fun R h1 h2 => ⟨h1, h2⟩, (set_id hb).symm, rfl, rfl, rfl, rfl, rfl, rfl, rfl⟩, ?_⟩
  rintro m fr σ' ⟨p, q, lim, wb, wp, dd, rfl, hpq, hq, hw2, hlim2, hdd, hB2, hF, rfl, f0, f1, f2, f3, f4, f10, f11⟩
  have w1 : IntKind.i64.wrap ((q : Int) - p) = ((q - p : Nat) : Int) := by rw [wrap64 (by omega)]; omega
  simp only [go_sem]
  rw [r_block]
  simp only [go_sem, f1, f2, w1]
  refine aIf_by (fun g1 => ?_) (fun g1 => ?_)
  · simp only [go_sem, f0, f1, f2, f4]
    refine (ins_at hl ho hce hC (σ := σ.set b (.rows 1 (rw' en dd) false cap)) (d := dd) set_same hn (sub_set hn hs) hdd hsz (a := p) (e := q) hq (by omega)).mono ?_
    rintro _ σ1 rfl
    simp only [go_sem]
    have h := insertionSort_holds (lt := ltc cf) hS dd p q hpq (by omega)
    exact aRet_as (r := .tup []) rfl ⟨_, rfl, hF _ h.1 h.2⟩
  simp only [go_sem, f3]
  refine aIf_by (fun g2 => ?_) (fun g2 => ?_)
  · simp only [go_sem, f0, f1, f2, f4]
    refine (heap_at hl ho hce hC (σ := σ.set b (.rows 1 (rw' en dd) false cap)) (d := dd) set_same hn (sub_set hn hs) hdd hsz (a := p) (e := q) hq (by omega)).mono ?_
    rintro _ σ1 rfl
    simp only [go_sem]
    have h := heapSort_holds (lt := ltc cf) hS dd p q hpq (by omega)
    exact aRet_as (r := .tup []) rfl ⟨_, rfl, hF _ h.1 h.2⟩
  simp only [go_sem, f10]
  refine aIf_meetb (fun fr σ' => ∃ (lim' : Nat) (d1 : Array α), lim' ≤ 1000 ∧ PermIn p q dd d1 ∧ σ' = σ.set b (.rows 1 (rw' en d1) false cap) ∧ fr 0 = slv b n cap ∧ fr 1 = int p ∧ fr 2 = int q ∧ fr 3 = int lim' ∧ fr 4 = fnv g ∧ fr 10 = boo wb ∧ fr 11 = boo wp ∧ fr 12 = int (q - p : Nat)) (fun g3 => ?_) (fun g3 => ?_) ?_
  · simp only [go_sem]
    exact ⟨lim, dd, hlim2, permIn_refl dd p q, rfl, f0, f1, f2, f3, f4, f10, f11⟩
  · have w2 : IntKind.i64.wrap ((lim : Int) - 1) = ((lim - 1 : Nat) : Int) := by rw [wrap64 (by omega)]; omega
    simp only [go_sem, f0, f1, f2, f4]
    refine (break_at hl ho hce (σ := σ.set b (.rows 1 (rw' en dd) false cap)) (d := dd) set_same hdd hsz (a := p) (e := q) hq (by omega)).mono ?_
    rintro _ σ1 rfl
    simp only [go_sem, f0, f1, f2, f3, f4, f10, f11, w2]
    refine ⟨lim - 1, breakPatterns dd p q, by omega, breakPatterns_holds dd p q hpq (by omega), rfl, rfl⟩
  clear f0 f1 f2 f3 f4 f10 f11 fr hlim2
  rintro fr σ' ⟨lim, d1, hlim2, hP1, rfl, f0, f1, f2, f3, f4, f10, f11, f12⟩
  have hz1 : d1.size = n := by rw [hP1.1]; exact hdd
  have hB1 : Below (ltc cf) p q d1 := hB2.perm (by omega) hP1
  have hc0 := choosePivot_holds (ltc cf) d1 p q (by omega)
  simp only [go_sem, f0, f1, f2, f4]
  refine (pivot_at hl ho hce hC (σ := σ.set b (.rows 1 (rw' en d1) false cap)) (d := d1) set_same hn (sub_set hn hs) hz1 hsz (a := p) (e := q) hq (by omega)).mono ?_
  rintro _ _ ⟨rfl, rfl⟩
  generalize choosePivot (ltc cf) d1 p q = c at hc0 ⊢
  obtain ⟨c1, c2⟩ := c
  simp only [go_sem, f0, f1, f2, f4]
  refine aIf_meet (fun fr σ' => ∃ (pv : Nat) (h : Int) (d2 : Array α), p ≤ pv ∧ pv < q ∧ PermIn p q d1 d2 ∧ σ' = σ.set b (.rows 1 (rw' en d2) false cap) ∧ fr 0 = slv b n cap ∧ fr 1 = int p ∧ fr 2 = int q ∧ fr 3 = int lim ∧ fr 4 = fnv g ∧ fr 10 = boo wb ∧ fr 11 = boo wp ∧ fr 12 = int (q - p : Nat) ∧ fr 13 = int pv ∧ fr 14 = int h) (fun g3 => ?_) (fun g3 => ?_) ?_
  · simp only [go_sem, f0, f1, f2, f4]
    refine (rev_at hl ho hce (σ := σ.set b (.rows 1 (rw' en d1) false cap)) (d := d1) set_same hz1 hsz (a := p) (e := q) hq (by omega)).mono ?_
    rintro _ σ1 rfl
    have hc1 : p ≤ c1 := hc0.1
    have hc2 : c1 < q := hc0.2
    have w3 : IntKind.i64.wrap (IntKind.i64.wrap ((q : Int) - 1) - IntKind.i64.wrap ((c1 : Int) - p)) = ((q - 1 - (c1 - p) : Nat) : Int) := by
      rw [wrap64 (x := (q : Int) - 1) (by omega), wrap64 (x := (c1 : Int) - p) (by omega), wrap64 (by omega)]; omega
    simp only [go_sem, f0, f1, f2, f3, f4, f10, f11, f12, w3]
    exact ⟨q - 1 - (c1 - p), 1, reverseRange d1 p q, by omega, by omega, reverseRange_holds d1 p q hpq (by omega), rfl, rfl, rfl⟩
  · simp only [go_sem]
    exact ⟨c1, hintN c2, d1, hc0.1, hc0.2, permIn_refl d1 p q, rfl, f0, f1, f2, f3, f4, f10, f11, f12, rfl, rfl⟩
  clear f0 f1 f2 f3 f4 f10 f11 f12 fr hc0
  rintro fr σ' ⟨pv, h, d2, hp1, hp2, hP2, rfl, f0, f1, f2, f3, f4, f10, f11, f12, f13, f14⟩
  have hz2 : d2.size = n := by rw [hP2.1]; exact hz1
  have hB3 : Below (ltc cf) p q d2 := hB1.perm (by omega) hP2
  apply meet_by (fun fr σ' => ∃ (d3 : Array α), PermIn p q d2 d3 ∧ σ' = σ.set b (.rows 1 (rw' en d3) false cap) ∧ fr 0 = slv b n cap ∧ fr 1 = int p ∧ fr 2 = int q ∧ fr 3 = int lim ∧ fr 4 = fnv g ∧ fr 10 = boo wb ∧ fr 11 = boo wp ∧ fr 12 = int (q - p : Nat) ∧ fr 13 = int pv)
  case h1 =>
    intro key
    cases wb
    · simp only [go_sem, f10]
      refine key _ _ ?_
      exact ⟨d2, permIn_refl d2 p q, rfl, f0, f1, f2, f3, f4, f10, f11, f12, f13⟩
    · cases wp
      · simp only [go_sem, f10, f11]
        refine key _ _ ?_
        exact ⟨d2, permIn_refl d2 p q, rfl, f0, f1, f2, f3, f4, f10, f11, f12, f13⟩
      · simp only [go_sem, f10, f11, f14]
        refine aIf_by (fun g4 => ?_) (fun g4 => ?_)
        · simp only [go_sem, f0, f1, f2, f4]
          refine (partial_at hl ho hce hC (σ := σ.set b (.rows 1 (rw' en d2) false cap)) (d := d2) set_same hn (sub_set hn hs) hz2 hsz (a := p) (e := q) hq (by omega)).mono ?_
          rintro _ _ ⟨rfl, rfl⟩
          have hpi := partialInsertionSort_holds (lt := ltc cf) hS d2 p q (by omega) (by omega) hB3
          simp only [go_sem]
          refine aIf_bool (fun g5 => ?_) (fun g5 => ?_)
          · simp only [go_sem]
            exact aRet_as (r := .tup []) rfl ⟨_, rfl, hF _ (permIn_trans _ _ _ p q (permIn_trans _ _ _ p q hP1 hP2) hpi.1) (hpi.2 g5)⟩
          · simp only [go_sem]
            refine key _ _ ?_
            exact ⟨_, hpi.1, rfl, f0, f1, f2, f3, f4, f10, f11, f12, f13⟩
        · simp only [go_sem]
          refine key _ _ ?_
          exact ⟨d2, permIn_refl d2 p q, rfl, f0, f1, f2, f3, f4, f10, f11, f12, f13⟩
  case h2 =>
    clear f0 f1 f2 f3 f4 f10 f11 f12 f13 f14 fr
    rintro fr σ' ⟨d3, hP3, rfl, f0, f1, f2, f3, f4, f10, f11, f12, f13⟩
    have hz3 : d3.size = n := by rw [hP3.1]; exact hz2
    have hB4 : Below (ltc cf) p q d3 := hB3.perm (by omega) hP3
    have hF3 : ∀ R, PermIn p q d3 R → SortedIn (ltc cf) p q R → PermIn a e d R ∧ SortedIn (ltc cf) a e R := fun R h1 h2 => hF R (permIn_trans _ _ _ p q (permIn_trans _ _ _ p q (permIn_trans _ _ _ p q hP1 hP2) hP3) h1) h2
    clear hF hP1 hP2 hP3 hB1 hB2 hB3 hz1 hz2 hdd d1 d2
    refine aDraw_plan [.rd 0 false, .rd 1 false, .rd 2 false, .rd 3 false, .rd 4 false, .rd 5 false, .rd 6 false, .rd 7 false, .rd 8 true, .rd 9 false, .rd 10 false, .rd 11 false, .rd 12 true, .ef 13 [], .rd 14 false, .rd 15 false, .rd 16 false] (by kernel_rfl) (by kernel_rfl) (by kernel_rfl) ?_
    by_cases g6 : (0 : Int) < p
    · have w5 : IntKind.i64.wrap ((p : Int) - 1) = ((p - 1 : Nat) : Int) := by rw [wrap64 (by omega)]; omega
      have q1 := rw_get (en := en) (d := d3) (j := p - 1) (by omega)
      have q2 := rw_get (en := en) (d := d3) (j := pv) (by omega)
      simp only [go_sem, f0, f1, f4, f13, decide_eq_true g6, w5, set_same, q1, q2, en_take hl]
      refine ⟨by omega, by omega, by omega, by omega, (hC _ (sub_set hn hs) _ _).mono ?_⟩
      rintro _ σ1 ⟨rfl, rfl⟩
      simp only [go_sem]
      refine aIf_by (fun g7 => ?_) (fun g7 => ?_)
      · simp only [go_sem, f0, f1, f2, f4, f13]
        refine (part_at hl ho hce hC (σ := σ.set b (.rows 1 (rw' en d3) false cap)) (d := d3) set_same hn (sub_set hn hs) hz3 hsz (a := p) (e := q) (pv := pv) hq (by omega) (by omega)).mono ?_
        rintro _ _ ⟨rfl, rfl⟩
        generalize hx : partition (ltc cf) d3 p q pv = x
        obtain ⟨mid, ap, d4⟩ := x
        obtain ⟨g7, g8, hs4, hBa, hBr, hleft, hright⟩ := round_part hS (partition_holds (ltc cf)) hp1 hp2 (by omega) hB4 hx
        have v1 : IntKind.i64.wrap ((mid : Int) - p) = ((mid - p : Nat) : Int) := by rw [wrap64 (by omega)]; omega
        have v2 : IntKind.i64.wrap ((q : Int) - mid) = ((q - mid : Nat) : Int) := by rw [wrap64 (by omega)]; omega
        have v3 : IntKind.i64.wrap (((q - p : Nat) : Int).tdiv 8) = (((q - p) / 8 : Nat) : Int) := by rw [Int.tdiv_eq_ediv_of_nonneg (by omega), wrap64 (by omega)]; omega
        simp only [go_sem, f1, f2, f12, v1, v2, v3]
        refine aIf_by (fun g9 => ?_) (fun g9 => ?_)
        · simp only [go_sem, f0, f1, f2, f3, f4]
          refine (ih (mid - p) (by omega) (σ := σ.set b (.rows 1 (rw' en d4) false cap)) (d := d4) (a := p) (e := mid) (limit := lim) (Nat.le_refl _) set_same (sub_set hn hs) (by omega) g7 (by omega) hlim2 hBa).mono ?_
          rintro _ _ ⟨d5, rfl, l1, l2⟩
          obtain ⟨hBL, hfin⟩ := hleft _ l1 l2
          simp only [go_sem, f0, f2, f3, f4, next64 (show mid < 9223372036854775807 by omega)]
          exact ⟨q - (mid + 1), by omega, mid + 1, q, lim, decide ((((q - p) / 8 : Nat) : Int) ≤ ((mid - p : Nat) : Int)), ap, d5, rfl, by omega, by omega, by omega, hlim2, by rw [l1.1]; omega, hBL, fun R h1 h2 => (fun hh => hF3 R hh.1 hh.2) (hfin R h1 h2), rfl, rfl, rfl, rfl, rfl, rfl⟩
        · simp only [go_sem, f0, f1, f2, f3, f4, next64 (show mid < 9223372036854775807 by omega)]
          refine (ih (q - (mid + 1)) (by omega) (σ := σ.set b (.rows 1 (rw' en d4) false cap)) (d := d4) (a := mid + 1) (e := q) (limit := lim) (Nat.le_refl _) set_same (sub_set hn hs) (by omega) (by omega) (by omega) hlim2 hBr).mono ?_
          rintro _ _ ⟨d5, rfl, l1, l2⟩
          obtain ⟨hBL, hfin⟩ := hright _ l1 l2
          simp only [go_sem, f0, f1, f3, f4]
          exact ⟨mid - p, by omega, p, mid, lim, decide ((((q - p) / 8 : Nat) : Int) ≤ ((q - mid : Nat) : Int)), ap, d5, rfl, by omega, by omega, by omega, hlim2, by rw [l1.1]; omega, hBL, fun R h1 h2 => (fun hh => hF3 R hh.1 hh.2) (hfin R h1 h2), rfl, rfl, rfl, rfl, rfl, rfl⟩
      · simp only [go_sem, f0, f1, f2, f4, f13]
        refine (parteq_at hl ho hce hC (σ := σ.set b (.rows 1 (rw' en d3) false cap)) (d := d3) set_same hn (sub_set hn hs) hz3 hsz (a := p) (e := q) (pv := pv) hq (by omega) (by omega)).mono ?_
        rintro _ _ ⟨rfl, rfl⟩
        generalize hx : partitionEqual (ltc cf) d3 p q pv = x
        obtain ⟨mid, d4⟩ := x
        obtain ⟨g8, g9, hs4, hBr, hfin⟩ := round_eq hS (partitionEqual_holds (ltc cf)) (by omega) hp1 hp2 (by omega) hB4 (by unfold ltc; exact decide_eq_false g7) hx
        simp only [go_sem, f0, f2, f3, f4, f10, f11]
        exact ⟨q - mid, by omega, mid, q, lim, wb, wp, d4, rfl, by omega, by omega, by omega, hlim2, by omega, hBr, fun R h1 h2 => (fun hh => hF3 R hh.1 hh.2) (hfin R h1 h2), rfl, rfl, rfl, rfl, rfl, rfl⟩
    · simp only [go_sem, f1, decide_eq_false g6]
      simp only [go_sem, f0, f1, f2, f4, f13]
      refine (part_at hl ho hce hC (σ := σ.set b (.rows 1 (rw' en d3) false cap)) (d := d3) set_same hn (sub_set hn hs) hz3 hsz (a := p) (e := q) (pv := pv) hq (by omega) (by omega)).mono ?_
      rintro _ _ ⟨rfl, rfl⟩
      generalize hx : partition (ltc cf) d3 p q pv = x
      obtain ⟨mid, ap, d4⟩ := x
      obtain ⟨g7, g8, hs4, hBa, hBr, hleft, hright⟩ := round_part hS (partition_holds (ltc cf)) hp1 hp2 (by omega) hB4 hx
      have v1 : IntKind.i64.wrap ((mid : Int) - p) = ((mid - p : Nat) : Int) := by rw [wrap64 (by omega)]; omega
      have v2 : IntKind.i64.wrap ((q : Int) - mid) = ((q - mid : Nat) : Int) := by rw [wrap64 (by omega)]; omega
      have v3 : IntKind.i64.wrap (((q - p : Nat) : Int).tdiv 8) = (((q - p) / 8 : Nat) : Int) := by rw [Int.tdiv_eq_ediv_of_nonneg (by omega), wrap64 (by omega)]; omega
      simp only [go_sem, f1, f2, f12, v1, v2, v3]
      refine aIf_by (fun g9 => ?_) (fun g9 => ?_)
      · simp only [go_sem, f0, f1, f2, f3, f4]
        refine (ih (mid - p) (by omega) (σ := σ.set b (.rows 1 (rw' en d4) false cap)) (d := d4) (a := p) (e := mid) (limit := lim) (Nat.le_refl _) set_same (sub_set hn hs) (by omega) g7 (by omega) hlim2 hBa).mono ?_
        rintro _ _ ⟨d5, rfl, l1, l2⟩
        obtain ⟨hBL, hfin⟩ := hleft _ l1 l2
        simp only [go_sem, f0, f2, f3, f4, next64 (show mid < 9223372036854775807 by omega)]
        exact ⟨q - (mid + 1), by omega, mid + 1, q, lim, decide ((((q - p) / 8 : Nat) : Int) ≤ ((mid - p : Nat) : Int)), ap, d5, rfl, by omega, by omega, by omega, hlim2, by rw [l1.1]; omega, hBL, fun R h1 h2 => (fun hh => hF3 R hh.1 hh.2) (hfin R h1 h2), rfl, rfl, rfl, rfl, rfl, rfl⟩
      · simp only [go_sem, f0, f1, f2, f3, f4, next64 (show mid < 9223372036854775807 by omega)]
        refine (ih (q - (mid + 1)) (by omega) (σ := σ.set b (.rows 1 (rw' en d4) false cap)) (d := d4) (a := mid + 1) (e := q) (limit := lim) (Nat.le_refl _) set_same (sub_set hn hs) (by omega) (by omega) (by omega) hlim2 hBr).mono ?_
        rintro _ _ ⟨d5, rfl, l1, l2⟩
        obtain ⟨hBL, hfin⟩ := hright _ l1 l2
        simp only [go_sem, f0, f1, f3, f4]
        exact ⟨mid - p, by omega, p, mid, lim, decide ((((q - p) / 8 : Nat) : Int) ≤ ((q - mid : Nat) : Int)), ap, d5, rfl, by omega, by omega, by omega, hlim2, by rw [l1.1]; omega, hBL, fun R h1 h2 => (fun hh => hF3 R hh.1 hh.2) (hfin R h1 h2), rfl, rfl, rfl, rfl, rfl, rfl⟩
/-- SortFunc: a permutation that rises. -/
theorem sort_at {σ : St} {d : Array α} (hb : σ b = some (.rows 1 (rw' en d) false cap)) (hs : ∀ x o, β x = some o → σ x = some o) (hd : d.size = n) : AT Tryz.prog 96 [slv b n cap, fnv g] σ fun _ σ' => ∃ d', σ' = σ.set b (.rows 1 (rw' en d') false cap) ∧ d'.toList.Perm d.toList ∧ SortedIn (ltc cf) 0 n d' := by
  refine AT.of_body Tryz.func96 rfl (by decide) (by kernel_rfl) (by kernel_rfl) (Nat.le_of_ble_eq_true rfl) ?_
  have w1 : IntKind.u64.wrap (n : Int) = (n : Int) := by rw [wrapu]; omega
  simp only [go_sem, w1]
  refine (len_at (x := n) (by omega)).mono ?_
  rintro _ σ1 ⟨rfl, rfl⟩
  have hbl := bl_le32 (z := n) (by omega)
  simp only [go_sem]
  refine (pdq_at hl ho hce hC hn hsz hS n (a := 0) (e := n) (limit := bitsLen n) (by omega) hb hs hd (by omega) (by omega) (by omega) (.inl rfl)).mono ?_
  rintro _ _ ⟨d', rfl, h1, h2⟩
  simp only [go_sem]
  refine aRet_as (r := .tup []) rfl ⟨d', rfl, ?_, h2⟩
  have h3 := h1.2.2
  rw [Array.extract_eq_self_of_le (by rw [h1.1]; omega), Array.extract_eq_self_of_le (by omega)] at h3
  exact h3
end
end Go.Proofs.YthdfpankebjleaaGreat.L

/-
  What a rule's bodies are, found, sorted, each once; lists of lists that a walk owns.
  Conditions: none.
-/
namespace Go.Proofs.YthdfpankebjleaaGreat
open Go Go.Av

theorem pick_list {α γ : Type} {en : α → List AV} {f : α → γ} : ∀ (es : List (List AV)) (out : List γ), es.length = out.length → (∀ i (h : i < out.length), ∃ x, es.getD i [] = en x ∧ f x = out[i]) → ∃ L : List α, L.map en = es ∧ L.map f = out
  | [], [], _, _ => ⟨[], rfl, rfl⟩
  | e :: es, o :: out, hl, h => by
    obtain ⟨L, h1, h2⟩ := pick_list (en := en) (f := f) es out (by simpa using hl) fun i hi => by
      have := h (i + 1) (by simpa using hi)
      simpa using this
    obtain ⟨x, x1, x2⟩ := h 0 (by simp)
    simp only [List.getD_cons_zero, List.getElem_cons_zero] at x1 x2
    exact ⟨x :: L, by rw [List.map_cons, h1, x1], by rw [List.map_cons, h2, x2]⟩
  | [], _ :: _, hl, _ => by simp at hl
  | _ :: _, [], hl, _ => by simp at hl
theorem cnC_inj {l k : List Cn} (h : cnC l = cnC k) : l = k := by
  have := congrArg (List.map fun (e : List AV) => match e with
    | [.v (.bool b), .v (.int _ n), .v (.string s)] => (⟨b, n, s⟩ : Cn)
    | _ => ⟨false, 0, emp⟩) h
  have e : ∀ l : List Cn, (cnC l).map (fun (e : List AV) => match e with
    | [.v (.bool b), .v (.int _ n), .v (.string s)] => (⟨b, n, s⟩ : Cn)
    | _ => ⟨false, 0, emp⟩) = l := fun l => by
    unfold cnC
    rw [List.map_map]
    conv => rhs; rw [← List.map_id l]
    rfl
  rwa [e, e] at this
theorem fa_inj {f g : Fa} (h : f.cs = g.cs) : f = g := by
  unfold Fa.cs at h
  simp only [List.cons.injEq, AV.v.injEq, Value.string.injEq, AV.sl.injEq, true_and, and_true] at h
  obtain ⟨h1, h2, h3, h4⟩ := h
  cases f; cases g
  simp only at h1 h2 h3 h4
  rw [h1, h2, h3, cnC_inj h4]
theorem faC_inj {l k : List Fa} (h : faC l = faC k) : l = k := by
  unfold faC at h
  induction l generalizing k with
  | nil => cases k <;> simp at h ⊢
  | cons x l ih =>
    cases k with
    | nil => simp at h
    | cons y k =>
      rw [List.map_cons, List.map_cons] at h
      injection h with h1 h2
      rw [fa_inj h1, ih h2]
@[go_sem] theorem faX_s3 (f : Fa) (v w : AV) : splice (faX f v) 3 [w] = faX f w := rfl
/-- A row of facts, whose arguments are those or, as far as D, slices of the row's own. -/
def GR (σ0 σ : St) (c : Nat) (b : List Fa) (cap : Nat) (D : Nat → Prop) : Prop :=
  ∃ es, σ c = some (.rows 4 es false cap) ∧ es.length = b.length ∧ ∀ j (h : j < b.length), ∃ a, es.getD j [] = faX b[j] a ∧ ((a = .sl 3 (cnC b[j].ar) ∧ ¬ D j) ∨ (Ow 3 σ a (cnC b[j].ar) ∧ ∀ x, Own a x → σ0 x = none))
/-- A body that nobody else has. -/
def BR (σ0 σ : St) (v : AV) (b : List Fa) : Prop := (b = [] ∧ (v = nilS ∨ v = .fsl 4 [])) ∨ ∃ c cap, v = slv c b.length cap ∧ b.length ≤ cap ∧ σ0 c = none ∧ GR σ0 σ c b cap fun _ => True
/-- Bodies that nobody else has. -/
def PB (σ0 σ : St) (v : AV) (bods : List (List Fa)) : Prop :=
  (∀ x o, σ0 x = some o → σ x = some o) ∧ (∀ x, Own v x → σ0 x = none) ∧ ∃ es, Ow 1 σ v es ∧ es.length = bods.length ∧ ∀ i (h : i < bods.length), ∃ w, es.getD i [] = [w] ∧ BR σ0 σ w bods[i]
/-- While the bodies' arguments are copied: v's row is as it was; each new row of facts of σ7 is copied as far as D. -/
def JB (σ0 σ7 σ : St) (v : AV) (es : List (List AV)) (D : Nat → Nat → Prop) : Prop :=
  (∀ x o, σ0 x = some o → σ x = some o) ∧ Ow 1 σ v es ∧ ∀ c b cap, σ7 c = some (.rows 4 (faC b) false cap) → σ0 c = none → GR σ0 σ c b cap (D c)
section
variable {σ0 σ7 σ1 σ2 : St} {v : AV} {es7 : List (List AV)} {D D' : Nat → Nat → Prop}
theorem JB.weak (h : JB σ0 σ7 σ1 v es7 D) (hD : ∀ c (b : List Fa) cap j, σ7 c = some (.rows 4 (faC b) false cap) → j < b.length → D' c j → D c j) : JB σ0 σ7 σ1 v es7 D' := by
  refine ⟨h.1, h.2.1, fun c b cap h7 h0 => ?_⟩
  obtain ⟨es, g1, g2, g3⟩ := h.2.2 c b cap h7 h0
  refine ⟨es, g1, g2, fun j hj => ?_⟩
  obtain ⟨a, k1, k2 | k2⟩ := g3 j hj
  · exact ⟨a, k1, .inl ⟨k2.1, fun hd => k2.2 (hD c b cap j h7 hj hd)⟩⟩
  · exact ⟨a, k1, .inr k2⟩
theorem ow3_set {σ : St} {c0 : Nat} {es es' : List (List AV)} {cap cap' : Nat} {a : AV} {l : List (List AV)} (hc : σ c0 = some (.rows 4 es false cap)) (h : Ow 3 σ a l) : Ow 3 (σ.set c0 (.rows 4 es' false cap')) a l := h.keep fun x o hx ho => by
  have : x ≠ c0 := fun e => by
    subst e
    obtain ⟨k, hk⟩ := h.lat.own_rows ho
    rw [hc] at hk; cases hk
  rw [set_ne this]; exact hx
theorem JB.put (h : JB σ0 σ7 σ1 v es7 D) (hs : ∀ x o, σ1 x = some o → σ2 x = some o) {c0 cap0 j0 : Nat} {b0 : List Fa} {es : List (List AV)} {a : AV} (h7 : σ7 c0 = some (.rows 4 (faC b0) false cap0)) (h0 : σ0 c0 = none) (h1 : σ1 c0 = some (.rows 4 es false cap0)) (hj : j0 < b0.length)
    (ha : Ow 3 σ2 a (cnC b0[j0].ar)) (hf : ∀ x, Own a x → σ0 x = none) (hD : ∀ c j, D' c j → D c j ∨ (c = c0 ∧ j = j0)) : JB σ0 σ7 (σ2.set c0 (.rows 4 (es.set j0 (faX b0[j0] a)) false cap0)) v es7 D' := by
  have h2 := hs _ _ h1
  refine ⟨fun x o hx => ?_, (h.2.1.sub hs).keep fun x o hx ho => ?_, fun c b cap hc7 hc0 => ?_⟩
  · rw [set_ne (fun e => by rw [e, h0] at hx; cases hx)]
    exact hs _ _ (h.1 x o hx)
  · rw [set_ne (fun e => ?_)]
    · exact hx
    · subst e
      obtain ⟨k, hk⟩ := h.2.1.lat.own_rows ho
      rw [h1] at hk; cases hk
  · obtain ⟨es', g1, g2, g3⟩ := h.2.2 c b cap hc7 hc0
    by_cases e : c = c0
    · subst e
      rw [h7] at hc7
      injection hc7 with hc7
      injection hc7 with e1 e2 e3 e4
      have := faC_inj e2
      subst this
      subst e4
      rw [h1] at g1
      injection g1 with g1
      injection g1 with _ g1 _ _
      subst g1
      refine ⟨_, set_same, by simp [g2], fun j hj' => ?_⟩
      by_cases ej : j = j0
      · subst ej
        refine ⟨a, ?_, .inr ⟨ow3_set h2 ha, hf⟩⟩
        simp [List.getD_eq_getElem?_getD, List.getElem?_set, g2, hj]
      · obtain ⟨a', k1, k2⟩ := g3 j hj'
        refine ⟨a', ?_, ?_⟩
        · rw [List.getD_eq_getElem?_getD, List.getElem?_set_ne (Ne.symm ej), ← List.getD_eq_getElem?_getD]; exact k1
        · rcases k2 with k2 | k2
          · exact .inl ⟨k2.1, fun hd => (hD _ _ hd).elim k2.2 fun h => ej h.2⟩
          · exact .inr ⟨ow3_set h2 (k2.1.sub hs), k2.2⟩
    · refine ⟨es', by rw [set_ne e]; exact hs _ _ g1, g2, fun j hj' => ?_⟩
      obtain ⟨a', k1, k2 | k2⟩ := g3 j hj'
      · exact ⟨a', k1, .inl ⟨k2.1, fun hd => (hD _ _ hd).elim k2.2 fun h => e h.1⟩⟩
      · exact ⟨a', k1, .inr ⟨ow3_set h2 (k2.1.sub hs), k2.2⟩⟩
end
/-- A body's row, seen at a time, and what is in it. -/
structure BV (β σ0 : St) where
  bd : List Fa
  v : AV
  ow : Ow 4 β v (faC bd)
  sm : SmB bd
  fr : ∀ x, Own v x → σ0 x = none
instance (β σ0 : St) : Inhabited (BV β σ0) := ⟨⟨[], nilS, .inl ⟨rfl, .inl rfl⟩, ⟨by simp, fun x hx => by cases hx⟩, fun x hx => absurd hx own_no_nil⟩⟩
def BV.en {β σ0 : St} (x : BV β σ0) : List AV := [x.v]
theorem BV.one {β σ0 : St} (x : BV β σ0) : x.en.all AV.one = true := by simp [BV.en, x.ow.lat.one]
theorem BV.cells {β σ0 : St} (x : BV β σ0) : (x.en.getD 0 (.v undef)).cells = x.en := by simp [BV.en, x.ow.lat.cells]
def BV.cf {β σ0 : St} (x y : BV β σ0) : Int := cmpB x.bd y.bd
def BV.eq {β σ0 : St} (x y : BV β σ0) : Bool := decide (x.bd = y.bd)
theorem BV.swo {β σ0 : St} : Go.Sort.SWO (ltc (BV.cf (β := β) (σ0 := σ0))) where
  irrefl x := cmpB_ord.swo.irrefl x.bd
  trans x y z := cmpB_ord.swo.trans x.bd y.bd z.bd
  ntrans x y z := cmpB_ord.swo.ntrans x.bd y.bd z.bd
theorem BV.ord_at {β σ0 : St} (σ' : St) (hs : ∀ x o, β x = some o → σ' x = some o) (x y : BV β σ0) : AT Tryz.prog 97 [x.en.getD 0 (.v undef), y.en.getD 0 (.v undef)] σ' fun r σ'' => r = int (BV.cf x y) ∧ σ'' = σ' :=
  orderB_at (.of (x.ow.sub hs).lat) (.of (y.ow.sub hs).lat) x.sm y.sm
theorem BV.eq_at {β σ0 : St} (σ' : St) (hs : ∀ x o, β x = some o → σ' x = some o) (x y : BV β σ0) : AT Tryz.prog 99 [x.en.getD 0 (.v undef), y.en.getD 0 (.v undef)] σ' fun r σ'' => r = boo (BV.eq x y) ∧ σ'' = σ' :=
  eqB_at (.of (x.ow.sub hs).lat) (.of (y.ow.sub hs).lat) x.sm y.sm
theorem BV.done {β σ0 : St} {d : Array (BV β σ0)} {out : List (List Fa)} (hp : (d.toList.map BV.bd).Perm out) (hs : Go.Sort.SortedIn (ltc BV.cf) 0 d.size d) : (cptB BV.eq d.toList).map BV.bd = insS cmpB [] out := by
  rw [cptB_map (e := BV.eq) (f := BV.bd) (e' := fun a b => decide (a = b)) (fun x y => by unfold BV.eq; simp) (fun x y => by simp)]
  refine cpt_sorted cmpB_ord (fun x y => by simp) hp ?_ (.refl _)
  rw [List.pairwise_map]
  exact sorted_pw (c := BV.cf) (fun x y => cmpB_ord.anti x.bd y.bd) hs
section
variable {σ : St}
theorem compnilL_at (g : Nat) : AT Tryz.prog 98 [nilS, fnv g] σ fun r σ' => r = nilS ∧ σ' = σ := by
  refine AT.of_body Tryz.func98 rfl (by decide) (by kernel_rfl) (by kernel_rfl) (Nat.le_of_ble_eq_true rfl) ?_
  have d : decide ((0 : Int) < 2) = true := rfl
  simp only [go_sem, d]
  exact aRet_as (r := nilS) rfl ⟨rfl, rfl⟩
end
end Go.Proofs.YthdfpankebjleaaGreat

/-
  Facts that are spoilt; bodies, seen as less.
  Conditions: none.
-/
namespace Go.Proofs.YthdfpankebjleaaGreat
open Go Go.Av

theorem PB.view {σ0 σ : St} {v : AV} {bods : List (List Fa)} (h : PB σ0 σ v bods) : View σ v σ0 (.sl 1 (boC bods)) := by
  obtain ⟨h1, h2, es, h3, h4, h5⟩ := h
  refine view_of (sv_of fun x o hx => .inl (h1 x o hx)) (h3.lat.vw h2 (by rw [boC_len, h4]) fun i hi => ?_)
  obtain ⟨w, k1, k2⟩ := h5 i (by omega)
  rw [boC_get (by omega), k1]
  refine vws_cons ?_ vws_nil
  rcases k2 with ⟨e, rfl | rfl⟩ | ⟨c, cap, rfl, k3, k4, es', k5, k6, k7⟩
  · rw [e]; exact .nil 4
  · rw [e]; exact LAt.full.vw_same fun x hx => absurd hx own_no_fsl
  · have hL : LAt 4 σ (slv c bods[i].length cap) es' := .inr (.inr ⟨c, cap, by rw [k6], by omega, k5⟩)
    refine hL.vw (fun x hx => by rw [own_slv.1 hx]; exact k4) (by rw [faC_len, k6]) fun j hj => ?_
    rw [faC_get (by omega)]
    obtain ⟨a, g1, g2⟩ := k7 j (by omega)
    exact FrX.vws ⟨a, g1, (g2.resolve_left fun h => h.2 trivial).1.lat |> .of, (g2.resolve_left fun h => h.2 trivial).2⟩
theorem PB.read {σ0 σ : St} {v : AV} {bods : List (List Fa)} (h : PB σ0 σ v bods) : LX σ bods v := by
  obtain ⟨h1, h2, es, h3, h4, h5⟩ := h
  refine ⟨es, .of h3.lat, h4, fun i hi => ?_⟩
  obtain ⟨w, k1, k2⟩ := h5 i hi
  refine ⟨w, k1, ?_⟩
  rcases k2 with ⟨e, rfl | rfl⟩ | ⟨c, cap, rfl, k3, k4, es', k5, k6, k7⟩
  · rw [e]; exact ⟨[], .of .none, rfl, fun j hj => by simp at hj⟩
  · rw [e]; exact ⟨[], .of .full, rfl, fun j hj => by simp at hj⟩
  · refine ⟨es', .of (.inr (.inr ⟨c, cap, by rw [k6], by omega, k5⟩)), k6, fun j hj => ?_⟩
    obtain ⟨a, g1, g2⟩ := k7 j hj
    exact ⟨a, g1, .of (g2.resolve_left fun h => h.2 trivial).1.lat⟩
end Go.Proofs.YthdfpankebjleaaGreat

/-
  A region in drawn order in which, behind some reads, two effects may come in either order.
  Conditions: none.
-/
namespace Go.Proofs.YthdfpankebjleaaGreat
open Go Go.Av Go.RowKit

section
variable {P : Program} {l : List Oper} {K : Fr → St → Prop}
abbrev Noted := List (Nat × (St → Prop))
/-- Reads, and what follows. -/
def aPre (P : Program) (l : List Oper) (C : Noted → Fr → St → Prop) : List PS → Noted → Fr → St → Prop
  | [], S, fr, σ => C S fr σ
  | .rd i keep :: r, S, fr, σ => match l[i]? with
    | none => False
    | some o => o.guard = none ∧ aOp P o.op fr σ fun v σ' => aPre P l C r (if keep then (i, fun σ'' => Yl P o.op fr σ'' v) :: S else S) (fr.put o.dst v) σ'
  | .ef _ _ :: _, _, _, _ => False
def brOk (P : Program) (ops : Array Oper) (i : Nat) (c1 : List Nat) (r1 : List PS) (j : Nat) (c2 : List Nat) (r2 : List PS) : List PS → Array Bool → List Nat → Bool
  | [], L, N => (Region.ready .any ops L == [i, j]) && (clsAt P ops i == 2) && (clsAt P ops j == 2) && (N.all fun p => isBefore ops ops.size i p || c1.contains p) && (N.all fun p => isBefore ops ops.size j p || c2.contains p)
      && planOk P ops r1 (L.setIfInBounds i true) N && planOk P ops r2 (L.setIfInBounds j true) N
  | .rd k keep :: r, L, N => (Region.ready .any ops L).contains k && (clsAt P ops k == 0 || (clsAt P ops k == 1 && keep)) && Region.free .any ops L k && brOk P ops i c1 r1 j c2 r2 r (L.setIfInBounds k true) (if keep then k :: N else N)
  | .ef _ _ :: _, _, _ => false
theorem ef_all {i : Nat} {chk : List Nat} {r : List PS} {L : Array Bool} {N : List Nat} {Sl : Noted} {S : Pend} {fr : Fr} {σ : St} (hri : i ∈ Region.ready .any l.toArray L) (hc : clsAt P l.toArray i = 2) (hn : (N.all fun p => isBefore l.toArray l.toArray.size i p || chk.contains p) = true)
    (hok : planOk P l.toArray r (L.setIfInBounds i true) N = true) (hL : Closed l.toArray L) (hS : ∀ p q, S p q → (∀ σ', q σ') ∨ (p, q) ∈ Sl) (hN : ∀ x ∈ Sl, x.1 ∈ N) (h : aPlan P (dsts l.toArray) l K (.ef i chk :: r) Sl fr σ) :
    aStp P l.toArray i S (fun S' fr' σ' => aAll P l.toArray K r.length (L.setIfInBounds i true) S' fr' σ') fr σ := by
  simp only [aPlan] at h
  cases hi : l[i]? with
  | none => rw [hi] at h; exact h.elim
  | some o =>
    rw [hi] at h
    have hi' : l.toArray[i]? = some o := by simpa using hi
    have hcl : clsAt P l.toArray i = cls P o.op := by simp [clsAt, hi]
    rw [hcl] at hc
    unfold aStp
    rw [hi']
    refine aGd_mono (fun h => aOp_mon _ _ (fun v σ' hv => ?_) h) (fun h => ?_) h
    · rw [if_pos hc]
      refine ⟨fun p q hpq hb => ?_, plan_all r _ N Sl S _ _ hok (closed_set hL hri) hS hN hv.2⟩
      rcases hS p q hpq with h | h
      · exact h σ'
      · have := List.all_eq_true.1 hn p (hN _ h)
        rw [hb, Bool.false_or] at this
        exact lk_mem h (chk_mem (by simpa using this) hv.1)
    · exact plan_all r _ N Sl S _ _ hok (closed_set hL hri) hS hN h
theorem pre_all {i j : Nat} {c1 c2 : List Nat} {r1 r2 : List PS} (hlen : r1.length = r2.length) : ∀ (pre : List PS) (L : Array Bool) (N : List Nat) (Sl : Noted) (S : Pend) (fr : Fr) (σ : St), brOk P l.toArray i c1 r1 j c2 r2 pre L N = true → Closed l.toArray L →
    (∀ p q, S p q → (∀ σ', q σ') ∨ (p, q) ∈ Sl) → (∀ x ∈ Sl, x.1 ∈ N) →
    aPre P l (fun S fr σ => aPlan P (dsts l.toArray) l K (.ef i c1 :: r1) S fr σ ∧ aPlan P (dsts l.toArray) l K (.ef j c2 :: r2) S fr σ) pre Sl fr σ → aAll P l.toArray K (pre.length + (r1.length + 1)) L S fr σ
  | [], L, N, Sl, S, fr, σ, hok, hL, hS, hN, h => by
    simp only [brOk, Bool.and_eq_true, beq_iff_eq] at hok
    obtain ⟨⟨⟨⟨⟨⟨hr, h1⟩, h2⟩, h3⟩, h4⟩, h5⟩, h6⟩ := hok
    rw [List.length_nil, Nat.zero_add]
    refine ⟨fun h => (by rw [h] at hr; cases hr), fun k hk => ?_⟩
    have hk' := hk
    rw [hr] at hk'
    simp only [List.mem_cons, List.not_mem_nil, or_false] at hk'
    rcases hk' with rfl | rfl
    · exact ef_all hk h1 h3 h5 hL hS hN h.1
    · rw [hlen]; exact ef_all hk h2 h4 h6 hL hS hN h.2
  | .ef _ _ :: r, L, N, Sl, S, fr, σ, hok, hL, hS, hN, h => h.elim
  | .rd k keep :: r, L, N, Sl, S, fr, σ, hok, hL, hS, hN, h => by
    simp only [brOk, Bool.and_eq_true, Bool.or_eq_true, beq_iff_eq] at hok
    obtain ⟨⟨⟨hr, hc⟩, hf⟩, hok⟩ := hok
    have hr : k ∈ Region.ready .any l.toArray L := by simpa using hr
    simp only [aPre] at h
    cases hi : l[k]? with
    | none => rw [hi] at h; exact h.elim
    | some o =>
      rw [hi] at h
      obtain ⟨hg, h⟩ := h
      have hi' : l.toArray[k]? = some o := by simpa using hi
      have hcl : clsAt P l.toArray k = cls P o.op := by simp [clsAt, hi]
      rw [hcl] at hc
      have hne : cls P o.op ≠ 2 := by rcases hc with h | ⟨h, _⟩ <;> omega
      obtain ⟨v, hk, hy⟩ := aOp_read hne h
      rw [show (PS.rd k keep :: r).length + (r1.length + 1) = (r.length + (r1.length + 1)) + 1 by simp only [List.length_cons]; omega]
      refine first_read hi' hne _ L S fr σ hL (Region.free_spec hi' hf) hr (.inl ⟨fun A B hA => by rw [hg]; exact hA, hy, ?_⟩)
      refine pre_all hlen r _ _ _ _ _ _ hok (closed_set hL hr) ?_ ?_ hk
      · rintro p q (hp | ⟨rfl, rfl⟩)
        · rcases hS p q hp with h | h
          · exact .inl h
          · refine .inr ?_
            split
            · exact List.mem_cons_of_mem _ h
            · exact h
        · rcases hc with h0 | ⟨_, h0⟩
          · exact .inl fun σ' => hy.any h0 σ'
          · rw [if_pos h0]
            exact .inr (List.mem_cons_self ..)
      · intro x hx
        cases keep with
        | true =>
          rcases List.mem_cons.1 hx with rfl | hx
          · exact List.mem_cons_self ..
          · exact List.mem_cons_of_mem _ (hN x hx)
        | false => exact hN x hx
/-- **Reads first, then two effects in either order.** -/
theorem aDraw_two {fr : Fr} {σ : St} (pre : List PS) (i : Nat) (c1 : List Nat) (r1 : List PS) (j : Nat) (c2 : List Nat) (r2 : List PS) (hm : P.follows .mixedOrders = true) (hlen : (pre.length + (r1.length + 1) == l.length) = true) (hl : (r1.length == r2.length) = true) (hok : brOk P l.toArray i c1 r1 j c2 r2 pre (Array.replicate l.length false) [] = true)
    (h : aPre P l (fun S fr σ => aPlan P (l.map (·.dst)) l K (.ef i c1 :: r1) S fr σ ∧ aPlan P (l.map (·.dst)) l K (.ef j c2 :: r2) S fr σ) pre (@hid _ ⟨[]⟩) fr σ) : aDraw P l.toArray K fr σ := by
  refine aDraw_of_all hm ?_
  have e : pre.length + (r1.length + 1) = l.toArray.size := by simpa using hlen
  rw [← e]
  refine pre_all (by simpa using hl) pre _ [] [] _ fr σ ?_ ?_ (fun _ _ h => h.elim) (fun x hx => by cases hx) h
  · rw [e]; simpa using hok
  · intro i o hi
    rw [e] at hi
    rcases Nat.lt_or_ge i l.length with h' | h'
    · simp [Array.getElem?_replicate, h'] at hi
    · simp [Array.getElem?_replicate, Nat.not_lt.2 h'] at hi
def aRdP (P : Program) (l : List Oper) (C : Noted → Fr → St → Prop) (keep : Bool) (i : Nat) (r : List PS) (S : Noted) (fr : Fr) (σ : St) : Option Oper → Prop
  | none => False
  | some o => o.guard = none ∧ aOp P o.op fr σ fun v σ' => aPre P l C r (if keep then (i, fun σ'' => Yl P o.op fr σ'' v) :: S else S) (fr.put o.dst v) σ'
variable {C : Noted → Fr → St → Prop} {S : Noted} {fr : Fr} {σ : St} {r : List PS} {i : Nat} {d : Option Nat} {op : Op} {t : TypeId} {p : String} {e : Array Edge}
@[go_sem] theorem pre_nil : aPre P l C [] S fr σ = C S fr σ := _root_.id rfl
@[go_sem] theorem pre_rd {keep : Bool} : aPre P l C (.rd i keep :: r) S fr σ = aRdP P l C keep i r S fr σ (l[i]?) := by
  unfold aPre aRdP
  cases l[i]? <;> rfl
@[go_sem] theorem rdp_k : aRdP P l C true i r S fr σ (some { dst := d, op := op, type := t, pos := p, after := e, guard := none }) = aOp P op fr σ (@hid _ ⟨fun v σ' => aPre P l C r (@hid _ ⟨(i, fun σ'' => Yl P op fr σ'' v) :: S⟩) (fr.put d v) σ'⟩) := by
  simp only [aRdP, true_and]; rfl
@[go_sem] theorem rdp_n : aRdP P l C false i r S fr σ (some { dst := d, op := op, type := t, pos := p, after := e, guard := none }) = aOp P op fr σ (@hid _ ⟨fun v σ' => aPre P l C r S (fr.put d v) σ'⟩) := by
  simp only [aRdP, true_and]; rfl
end
end Go.Proofs.YthdfpankebjleaaGreat

/-
  The plan's order: its walk.
  Conditions: none.
-/
namespace Go.Proofs.YthdfpankebjleaaGreat
open Go Go.Av

section
variable {σ : St}
theorem order_at (r : Rl) (first : Int) (hr : r.Ok) : AT Tryz.prog 51 [.agg r.cs, int first] σ fun v σ' => v = .sl 1 (inC (nats (ordR r first))) ∧ σ' = σ := by
  refine AT.of_body Tryz.func51 rfl (by decide) (by kernel_rfl) (by kernel_rfl) (Nat.le_of_ble_eq_true rfl) ?_
  simp only [go_sem]
  refine aNew_intro fun b hb hbn => ?_
  obtain ⟨β, hβ⟩ : ∃ β, β = σ.set b (.cells r.cs) := ⟨_, rfl⟩
  have kb : β b = some (.cells r.cs) := by rw [hβ]; exact set_same
  have ks : ∀ x o, σ x = some o → β x = some o := by rw [hβ]; exact set_sub hb (fun _ _ h => h)
  have hbl := hr.1
  rw [← hβ]
  clear hβ
  simp only [go_sem]
  refine aNew_intro fun o ho hon => ?_
  have kb1 : (β.set o (.cells [nilS])) b = some (.cells r.cs) := set_sub ho (fun _ _ h => h) _ _ kb
  simp only [go_sem, kb1]
  refine aNew_intro fun v hv hvn => ?_
  have hvo : o ≠ v := hvn o _ set_same
  have kb2 : ∀ ob, ((β.set o (.cells [nilS])).set v ob) b = some (.cells r.cs) := fun ob => set_sub hv (fun _ _ h => h) _ _ kb1
  simp only [go_sem, kb2, set_same]
  simp only [aFunc, exacts]
  simp only [go_sem, kb2, set_same]
  apply meet_by (fun fr σ' => ∃ ou vs, PO β σ' o v (nats ou) vs ∧ LO r first ou vs ∧ fr 2 = ptr b ∧ fr 5 = ptr o ∧ fr 6 = ptr v ∧ fr 7 = .v (.func (.func 93) #[] #[.pointer (some ⟨o, 0, none⟩), .pointer (some ⟨b, 0, none⟩), .pointer (some ⟨v, 0, none⟩)]))
  case h1 =>
    intro key
    have no1 : ∀ x, ¬ Own (.fsl 1 [[str r.ho.v]]) x := fun x ⟨n, c, e⟩ => by cases e
    have no2 : ∀ x, ¬ Own (.v (.slice none 0 0)) x := fun x ⟨n, c, e⟩ => by cases e
    have r0 : PO β ((β.set o (.cells [nilS])).set v (.cells [.fsl 1 [[str r.ho.v]]])) o v (nats []) [r.ho.v] := by
      refine ⟨nilS, .fsl 1 [[str r.ho.v]], ⟨by rw [set_ne hvo]; exact set_same, .none⟩, ⟨set_same, .full⟩, fun x => ?_, fun x p hx => ?_⟩
      · by_cases e : x = o
        · subst e; exact .inr ⟨hvo, no1 x⟩
        · exact .inl ⟨e, no2 x⟩
      · have h1 : x ≠ o := hon x p hx
        have h2 : x ≠ v := hvn x p (by rw [set_ne h1]; exact hx)
        exact ⟨by rw [set_ne h2, set_ne h1]; exact hx, ⟨h1, no2 x⟩, h2, no1 x⟩
    by_cases h0 : 0 ≤ first
    · by_cases h1 : first < r.bo.length
      · have hk : first.toNat < r.bo.length := by omega
        simp only [go_sem, kb2, decide_eq_true h0, decide_eq_true h1]
        have e0 : int first = int (first.toNat : Nat) := by rw [Int.toNat_of_nonneg h0]
        rw [e0]
        refine (take_at r hk kb r0 (by simp) (by simp) (by have := hr.2 _ (List.getElem_mem hk); omega)).mono ?_
        rintro _ σ1 h2
        simp only [go_sem]
        refine key _ _ ?_
        exact ⟨_, _, h2, .first hr h0 hk, rfl, rfl, rfl, rfl⟩
      · simp only [go_sem, kb2, decide_eq_true h0, decide_eq_false h1]
        refine key _ _ ?_
        exact ⟨_, _, r0, .start fun h => h1 h.2, rfl, rfl, rfl, rfl⟩
    · simp only [go_sem, kb2, decide_eq_false h0]
      refine key _ _ ?_
      exact ⟨_, _, r0, .start fun h => h0 h.1, rfl, rfl, rfl, rfl⟩
  case h2 =>
    rintro fr σ1 ⟨ou, vs, h, hL, f2, f5, f6, f7⟩
    simp only [go_sem, r_block]
    refine ⟨fun m fr σ1 => ∃ ou vs, m = r.bo.length - ou.length ∧ PO β σ1 o v (nats ou) vs ∧ LO r first ou vs ∧ fr 2 = ptr b ∧ fr 5 = ptr o ∧ fr 6 = ptr v ∧ fr 7 = .v (.func (.func 93) #[] #[.pointer (some ⟨o, 0, none⟩), .pointer (some ⟨b, 0, none⟩), .pointer (some ⟨v, 0, none⟩)]), ⟨_, ou, vs, rfl, h, hL, f2, f5, f6, f7⟩, ?_⟩
    clear h hL f2 f5 f6 f7 ou vs fr σ1
    rintro m fr σ1 ⟨ou, vs, rfl, h, hL, f2, f5, f6, f7⟩
    have kb1 := h.sub _ _ kb
    have hlen := hL.len hr
    obtain ⟨lo, c1, c2, c3⟩ := h.num
    simp only [go_sem, f2, f5, f6, f7, c1, c2.len, kb1]
    refine aIf_by (fun hlt => ?_) (fun hlt => ?_)
    · simp only [go_sem, r_block, f2, f5, f6, f7, kb1]
      refine ⟨fun m fr σ' => ∃ k : Nat, m = r.bo.length - k ∧ k ≤ r.bo.length ∧ PO β σ' o v (nats ou) vs ∧ fr 2 = ptr b ∧ fr 5 = ptr o ∧ fr 6 = ptr v ∧ fr 7 = .v (.func (.func 93) #[] #[.pointer (some ⟨o, 0, none⟩), .pointer (some ⟨b, 0, none⟩), .pointer (some ⟨v, 0, none⟩)]) ∧ fr 8 = int (bst r.bo ou vs k).1 ∧ fr 9 = int (bst r.bo ou vs k).2 ∧ fr 39 = .sl 10 (liC r.bo) ∧ fr 40 = int r.bo.length ∧ fr 41 = int k, ⟨_, 0, rfl, by omega, h, f2, f5, f6, f7, rfl, rfl, rfl, rfl, rfl⟩, ?_⟩
      clear f2 f5 f6 f7 fr h kb1 c1 c2 c3 lo σ1
      rintro m fr σ1 ⟨k, rfl, hk, h, f2, f5, f6, f7, f8, f9, f39, f40, f41⟩
      simp only [go_sem, f40, f41]
      refine aIf_by (fun hlt2 => ?_) (fun hlt2 => ?_)
      · have hkl : k < r.bo.length := by omega
        have hal := hr.2 _ (List.getElem_mem hkl)
        simp only [go_sem, r_block, f39, f41, liC_get hkl]
        refine ⟨by omega, aNew_intro fun c hc hcn => ?_⟩
        have h' := h.new (ob := .cells r.bo[k].cs) hc
        obtain ⟨lo, c1, c2, c3⟩ := h'.num
        obtain ⟨γ, g1, g2, g3⟩ := h'.base
        have hcc : γ c = some (.cells r.bo[k].cs) := g3 c _ set_same (fun a e => by injection e with e; exact absurd (congrArg List.length e) (by rw [Li.len]; simp)) (fun _ _ _ e => by cases e)
        simp only [go_sem, r_block, f39, f41, liC_get hkl, set_same, f5, c1, c2.len]
        revert h' c1 c2 c3 g1 g2 g3 hcc
        generalize σ1.set c (.cells r.bo[k].cs) = σ2
        intro h' c1 c2 c3 g1 g2 g3 hcc
        obtain ⟨l, hl⟩ : ∃ l, l = r.bo[k] := ⟨_, rfl⟩
        have hg : r.bo.getD k .zero = l := by rw [hl, li_getD hkl]
        rw [← hl] at hal hcc
        have hst : bst r.bo ou vs (k + 1) = if k ∉ ou ∧ (bst r.bo ou vs k).2 < (knL l vs : Int) then ((k : Int), (knL l vs : Int)) else bst r.bo ou vs k := by
          rw [← hg]; rfl
        refine ⟨fun m fr σ' => ∃ j : Nat, m = ou.length - j ∧ j ≤ ou.length ∧ σ' = σ2 ∧ k ∉ ou.take j ∧ fr 2 = ptr b ∧ fr 5 = ptr o ∧ fr 6 = ptr v ∧ fr 7 = .v (.func (.func 93) #[] #[.pointer (some ⟨o, 0, none⟩), .pointer (some ⟨b, 0, none⟩), .pointer (some ⟨v, 0, none⟩)]) ∧ fr 8 = int (bst r.bo ou vs k).1 ∧ fr 9 = int (bst r.bo ou vs k).2 ∧ fr 39 = .sl 10 (liC r.bo) ∧ fr 40 = int r.bo.length ∧ fr 41 = int k ∧ fr 10 = int k ∧ fr 11 = ptr c ∧ fr 46 = lo ∧ fr 47 = int ou.length ∧ fr 48 = int j, ⟨_, 0, rfl, by omega, rfl, by simp, f2, f5, f6, f7, f8, f9, f39, f40, f41, rfl, rfl, rfl, by rw [← nats_len ou, ← inC_len]; rfl, rfl⟩, ?_⟩
        clear f2 f5 f6 f7 f8 f9 f39 f40 f41 fr
        rintro m fr σ' ⟨j, rfl, hj, rfl, hn, f2, f5, f6, f7, f8, f9, f39, f40, f41, f10, f11, f46, f47, f48⟩
        simp only [go_sem, f47, f48]
        refine aIf_by (fun hlt3 => ?_) (fun hlt3 => ?_)
        · have hjl : j < ou.length := by omega
          have ej : (inC (nats ou)).getD j [] = [int (ou[j] : Nat)] := by
            rw [inC_get (by rw [nats_len]; exact hjl)]
            simp [nats]
          simp only [go_sem, r_block, f46, f48]
          refine c2.elem (by omega) (by rw [inC_len, nats_len]; omega) fun p hp => ?_
          simp only [go_sem, r_block]
          refine hp.load1 (by omega) (by rw [Int.toNat_natCast, ej]; simp) ?_
          simp only [go_sem, r_block, ej, f10]
          refine aIf_by (fun he => ?_) (fun he => ?_)
          · have hm : k ∈ ou := by
              have : ou[j] = k := by omega
              exact this ▸ List.getElem_mem hjl
            have e : bst r.bo ou vs (k + 1) = bst r.bo ou vs k := by rw [hst, if_neg fun h => h.1 hm]
            simp only [go_sem, r_block, f2, f5, f6, f7, f8, f9, f39, f40, f41, next64 (show k < 9223372036854775807 by omega)]
            exact ⟨r.bo.length - (k + 1), by omega, k + 1, rfl, by omega, h', by rw [e], by rw [e], rfl⟩
          · simp only [go_sem, r_block, f2, f5, f6, f7, f8, f9, f39, f40, f41, f10, f11, f46, f47, f48, next64 (show j < 9223372036854775807 by omega)]
            refine ⟨ou.length - (j + 1), by omega, j + 1, rfl, by omega, ?_, rfl⟩
            rw [List.take_add_one, List.getElem?_eq_getElem hjl]
            simp only [Option.toList, List.mem_append, List.mem_singleton, not_or]
            exact ⟨hn, fun e => he (by rw [← e])⟩
        · have hn : k ∉ ou := by
            rw [List.take_of_length_le (by omega)] at hn; exact hn
          obtain ⟨lw, d1, d2, d3⟩ := h'.var
          simp only [go_sem, r_block, f2, f5, f6, f10, f11, g1.sub _ _ hcc, Li.len, d1]
          refine (knows_at l (by omega) (by omega) (.of d2)).mono ?_
          rintro _ σ1 ⟨rfl, rfl⟩
          simp only [go_sem, r_block, f9]
          refine aIf_by (fun g2 => ?_) (fun g2 => ?_)
          · have e : bst r.bo ou vs (k + 1) = ((k : Int), (knL l vs : Int)) := by rw [hst, if_pos ⟨hn, g2⟩]
            simp only [go_sem, r_block, f2, f5, f6, f7, f8, f9, f39, f40, f41, f10, next64 (show k < 9223372036854775807 by omega)]
            exact ⟨r.bo.length - (k + 1), by omega, k + 1, rfl, by omega, h', by rw [e], by rw [e], rfl⟩
          · have e : bst r.bo ou vs (k + 1) = bst r.bo ou vs k := by rw [hst, if_neg fun h => g2 h.2]
            simp only [go_sem, r_block, f2, f5, f6, f7, f8, f9, f39, f40, f41, f10, next64 (show k < 9223372036854775807 by omega)]
            exact ⟨r.bo.length - (k + 1), by omega, k + 1, rfl, by omega, h', by rw [e], by rw [e], rfl⟩
      · obtain rfl : k = r.bo.length := by omega
        obtain ⟨c, hc, e, hN⟩ := hL.next hr (by omega)
        rw [e] at f8
        simp only [go_sem, r_block, f7, f8]
        refine (take_at r hc kb h (by omega) (by omega) (by have := hr.2 _ (List.getElem_mem hc); omega)).mono ?_
        rintro _ σ2 h2
        simp only [go_sem, r_block, f2, f5, f6, f7]
        have := perm_len _ _ hN.1
        simp only [List.length_append, List.length_cons, List.length_nil] at this
        exact ⟨_, by simp only [List.length_append, List.length_cons, List.length_nil]; omega, _, _, rfl, h2, hN, f2, f5, f6, f7⟩
    · simp only [go_sem, r_block, f5, c1]
      obtain rfl := hL.done (by omega)
      obtain ⟨lo', lw, q1, q2, q3, q4⟩ := h
      obtain rfl : lo' = lo := by
        have := q1.cell.symm.trans c1
        injection this with this
        injection this with this
        injection this
      exact aRet_view (r := lo') rfl _ σ (view_of (sv_of fun x o hx => .inl (q4 x o (ks x o hx)).1) (q1.lat.vw_same fun x hx => Classical.byContradiction fun hn => by
        obtain ⟨o, ho⟩ := Option.ne_none_iff_exists'.1 hn
        exact (q4 x o (ks x o ho)).2.1.2 hx)) ⟨rfl, rfl⟩
end
end Go.Proofs.YthdfpankebjleaaGreat

/-
  Bodies, as the program finds them.
  Conditions: none.
-/
namespace Go.Proofs.YthdfpankebjleaaGreat
open Go Go.Av

def Fa.zero : Fa := ⟨emp, emp, emp, []⟩
/-- What is found, in the program's order. -/
def fndP (r : Rl) (me : ByteArray) (first : Int) (f : Fa) (l : List Fa) : List (List Fa) :=
  match uniF r.ho (nmC me) [] with
  | some env => eachF r.ho r.bo (candF first f l) (ordR r first) env (List.replicate r.bo.length .zero)
  | none => []
/-- What is found, sorted, each once. -/
def bodF (r : Rl) (me : ByteArray) (first : Int) (f : Fa) (l : List Fa) : List (List Fa) := insS cmpB [] (fndP r me first f l)
theorem ordR_nodup (r : Rl) (first : Int) : (ordR r first).Nodup := (ordR_ok r first).1.1
theorem each_sm (ho : Tm) (bo : List Li) (cand : Nat → List Fa) (hc : ∀ k, ∀ x ∈ cand k, x.Sm) : ∀ (o : List Nat) (env : List Bi) (got : List Fa), (∀ x ∈ got, x.Sm) → ∀ b ∈ eachF ho bo cand o env got, b.length = got.length ∧ ∀ x ∈ b, x.Sm
  | [], env, got, hg, b, hb => by rw [List.mem_singleton.1 hb]; exact ⟨rfl, hg⟩
  | k :: o, env, got, hg, b, hb => by
    rw [eachF] at hb
    obtain ⟨x, hx, hb⟩ := List.mem_flatMap.1 hb
    split at hb
    · have := each_sm ho bo cand hc o _ (got.set k x) (fun y hy => by
        rcases List.mem_or_eq_of_mem_set hy with hy | rfl
        · exact hg y hy
        · exact hc k _ hx) b hb
      exact ⟨by rw [this.1, List.length_set], this.2⟩
    · cases hb
section
variable {σ : St}
set_option maxHeartbeats 2000000 in
theorem bodies_at (r : Rl) (me : ByteArray) (first : Int) (f : Fa) (l : List Fa) (hr : r.S3) (hf : f.Sm) (hl : l.length ≤ 1000000) (hls : ∀ y ∈ l, y.Sm) (hn : (fndP r me first f l).length ≤ 1000000) :
    AT Tryz.prog 52 [.agg r.cs, str me, int first, .agg f.cs, .sl 4 (faC l)] σ fun v σ' => PB σ σ' v (bodF r me first f l) := by
  refine AT.of_body Tryz.func52 rfl (by decide) (by kernel_rfl) (by kernel_rfl) (Nat.le_of_ble_eq_true rfl) ?_
  simp only [go_sem]
  refine Ctx.nil.alloc fun p σ1 c1 => ?_
  simp only [go_sem]
  refine c1.alloc fun q σ2 c2 => ?_
  simp only [go_sem, c2.g1]
  refine (AT.weak (unify_at r.ho (nmC me) [] (by simp)) (vws_same (vws_same (vws_cons (.nil 4) vws_nil)))).mono ?_
  rintro _ σ2 ⟨rfl, rfl⟩
  simp only [go_sem]
  cases hu : uniF r.ho (nmC me) [] with
  | none =>
    have e : bodF r me first f l = [] := by unfold bodF fndP; rw [hu]; rfl
    rw [e]
    simp only [go_sem]
    exact aRet_view (r := nilS) rfl _ σ (c2.view _) ⟨fun _ _ h => h, fun x hx => absurd hx own_no_nil, [], .inl ⟨rfl, .inl rfl⟩, rfl, fun i hi => by simp at hi⟩
  | some env =>
    have ef : fndP r me first f l = eachF r.ho r.bo (candF first f l) (ordR r first) env (List.replicate r.bo.length .zero) := by unfold fndP; rw [hu]
    have hel := uni_len hu
    simp only [List.length_nil] at hel
    have hr1 := hr.1
    simp only [go_sem]
    refine aDraw_two [.rd 0 true, .rd 1 true, .rd 2 false, .rd 4 true, .rd 5 false, .rd 6 false, .rd 7 true, .rd 8 false, .rd 10 false] 3 [0, 4, 7] [.ef 9 [0, 1, 4], .rd 11 false, .ef 12 [], .rd 13 false] 9 [0, 1, 4] [.ef 3 [0, 4, 7], .rd 11 false, .ef 12 [], .rd 13 false] (by kernel_rfl) (by kernel_rfl) (by kernel_rfl) (by kernel_rfl) ?_
    simp only [go_sem, c2.g1]
    constructor
    case' left =>
      refine (order_at r first hr).mono ?_
      rintro _ σ2 ⟨rfl, rfl⟩
      simp only [go_sem, c2.g1]
      refine ⟨by omega, by omega, aMkRow_intro fun gb hgb hgn => ?_⟩
      have c3 := c2.new (o := .rows 4 (List.replicate r.bo.length [str emp, str emp, str emp, nilS]) false r.bo.length) hgb
      obtain ⟨σ3, e3⟩ : ∃ s, s = σ2.set gb (.rows 4 (List.replicate r.bo.length [str emp, str emp, str emp, nilS]) false r.bo.length) := ⟨_, rfl⟩
      rw [← e3] at c3 ⊢
      simp only [go_sem, c3.g2]
    case' right =>
      refine ⟨by omega, by omega, aMkRow_intro fun gb hgb hgn => ?_⟩
      have c3 := c2.new (o := .rows 4 (List.replicate r.bo.length [str emp, str emp, str emp, nilS]) false r.bo.length) hgb
      obtain ⟨σ3, e3⟩ : ∃ s, s = σ2.set gb (.rows 4 (List.replicate r.bo.length [str emp, str emp, str emp, nilS]) false r.bo.length) := ⟨_, rfl⟩
      rw [← e3] at c3 ⊢
      simp only [go_sem, c3.g2]
      refine (order_at r first hr).mono ?_
      rintro _ σ3 ⟨rfl, rfl⟩
      simp only [go_sem, c3.g2]
    all_goals
      repeat' refine And.intro (Nat.le_of_ble_eq_true (by kernel_rfl)) ?_
      refine And.intro (by kernel_rfl) ?_
      refine c3.alloc (o := .cells (fiC r (.sl 1 (inC (nats (ordR r first)))) f (.sl 4 (faC l)) (slv gb r.bo.length r.bo.length) nilS first)) fun x σ4 c4 => ?_
      simp only [go_sem]
      obtain ⟨σ5, e5⟩ : ∃ s, s = σ4.set gb (.rows 4 (faC (List.replicate r.bo.length Fa.zero)) false r.bo.length) := ⟨_, rfl⟩
      have k4 := c4.g3
      have hE0 : EI σ σ5 x r (ordR r first) f l first (List.replicate r.bo.length .zero) [] := by
        rw [e5]
        refine ⟨gb, nilS, [], ?_, ?_, .inl ⟨rfl, .inl rfl⟩, rfl, fun i hi => by simp at hi, fun y o hy => ⟨?_, fun e => ?_, fun e => ?_, own_no_nil⟩, fun e => by cases e⟩
        · rw [set_ne k4.2.1, List.length_replicate]; exact k4.1.1
        · rw [set_same, List.length_replicate]
        · have h1 := c4.f1
          rw [set_ne (fun e => by rw [e] at hy; rw [hy] at h1; cases h1)]
          exact c4.sub _ _ hy
        · have h1 := c4.f0
          rw [e] at hy; rw [hy] at h1; cases h1
        · have h1 := c4.f1
          rw [e] at hy; rw [hy] at h1; cases h1
      have hSV : SV σ4 σ5 := by
        rw [e5]
        refine sv_set k4.1.2.1 ⟨rfl, rfl, rfl, by simp [faC], fun i hi => ?_⟩ fun y o hne hy => hy
        have hi' : i < r.bo.length := by simpa using hi
        have g1 : (List.replicate r.bo.length [str emp, str emp, str emp, nilS]).getD i [] = [str emp, str emp, str emp, nilS] := by
          simp [List.getD_eq_getElem?_getD, hi']
        have g2 : (faC (List.replicate r.bo.length Fa.zero)).getD i [] = [str emp, str emp, str emp, .sl 3 []] := by
          rw [faC_get (by simpa using hi')]; simp [Fa.cs, Fa.zero, cnC]
        rw [g1, g2]
        exact vws_same (vws_same (vws_same (vws_cons (.nil 3) vws_nil)))
      refine AT.pre (args' := [ptr x, int 0, .sl 4 (biC env)]) ((each_at r (ordR r first) first f l hr hf hl hls (by rw [(ordR_ok r first).2.1]; exact hr1) (ordR_nodup r first) (ordR_ok r first).1.2 (ordR r first).length 0 (by omega) (by simp) (by omega) hE0 (by rw [List.drop_zero, ← ef]; simpa using hn)).mono ?_) (by kernel_rfl) hSV (vws_refl _)
      rintro _ σ6 ⟨got', _, _, hE⟩
      rw [List.drop_zero, ← ef, List.nil_append] at hE
      obtain ⟨gb', lo, es, h1, h2, h3, h4, h5, h6, h7⟩ := hE
      simp only [go_sem, h1]
      rcases h3 with ⟨rfl, hlo | hlo⟩ | ⟨b, cap, rfl, hcap, hb⟩
      case' inl.inr => exact absurd hlo h7
      case' inl.inl =>
        subst hlo
        refine (sortnilL_at _).mono ?_
        rintro _ σ6 rfl
        simp only [go_sem, h1]
        refine (compnilL_at _).mono ?_
        rintro _ σ7 ⟨rfl, rfl⟩
        have e0 : fndP r me first f l = [] := List.eq_nil_of_length_eq_zero (by simpa using h4.symm)
        obtain ⟨v7, hv7⟩ : ∃ v, v = nilS := ⟨_, rfl⟩
        obtain ⟨β', L, hM⟩ : ∃ (β' : St) (L : List (BV β' σ)), Ow 1 σ7 v7 (L.map BV.en) ∧ (∀ c o, β' c = some o → σ7 c = some o) ∧ L.map BV.bd = bodF r me first f l ∧ (∀ y o, σ y = some o → σ7 y = some o) ∧ (∀ y, Own v7 y → σ y = none) ∧ L.length ≤ 1000000 :=
          ⟨fun _ => none, [], .inl ⟨rfl, .inl hv7⟩, fun c o h => (by cases h), by unfold bodF; rw [e0]; rfl, fun y o hy => (h6 y o hy).1, fun y hy => by rw [hv7] at hy; exact absurd hy own_no_nil, by simp⟩
        rw [← hv7]
      case' inr =>
        have hxb : x ≠ b := fun e => by subst e; rw [h1] at hb; cases hb
        obtain ⟨β', hβ⟩ : ∃ β' : St, β' = fun y => if y = b ∨ y = x then none else σ6 y := ⟨_, rfl⟩
        have hbb : β' b = none := by rw [hβ]; simp
        have hsub : ∀ y o, β' y = some o → σ6 y = some o ∧ y ≠ b ∧ y ≠ x := fun y o hy => by
          rw [hβ] at hy
          simp only at hy
          split at hy
          · cases hy
          · rename_i hn; exact ⟨hy, fun e => hn (.inl e), fun e => hn (.inr e)⟩
        have hin : ∀ y o, σ6 y = some o → y ≠ b → y ≠ x → β' y = some o := fun y o hy n1 n2 => by
          rw [hβ]; simp only; rw [if_neg (by rintro (e | e); exact n1 e; exact n2 e)]; exact hy
        have hsm := each_sm r.ho r.bo (candF first f l) (fun k y hy => by
          unfold candF at hy; split at hy
          · rw [List.mem_singleton.1 hy]; exact hf
          · exact hls y hy) (ordR r first) env (List.replicate r.bo.length .zero) (fun y hy => by rw [(List.mem_replicate.1 hy).2]; simp [Fa.zero, Fa.Sm])
        rw [← ef] at hsm
        obtain ⟨L0, hL1, hL2⟩ : ∃ L0 : List (BV β' σ), L0.map BV.en = es ∧ L0.map BV.bd = fndP r me first f l := pick_list es _ h4 fun i hi => by
          obtain ⟨v, v1, v2, v3, v4⟩ := h5 i hi
          have sm := hsm _ (List.getElem_mem hi)
          refine ⟨⟨_, v, v2.keep fun y o hy ho => hin y o hy (fun e => ?_) (fun e => ?_), ⟨?_, sm.2⟩, v4⟩, v1, rfl⟩
          · subst e
            obtain ⟨c, hc⟩ := v2.lat.own_rows ho
            rw [hb] at hc; cases hc
          · subst e
            obtain ⟨c, hc⟩ := v2.lat.own_rows ho
            rw [h1] at hc; cases hc
          · rw [sm.1]; simp; omega
        have hb0 : σ6 b = some (.rows 1 (rw' BV.en L0.toArray) false cap) := by rw [hb, ← hL1]; simp [rw']
        have hlen : es.length = L0.length := by rw [← hL1, List.length_map]
        refine (L.sort_at (fun _ => rfl) BV.one BV.cells BV.ord_at hbb (n := es.length) (by omega) BV.swo hb0 (fun y o hy => (hsub y o hy).1) (by simpa using hlen.symm)).mono ?_
        rintro _ _ ⟨d', rfl, hp, hsd⟩
        have hdl : es.length = d'.toList.length := by rw [hp.length_eq, hlen]
        have hx7 : (σ6.set b (.rows 1 (rw' BV.en d') false cap)) x = some (.cells (fiC r (.sl 1 (inC (nats (ordR r first)))) f (.sl 4 (faC l)) (slv gb' got'.length got'.length) (slv b es.length cap) first)) := by rw [set_ne hxb]; exact h1
        simp only [go_sem, hx7]
        rw [hdl]
        refine (L.compact_at (fun _ => rfl) BV.one BV.cells BV.eq_at hbb (l := d'.toList) set_same (sub_set hbb fun y o hy => (hsub y o hy).1) (by omega) (by omega)).mono ?_
        rintro _ _ ⟨rfl, rfl⟩
        rw [set_set]
        obtain ⟨σ7, hσ7⟩ : ∃ s, s = σ6.set b (.rows 1 ((cptB BV.eq d'.toList).map BV.en) false cap) := ⟨_, rfl⟩
        rw [← hσ7]
        obtain ⟨v7, hv7⟩ : ∃ v, v = slv b (cptB BV.eq d'.toList).length cap := ⟨_, rfl⟩
        have hsz : d'.size = es.length := by simpa using hdl.symm
        obtain ⟨β', L, hM⟩ : ∃ (β' : St) (L : List (BV β' σ)), Ow 1 σ7 v7 (L.map BV.en) ∧ (∀ c o, β' c = some o → σ7 c = some o) ∧ L.map BV.bd = bodF r me first f l ∧ (∀ y o, σ y = some o → σ7 y = some o) ∧ (∀ y, Own v7 y → σ y = none) ∧ L.length ≤ 1000000 := by
          refine ⟨β', cptB BV.eq d'.toList, .inr ⟨b, cap, by rw [List.length_map]; exact hv7, ?_, by rw [hσ7]; exact set_same⟩, fun c o hc => ?_, ?_, fun y o hy => ?_, fun y hy => ?_, by have := cptB_len BV.eq d'.toList; omega⟩
          · have := cptB_len BV.eq d'.toList
            rw [List.length_map]; omega
          · rw [hσ7, set_ne (hsub c o hc).2.1]; exact (hsub c o hc).1
          · unfold bodF
            refine BV.done ?_ (by rw [hsz]; exact hsd)
            rw [← hL2]
            exact (hp.map BV.bd)
          · have := h6 y o hy
            rw [hσ7, set_ne fun e => this.2.2.2 (own_slv.2 e)]; exact this.1
          · rw [hv7] at hy
            have e := own_slv.1 hy
            subst e
            cases h : σ y with
            | none => rfl
            | some o => exact absurd (own_slv.2 rfl) (h6 y o h).2.2.2
        rw [← hv7]
      all_goals
        clear h1 h4 h5 h6 h7 hE0 hSV e5 k4 c4 c3 e3
        obtain ⟨q1, q2, q3, q4, q5, q6⟩ := hM
        have hJ0 : JB σ σ7 σ7 v7 (L.map BV.en) (fun _ _ => False) := ⟨q4, q1, fun c b cap h7 h0 => ⟨_, h7, by simp [faC], fun j hj => ⟨.sl 3 (cnC b[j].ar), by rw [faC_get hj]; rfl, .inl ⟨rfl, fun h => h⟩⟩⟩⟩
        simp only [go_sem, r_block, q1.lat.len]
        refine ⟨fun m fr σ' => ∃ i : Nat, m = L.length - i ∧ i ≤ L.length ∧ JB σ σ7 σ' v7 (L.map BV.en) (fun c _ => ∃ k, ∃ h : k < L.length, k < i ∧ Own L[k].v c) ∧ fr 14 = v7 ∧ fr 54 = v7 ∧ fr 55 = int L.length ∧ fr 56 = int i, ⟨_, 0, rfl, by omega, hJ0.weak (fun c b cap j h1 h2 ⟨k, _, h3, _⟩ => by omega), rfl, rfl, rfl, rfl⟩, ?_⟩
        rintro m fr σ8 ⟨i, rfl, hi, hJ, f14, f54, f55, f56⟩
        simp only [go_sem, f55, f56]
        refine aIf_by (fun hlt => ?_) (fun hlt => ?_)
        · have hil : i < L.length := by omega
          obtain ⟨X, hX⟩ : ∃ X, X = L[i] := ⟨_, rfl⟩
          have eg : (L.map BV.en).getD i [] = [X.v] := by rw [hX]; simp [List.getD_eq_getElem?_getD, hil, BV.en]
          simp only [go_sem, r_block, f54, f56]
          refine hJ.2.1.lat.elem (by omega) (by rw [List.length_map]; omega) fun e he => ?_
          simp only [go_sem, r_block]
          refine he.load1 (by decide) (by rw [Int.toNat_natCast, eg]; exact Nat.le_refl 1) ?_
          simp only [go_sem, r_block, eg, X.ow.lat.len, faC_len]
          refine ⟨fun mm fr σ9 => ∃ j : Nat, mm = X.bd.length - j ∧ j ≤ X.bd.length ∧ JB σ σ7 σ9 v7 (L.map BV.en) (fun c j' => (∃ k, ∃ h : k < L.length, k < i ∧ Own L[k].v c) ∨ (Own X.v c ∧ j' < j)) ∧ fr 14 = v7 ∧ fr 16 = X.v ∧ fr 54 = v7 ∧ fr 55 = int L.length ∧ fr 56 = int i ∧ fr 61 = int X.bd.length ∧ fr 62 = int j, ⟨_, 0, rfl, by omega, hJ.weak (fun c b cap j h1 h2 h3 => h3.resolve_right fun h => by omega), f14, rfl, f54, f55, f56, rfl, rfl⟩, ?_⟩
          clear f14 f54 f55 f56 hJ fr he e
          rintro mm fr σ9 ⟨j, rfl, hj, hJ, f14, f16, f54, f55, f56, f61, f62⟩
          simp only [go_sem, f61, f62]
          refine aIf_by (fun hlt2 => ?_) (fun hlt2 => ?_)
          · have hjl : j < X.bd.length := by omega
            have hsl := X.sm.1
            have hsj := X.sm.2 _ (List.getElem_mem hjl)
            rcases X.ow with ⟨h0, _⟩ | ⟨c, cap, hv, hcap, hc⟩
            · have := congrArg List.length h0
              rw [faC_len, List.length_nil] at this
              omega
            · have hown : ∀ y, Own X.v y ↔ y = c := fun y => by rw [hv]; exact own_slv
              have h0 := X.fr c ((hown c).2 rfl)
              have h7 := q2 _ _ hc
              obtain ⟨es9, g1, g2, g3⟩ := hJ.2.2 c _ cap h7 h0
              obtain ⟨a, ga, gb2⟩ := g3 j hjl
              have hR : Rd 3 σ9 a (cnC X.bd[j].ar) := by
                rcases gb2 with ⟨rfl, _⟩ | ⟨h, _⟩
                · exact .sl
                · exact .of h.lat
              rw [faC_len] at hv
              simp only [go_sem, r_block, f16, f62, hv, g1, ga]
              refine ⟨by omega, by omega, (cloneC_at X.bd[j].ar hsj hR).mono ?_⟩
              rintro lv σ10 ⟨hO, hG⟩
              have g10 := hG.sub _ _ g1
              simp only [go_sem, r_block, f16, f62, hv, g10, ga, hO.lat.one, hO.lat.cells, next64 (show j < 9223372036854775807 by omega)]
              refine ⟨by omega, by omega, ?_⟩
              have hJ' : JB σ σ7 (σ10.set c (.rows 4 (es9.set j (faX X.bd[j] lv)) false cap)) v7 (L.map BV.en) (fun c j' => (∃ k, ∃ h : k < L.length, k < i ∧ Own L[k].v c) ∨ (Own X.v c ∧ j' < j + 1)) := hJ.put hG.sub h7 h0 g1 hjl hO (fun y hy => none_of_sub hJ.1 (hG.own hy)) fun c' j' h => by
                rcases h with h | ⟨h, hlt3⟩
                · exact .inl (.inl h)
                · have e := (hown c').1 h
                  by_cases ej : j' = j
                  · exact .inr ⟨e, ej⟩
                  · exact .inl (.inr ⟨h, by omega⟩)
              rw [hv] at hJ'
              refine ⟨X.bd.length - (j + 1), by omega, j + 1, rfl, by omega, hJ', ?_⟩
              (and_intros <;> first | assumption | rfl | omega)
          · simp only [go_sem, r_block, f14, f54, f55, f56, next64 (show i < 9223372036854775807 by omega)]
            have hJ' : JB σ σ7 σ9 v7 (L.map BV.en) (fun c _ => ∃ k, ∃ h : k < L.length, k < i + 1 ∧ Own L[k].v c) := ?_
            · refine ⟨L.length - (i + 1), by omega, i + 1, rfl, by omega, hJ', ?_⟩
              (and_intros <;> first | assumption | rfl | omega)
            refine hJ.weak fun c b cap j' h7 hj' ⟨k, hk, hki, ho⟩ => ?_
            by_cases e : k = i
            · subst e
              rw [← hX] at ho
              refine .inr ⟨ho, ?_⟩
              rcases X.ow with ⟨_, h | h⟩ | ⟨c', cap', hv, hcap, hc⟩
              · rw [h] at ho; exact absurd ho own_no_nil
              · rw [h] at ho; exact absurd ho own_no_fsl
              · rw [hv] at ho
                have e := own_slv.1 ho
                subst e
                rw [q2 _ _ hc] at h7
                injection h7 with h7
                injection h7 with _ h7 _ _
                rw [← faC_inj h7] at hj'
                omega
            · exact .inl ⟨k, hk, by omega, ho⟩
        · obtain rfl : i = L.length := by omega
          simp only [go_sem, r_block, f14]
          refine aRet_as (r := v7) rfl ⟨hJ.1, q5, L.map BV.en, hJ.2.1, by rw [← q3]; simp, fun k hk => ?_⟩
          have hkl : k < L.length := by rw [← q3] at hk; simpa using hk
          have ek : (bodF r me first f l)[k] = L[k].bd := by
            have := List.getElem_of_eq q3.symm hk
            rw [this, List.getElem_map]
          rw [ek]
          refine ⟨L[k].v, by simp [List.getD_eq_getElem?_getD, hkl, BV.en], ?_⟩
          rcases L[k].ow with ⟨h0, h⟩ | ⟨c, cap, hv, hcap, hc⟩
          · exact .inl ⟨List.map_eq_nil_iff.1 h0, h⟩
          · rw [faC_len] at hv hcap
            have hown : Own L[k].v c := by rw [hv]; exact own_slv.2 rfl
            obtain ⟨es9, g1, g2, g3⟩ := hJ.2.2 c _ cap (q2 _ _ hc) (L[k].fr c hown)
            refine .inr ⟨c, cap, hv, hcap, L[k].fr c hown, es9, g1, g2, fun j hj => ?_⟩
            obtain ⟨a, ga, gb2⟩ := g3 j hj
            exact ⟨a, ga, .inr (gb2.resolve_left fun h => h.2 ⟨k, hkl, hkl, hown⟩)⟩
end
end Go.Proofs.YthdfpankebjleaaGreat

/-
  A statement's rules.
  Conditions: none.
-/
namespace Go.Proofs.YthdfpankebjleaaGreat
open Go Go.Av

theorem tm_of {n : Nat} {cs : List AV} (h : Ty Tryz.prog (n + 3) 40 cs) : ∃ t : Tm, cs = t.cs := by
  have hx := ty_st Tryz.underlying40 h
  obtain ⟨x1, y1, rfl, h1, x2, y2, rfl, h2, rfl⟩ := hx
  obtain ⟨v, rfl, _⟩ := ty_str Tryz.underlying9 h1
  have hc := ty_st Tryz.underlying38 h2
  obtain ⟨x3, y3, rfl, h3, x4, y4, rfl, h4, x5, y5, rfl, h5, rfl⟩ := hc
  obtain ⟨b, rfl⟩ := ty_bool Tryz.underlying4 h3
  obtain ⟨k, rfl, _⟩ := ty_int Tryz.underlying3 h4
  obtain ⟨s, rfl, _⟩ := ty_str Tryz.underlying9 h5
  exact ⟨⟨v, b, k, s⟩, rfl⟩
theorem tms_of {n : Nat} : ∀ (es : List (List AV)), (∀ x ∈ es, Ty Tryz.prog (n + 3) 40 x) → ∃ l : List Tm, es = tmC l
  | [], _ => ⟨[], rfl⟩
  | x :: es, h => by
    obtain ⟨l, rfl⟩ := tms_of es fun y hy => h y (by simp [hy])
    obtain ⟨t, rfl⟩ := tm_of (h x (by simp))
    exact ⟨t :: l, rfl⟩
theorem li_of {n : Nat} {cs : List AV} (h : Ty Tryz.prog (n + 5) 75 cs) : ∃ l : Li, cs = l.cs ∧ l.Wf := by
  have hx := ty_st Tryz.underlying75 h
  obtain ⟨x1, y1, rfl, h1, x2, y2, rfl, h2, x3, y3, rfl, h3, x4, y4, rfl, h4, rfl⟩ := hx
  obtain ⟨a, rfl⟩ := tm_of h1
  obtain ⟨nm, rfl, hn⟩ := ty_str Tryz.underlying9 h2
  obtain ⟨es, rfl, hl, he⟩ := ty_sl Tryz.underlying41 h3
  obtain ⟨ts, rfl⟩ := tms_of es he
  obtain ⟨c, rfl⟩ := tm_of h4
  have e1 : Tryz.prog.cellsOf 40 = 4 := by kernel_rfl
  have e2 : Tryz.prog.bytesOf 40 = 48 := by kernel_rfl
  rw [e1]
  rw [e2, tmC_len] at hl
  exact ⟨⟨a, nm, ts, c⟩, rfl, by show ts.length ≤ _; omega, hn⟩
theorem lis_of {n : Nat} : ∀ (es : List (List AV)), (∀ x ∈ es, Ty Tryz.prog (n + 5) 75 x) → ∃ l : List Li, es = liC l ∧ ∀ x ∈ l, x.Wf
  | [], _ => ⟨[], rfl, fun x hx => by cases hx⟩
  | x :: es, h => by
    obtain ⟨l, rfl, hl⟩ := lis_of es fun y hy => h y (by simp [hy])
    obtain ⟨t, rfl, ht⟩ := li_of (h x (by simp))
    exact ⟨t :: l, rfl, fun y hy => by rcases List.mem_cons.1 hy with rfl | hy; exact ht; exact hl y hy⟩
theorem rl_of {n : Nat} {cs : List AV} (h : Ty Tryz.prog (n + 7) 44 cs) : ∃ r : Rl, cs = r.cs ∧ r.Wf := by
  have hx := ty_st Tryz.underlying44 h
  obtain ⟨x1, y1, rfl, h1, x2, y2, rfl, h2, x3, y3, rfl, h3, x4, y4, rfl, h4, x5, y5, rfl, h5, rfl⟩ := hx
  obtain ⟨a, rfl⟩ := tm_of h1
  obtain ⟨nm, rfl, hn⟩ := ty_str Tryz.underlying9 h2
  obtain ⟨es, rfl, hl, he⟩ := ty_sl Tryz.underlying41 h3
  obtain ⟨ts, rfl⟩ := tms_of es he
  obtain ⟨c, rfl⟩ := tm_of h4
  obtain ⟨es, rfl, hl2, he⟩ := ty_sl Tryz.underlying42 h5
  obtain ⟨ls, rfl, hls⟩ := lis_of es he
  have e1 : Tryz.prog.cellsOf 40 = 4 := by kernel_rfl
  have e2 : Tryz.prog.bytesOf 40 = 48 := by kernel_rfl
  have e3 : Tryz.prog.cellsOf 75 = 10 := by kernel_rfl
  have e4 : Tryz.prog.bytesOf 75 = 136 := by kernel_rfl
  rw [e1, e3]
  rw [e2, tmC_len] at hl
  rw [e4, liC_len] at hl2
  exact ⟨⟨a, nm, ts, c, ls⟩, rfl, by show ts.length ≤ _; omega, hn, by show ls.length ≤ _; omega, hls⟩
end Go.Proofs.YthdfpankebjleaaGreat

/-
  The tables by which runs of this program are reckoned.
  Conditions: none.
-/
namespace Go.Proofs.YthdfpankebjleaaGreat
open Go Go.Av
def te3 : TE := ⟨⟨false, 1, [.int .i64 0], .int .i64⟩, false, false, false, false, false, true, none⟩
theorem teOk3 : TeOk Tryz.prog 3 te3 := ⟨by kernel_rfl, by kernel_rfl, by kernel_rfl, by kernel_rfl, by kernel_rfl, by kernel_rfl, by kernel_rfl, fun ls h => by cases h⟩
def te4 : TE := ⟨⟨false, 1, [.bool false], .bool⟩, false, false, false, false, true, true, none⟩
theorem teOk4 : TeOk Tryz.prog 4 te4 := ⟨by kernel_rfl, by kernel_rfl, by kernel_rfl, by kernel_rfl, by kernel_rfl, by kernel_rfl, by kernel_rfl, fun ls h => by cases h⟩
def te5 : TE := ⟨⟨false, 1, [.int .u8 0], .int .u8⟩, false, false, false, false, false, true, none⟩
theorem teOk5 : TeOk Tryz.prog 5 te5 := ⟨by kernel_rfl, by kernel_rfl, by kernel_rfl, by kernel_rfl, by kernel_rfl, by kernel_rfl, by kernel_rfl, fun ls h => by cases h⟩
def te9 : TE := ⟨⟨false, 1, [.string ⟨#[]⟩], .str⟩, false, false, false, false, false, true, none⟩
theorem teOk9 : TeOk Tryz.prog 9 te9 := ⟨by kernel_rfl, by kernel_rfl, by kernel_rfl, by kernel_rfl, by kernel_rfl, by kernel_rfl, by kernel_rfl, fun ls h => by cases h⟩
def te20 : TE := ⟨⟨false, 1, [.nilIface], .iface⟩, false, false, false, false, false, false, none⟩
theorem teOk20 : TeOk Tryz.prog 20 te20 := ⟨by kernel_rfl, by kernel_rfl, by kernel_rfl, by kernel_rfl, by kernel_rfl, by kernel_rfl, by kernel_rfl, fun ls h => by cases h⟩
def te22 : TE := ⟨⟨false, 1, [.slice none 0 0], .sl 1 16 [.string ⟨#[]⟩] false⟩, true, false, false, false, false, true, none⟩
theorem teOk22 : TeOk Tryz.prog 22 te22 := ⟨by kernel_rfl, by kernel_rfl, by kernel_rfl, by kernel_rfl, by kernel_rfl, by kernel_rfl, by kernel_rfl, fun ls h => by cases h⟩
def te23 : TE := ⟨⟨false, 1, [.slice none 0 0], .sl 11 160 [.string ⟨#[]⟩, .bool false, .int .i64 0, .string ⟨#[]⟩, .string ⟨#[]⟩, .slice none 0 0, .string ⟨#[]⟩, .bool false, .int .i64 0, .string ⟨#[]⟩, .slice none 0 0] false⟩, true, false, false, false, false, true, none⟩
theorem teOk23 : TeOk Tryz.prog 23 te23 := ⟨by kernel_rfl, by kernel_rfl, by kernel_rfl, by kernel_rfl, by kernel_rfl, by kernel_rfl, by kernel_rfl, fun ls h => by cases h⟩
def te24 : TE := ⟨⟨false, 1, [.slice none 0 0], .sl 4 72 [.string ⟨#[]⟩, .string ⟨#[]⟩, .string ⟨#[]⟩, .slice none 0 0] false⟩, true, false, false, false, false, true, none⟩
theorem teOk24 : TeOk Tryz.prog 24 te24 := ⟨by kernel_rfl, by kernel_rfl, by kernel_rfl, by kernel_rfl, by kernel_rfl, by kernel_rfl, by kernel_rfl, fun ls h => by cases h⟩
def te31 : TE := ⟨⟨false, 1, [.int .i64 0], .int .i64⟩, false, false, false, false, false, true, none⟩
theorem teOk31 : TeOk Tryz.prog 31 te31 := ⟨by kernel_rfl, by kernel_rfl, by kernel_rfl, by kernel_rfl, by kernel_rfl, by kernel_rfl, by kernel_rfl, fun ls h => by cases h⟩
def te35 : TE := ⟨⟨true, 2, [.slice none 0 0, .slice none 0 0], .st [(0, 1, false), (1, 1, false)]⟩, false, false, false, false, false, true, none⟩
theorem teOk35 : TeOk Tryz.prog 35 te35 := ⟨by kernel_rfl, by kernel_rfl, by kernel_rfl, by kernel_rfl, by kernel_rfl, by kernel_rfl, by kernel_rfl, fun ls h => by cases h⟩
def te38 : TE := ⟨⟨true, 3, [.bool false, .int .i64 0, .string ⟨#[]⟩], .st [(0, 1, false), (1, 1, false), (2, 1, false)]⟩, false, false, false, false, false, true, (some [.b, .i .i64, .s])⟩
theorem teOk38 : TeOk Tryz.prog 38 te38 := ⟨by kernel_rfl, by kernel_rfl, by kernel_rfl, by kernel_rfl, by kernel_rfl, by kernel_rfl, by kernel_rfl, fun ls h => by cases h; exact ⟨by kernel_rfl, by kernel_rfl, by kernel_rfl⟩⟩
def te40 : TE := ⟨⟨true, 4, [.string ⟨#[]⟩, .bool false, .int .i64 0, .string ⟨#[]⟩], .st [(0, 1, false), (1, 3, true)]⟩, false, false, false, false, false, true, (some [.s, .b, .i .i64, .s])⟩
theorem teOk40 : TeOk Tryz.prog 40 te40 := ⟨by kernel_rfl, by kernel_rfl, by kernel_rfl, by kernel_rfl, by kernel_rfl, by kernel_rfl, by kernel_rfl, fun ls h => by cases h; exact ⟨by kernel_rfl, by kernel_rfl, by kernel_rfl⟩⟩
def te41 : TE := ⟨⟨false, 1, [.slice none 0 0], .sl 4 48 [.string ⟨#[]⟩, .bool false, .int .i64 0, .string ⟨#[]⟩] false⟩, true, false, false, false, false, true, none⟩
theorem teOk41 : TeOk Tryz.prog 41 te41 := ⟨by kernel_rfl, by kernel_rfl, by kernel_rfl, by kernel_rfl, by kernel_rfl, by kernel_rfl, by kernel_rfl, fun ls h => by cases h⟩
def te42 : TE := ⟨⟨false, 1, [.slice none 0 0], .sl 10 136 [.string ⟨#[]⟩, .bool false, .int .i64 0, .string ⟨#[]⟩, .string ⟨#[]⟩, .slice none 0 0, .string ⟨#[]⟩, .bool false, .int .i64 0, .string ⟨#[]⟩] false⟩, true, false, false, false, false, true, none⟩
theorem teOk42 : TeOk Tryz.prog 42 te42 := ⟨by kernel_rfl, by kernel_rfl, by kernel_rfl, by kernel_rfl, by kernel_rfl, by kernel_rfl, by kernel_rfl, fun ls h => by cases h⟩
def te44 : TE := ⟨⟨true, 11, [.string ⟨#[]⟩, .bool false, .int .i64 0, .string ⟨#[]⟩, .string ⟨#[]⟩, .slice none 0 0, .string ⟨#[]⟩, .bool false, .int .i64 0, .string ⟨#[]⟩, .slice none 0 0], .st [(0, 4, true), (4, 1, false), (5, 1, false), (6, 4, true), (10, 1, false)]⟩, false, false, false, false, false, true, none⟩
theorem teOk44 : TeOk Tryz.prog 44 te44 := ⟨by kernel_rfl, by kernel_rfl, by kernel_rfl, by kernel_rfl, by kernel_rfl, by kernel_rfl, by kernel_rfl, fun ls h => by cases h⟩
def te45 : TE := ⟨⟨false, 1, [.slice none 0 0], .sl 3 32 [.bool false, .int .i64 0, .string ⟨#[]⟩] false⟩, true, false, false, false, false, true, none⟩
theorem teOk45 : TeOk Tryz.prog 45 te45 := ⟨by kernel_rfl, by kernel_rfl, by kernel_rfl, by kernel_rfl, by kernel_rfl, by kernel_rfl, by kernel_rfl, fun ls h => by cases h⟩
def te47 : TE := ⟨⟨true, 4, [.string ⟨#[]⟩, .string ⟨#[]⟩, .string ⟨#[]⟩, .slice none 0 0], .st [(0, 1, false), (1, 1, false), (2, 1, false), (3, 1, false)]⟩, false, false, false, false, false, true, none⟩
theorem teOk47 : TeOk Tryz.prog 47 te47 := ⟨by kernel_rfl, by kernel_rfl, by kernel_rfl, by kernel_rfl, by kernel_rfl, by kernel_rfl, by kernel_rfl, fun ls h => by cases h⟩
def te70 : TE := ⟨⟨false, 1, [.slice none 0 0], .sl 4 48 [.string ⟨#[]⟩, .bool false, .int .i64 0, .string ⟨#[]⟩] false⟩, true, false, false, false, false, true, none⟩
theorem teOk70 : TeOk Tryz.prog 70 te70 := ⟨by kernel_rfl, by kernel_rfl, by kernel_rfl, by kernel_rfl, by kernel_rfl, by kernel_rfl, by kernel_rfl, fun ls h => by cases h⟩
def te75 : TE := ⟨⟨true, 10, [.string ⟨#[]⟩, .bool false, .int .i64 0, .string ⟨#[]⟩, .string ⟨#[]⟩, .slice none 0 0, .string ⟨#[]⟩, .bool false, .int .i64 0, .string ⟨#[]⟩], .st [(0, 4, true), (4, 1, false), (5, 1, false), (6, 4, true)]⟩, false, false, false, false, false, true, none⟩
theorem teOk75 : TeOk Tryz.prog 75 te75 := ⟨by kernel_rfl, by kernel_rfl, by kernel_rfl, by kernel_rfl, by kernel_rfl, by kernel_rfl, by kernel_rfl, fun ls h => by cases h⟩
def te87 : TE := ⟨⟨false, 1, [.nilFunc], .other⟩, false, false, true, false, false, true, none⟩
theorem teOk87 : TeOk Tryz.prog 87 te87 := ⟨by kernel_rfl, by kernel_rfl, by kernel_rfl, by kernel_rfl, by kernel_rfl, by kernel_rfl, by kernel_rfl, fun ls h => by cases h⟩
def te102 : TE := ⟨⟨false, 1, [.slice none 0 0], .sl 1 8 [.int .i64 0] false⟩, true, false, false, false, false, true, none⟩
theorem teOk102 : TeOk Tryz.prog 102 te102 := ⟨by kernel_rfl, by kernel_rfl, by kernel_rfl, by kernel_rfl, by kernel_rfl, by kernel_rfl, by kernel_rfl, fun ls h => by cases h⟩
def te115 : TE := ⟨⟨true, 4, [.string ⟨#[]⟩, .bool false, .int .i64 0, .string ⟨#[]⟩], .st [(0, 1, false), (1, 3, true)]⟩, false, false, false, false, false, true, (some [.s, .b, .i .i64, .s])⟩
theorem teOk115 : TeOk Tryz.prog 115 te115 := ⟨by kernel_rfl, by kernel_rfl, by kernel_rfl, by kernel_rfl, by kernel_rfl, by kernel_rfl, by kernel_rfl, fun ls h => by cases h; exact ⟨by kernel_rfl, by kernel_rfl, by kernel_rfl⟩⟩
def te122 : TE := ⟨⟨false, 1, [.nilFunc], .other⟩, false, false, true, false, false, true, none⟩
theorem teOk122 : TeOk Tryz.prog 122 te122 := ⟨by kernel_rfl, by kernel_rfl, by kernel_rfl, by kernel_rfl, by kernel_rfl, by kernel_rfl, by kernel_rfl, fun ls h => by cases h⟩
def te123 : TE := ⟨⟨false, 1, [.slice none 0 0], .sl 4 40 [.int .i64 0, .string ⟨#[]⟩, .int .i64 0, .int .i64 0] false⟩, true, false, false, false, false, true, none⟩
theorem teOk123 : TeOk Tryz.prog 123 te123 := ⟨by kernel_rfl, by kernel_rfl, by kernel_rfl, by kernel_rfl, by kernel_rfl, by kernel_rfl, by kernel_rfl, fun ls h => by cases h⟩
def te126 : TE := ⟨⟨false, 1, [.pointer none], .ptr 128⟩, false, true, false, false, false, true, none⟩
theorem teOk126 : TeOk Tryz.prog 126 te126 := ⟨by kernel_rfl, by kernel_rfl, by kernel_rfl, by kernel_rfl, by kernel_rfl, by kernel_rfl, by kernel_rfl, fun ls h => by cases h⟩
def te128 : TE := ⟨⟨true, 2, [.slice none 0 0, .int .i64 0], .st [(0, 1, false), (1, 1, false)]⟩, false, false, false, false, false, true, none⟩
theorem teOk128 : TeOk Tryz.prog 128 te128 := ⟨by kernel_rfl, by kernel_rfl, by kernel_rfl, by kernel_rfl, by kernel_rfl, by kernel_rfl, by kernel_rfl, fun ls h => by cases h⟩
def te130 : TE := ⟨⟨true, 2, [.int .i64 0, .int .i64 0], .st [(0, 1, false), (1, 1, false)]⟩, false, false, false, false, false, true, (some [.i .i64, .i .i64])⟩
theorem teOk130 : TeOk Tryz.prog 130 te130 := ⟨by kernel_rfl, by kernel_rfl, by kernel_rfl, by kernel_rfl, by kernel_rfl, by kernel_rfl, by kernel_rfl, fun ls h => by cases h; exact ⟨by kernel_rfl, by kernel_rfl, by kernel_rfl⟩⟩
def te138 : TE := ⟨⟨false, 1, [.nilFunc], .other⟩, false, false, true, false, false, true, none⟩
theorem teOk138 : TeOk Tryz.prog 138 te138 := ⟨by kernel_rfl, by kernel_rfl, by kernel_rfl, by kernel_rfl, by kernel_rfl, by kernel_rfl, by kernel_rfl, fun ls h => by cases h⟩
def te143 : TE := ⟨⟨false, 1, [.nilFunc], .other⟩, false, false, true, false, false, true, none⟩
theorem teOk143 : TeOk Tryz.prog 143 te143 := ⟨by kernel_rfl, by kernel_rfl, by kernel_rfl, by kernel_rfl, by kernel_rfl, by kernel_rfl, by kernel_rfl, fun ls h => by cases h⟩
def te163 : TE := ⟨⟨false, 1, [.nilFunc], .other⟩, false, false, true, false, false, true, none⟩
theorem teOk163 : TeOk Tryz.prog 163 te163 := ⟨by kernel_rfl, by kernel_rfl, by kernel_rfl, by kernel_rfl, by kernel_rfl, by kernel_rfl, by kernel_rfl, fun ls h => by cases h⟩
def te166 : TE := ⟨⟨true, 4, [.int .i64 0, .string ⟨#[]⟩, .int .i64 0, .int .i64 0], .st [(0, 1, false), (1, 1, false), (2, 1, false), (3, 1, false)]⟩, false, false, false, false, false, true, (some [.i .i64, .s, .i .i64, .i .i64])⟩
theorem teOk166 : TeOk Tryz.prog 166 te166 := ⟨by kernel_rfl, by kernel_rfl, by kernel_rfl, by kernel_rfl, by kernel_rfl, by kernel_rfl, by kernel_rfl, fun ls h => by cases h; exact ⟨by kernel_rfl, by kernel_rfl, by kernel_rfl⟩⟩
def te178 : TE := ⟨⟨false, 1, [.int .u64 0], .int .u64⟩, false, false, false, false, false, true, none⟩
theorem teOk178 : TeOk Tryz.prog 178 te178 := ⟨by kernel_rfl, by kernel_rfl, by kernel_rfl, by kernel_rfl, by kernel_rfl, by kernel_rfl, by kernel_rfl, fun ls h => by cases h⟩
def te185 : TE := ⟨⟨false, 1, [.nilFunc], .other⟩, false, false, true, false, false, true, none⟩
theorem teOk185 : TeOk Tryz.prog 185 te185 := ⟨by kernel_rfl, by kernel_rfl, by kernel_rfl, by kernel_rfl, by kernel_rfl, by kernel_rfl, by kernel_rfl, fun ls h => by cases h⟩
def te195 : TE := ⟨⟨false, 1, [.int .i64 0], .int .i64⟩, false, false, false, false, false, true, none⟩
theorem teOk195 : TeOk Tryz.prog 195 te195 := ⟨by kernel_rfl, by kernel_rfl, by kernel_rfl, by kernel_rfl, by kernel_rfl, by kernel_rfl, by kernel_rfl, fun ls h => by cases h⟩
def te202 : TE := ⟨⟨false, 1, [.int .u32 0], .int .u32⟩, false, false, false, false, false, true, none⟩
theorem teOk202 : TeOk Tryz.prog 202 te202 := ⟨by kernel_rfl, by kernel_rfl, by kernel_rfl, by kernel_rfl, by kernel_rfl, by kernel_rfl, by kernel_rfl, fun ls h => by cases h⟩
def te204 : TE := ⟨⟨false, 1, [.int .u64 0], .int .u64⟩, false, false, false, false, false, true, none⟩
theorem teOk204 : TeOk Tryz.prog 204 te204 := ⟨by kernel_rfl, by kernel_rfl, by kernel_rfl, by kernel_rfl, by kernel_rfl, by kernel_rfl, by kernel_rfl, fun ls h => by cases h⟩
def te213 : TE := ⟨⟨false, 1, [.int .u64 0], .int .u64⟩, false, false, false, false, false, true, none⟩
theorem teOk213 : TeOk Tryz.prog 213 te213 := ⟨by kernel_rfl, by kernel_rfl, by kernel_rfl, by kernel_rfl, by kernel_rfl, by kernel_rfl, by kernel_rfl, fun ls h => by cases h⟩
def te217 : TE := ⟨⟨false, 1, [.pointer none], .ptr 3⟩, false, true, false, false, false, true, none⟩
theorem teOk217 : TeOk Tryz.prog 217 te217 := ⟨by kernel_rfl, by kernel_rfl, by kernel_rfl, by kernel_rfl, by kernel_rfl, by kernel_rfl, by kernel_rfl, fun ls h => by cases h⟩
def tyT : Tr TE := (.n (.n (.n (.n (.n (.n (.n (.n .e (.n (.n (.l te128) .e) .e)) .e) .e) .e) (.n (.n .e (.n (.n (.n (.n (.l te40) .e) .e) .e) .e)) (.n (.n (.n (.n (.n (.l te24) .e) .e) .e) .e) .e))) (.n (.n (.n (.n (.n (.n (.n (.l te4) .e) .e) .e) .e) .e) (.n (.n (.n (.n (.n (.l te20) .e) .e) .e) .e) .e)) (.n (.n (.n .e (.n .e (.n (.n (.l te204) .e) .e))) (.n (.n (.n (.n (.l te44) .e) .e) .e) .e)) .e))) (.n (.n (.n (.n (.n (.n .e (.n (.n (.l te130) .e) .e)) .e) .e) (.n .e (.n (.n .e (.n (.n (.l te178) .e) .e)) .e))) (.n (.n (.n (.n .e (.n (.n (.l te138) .e) .e)) (.n .e (.n (.n (.l te202) .e) .e))) (.n (.n (.n (.n (.l te42) .e) .e) .e) .e)) (.n .e (.n .e (.n (.n (.n (.l te122) .e) .e) .e))))) (.n (.n (.n (.n .e (.n (.n (.n (.l te70) .e) .e) .e)) (.n (.n (.n (.n (.l te38) .e) .e) (.n (.n (.l te166) .e) .e)) (.n (.n (.n (.l te102) .e) .e) .e))) (.n (.n (.n (.n (.n (.l te22) .e) .e) .e) .e) .e)) (.n .e (.n .e (.n .e (.n (.n (.n (.l te126) .e) .e) .e))))))) (.n (.n (.n .e (.n (.n (.n (.n (.n (.n (.l te9) .e) .e) .e) .e) (.n (.n (.n (.n (.l te41) .e) .e) .e) .e)) (.n (.n .e (.n .e (.n (.n (.l te217) .e) .e))) (.n (.n .e (.n (.n (.l te185) .e) .e)) .e)))) (.n (.n (.n (.n (.n (.n (.n (.l te5) .e) .e) .e) .e) .e) (.n (.n .e (.n .e (.n (.n (.l te213) .e) .e))) .e)) (.n (.n .e (.n (.n (.n (.n (.l te45) .e) .e) .e) .e)) .e))) (.n (.n (.n (.n (.n (.n (.n (.n (.l te3) .e) .e) .e) (.n .e (.n (.n (.l te195) .e) .e))) (.n (.n (.n (.n (.l te35) .e) .e) (.n (.n (.l te163) .e) .e)) .e)) (.n .e (.n .e (.n (.n (.n (.l te115) .e) .e) .e)))) (.n (.n (.n .e (.n (.n (.n (.l te75) .e) .e) .e)) .e) (.n .e (.n .e (.n (.n (.n (.l te123) .e) .e) .e))))) (.n (.n .e (.n (.n (.n (.n (.n (.l te23) .e) .e) .e) (.n (.n (.n (.l te87) .e) .e) .e)) .e)) (.n (.n (.n (.n .e (.n (.n (.l te143) .e) .e)) .e) (.n (.n (.n (.n (.l te47) .e) .e) .e) .e)) (.n (.n (.n (.n (.n (.l te31) .e) .e) .e) .e) .e))))))
theorem tyOk : tyT.All 10 (TeOk Tryz.prog) := ⟨⟨⟨⟨⟨⟨⟨⟨trivial, ⟨⟨teOk128, trivial⟩, trivial⟩⟩, trivial⟩, trivial⟩, trivial⟩, ⟨⟨trivial, ⟨⟨⟨⟨teOk40, trivial⟩, trivial⟩, trivial⟩, trivial⟩⟩, ⟨⟨⟨⟨⟨teOk24, trivial⟩, trivial⟩, trivial⟩, trivial⟩, trivial⟩⟩⟩, ⟨⟨⟨⟨⟨⟨⟨teOk4, trivial⟩, trivial⟩, trivial⟩, trivial⟩, trivial⟩, ⟨⟨⟨⟨⟨teOk20, trivial⟩, trivial⟩, trivial⟩, trivial⟩, trivial⟩⟩, ⟨⟨⟨trivial, ⟨trivial, ⟨⟨teOk204, trivial⟩, trivial⟩⟩⟩, ⟨⟨⟨⟨teOk44, trivial⟩, trivial⟩, trivial⟩, trivial⟩⟩, trivial⟩⟩⟩, ⟨⟨⟨⟨⟨⟨trivial, ⟨⟨teOk130, trivial⟩, trivial⟩⟩, trivial⟩, trivial⟩, ⟨trivial, ⟨⟨trivial, ⟨⟨teOk178, trivial⟩, trivial⟩⟩, trivial⟩⟩⟩, ⟨⟨⟨⟨trivial, ⟨⟨teOk138, trivial⟩, trivial⟩⟩, ⟨trivial, ⟨⟨teOk202, trivial⟩, trivial⟩⟩⟩, ⟨⟨⟨⟨teOk42, trivial⟩, trivial⟩, trivial⟩, trivial⟩⟩, ⟨trivial, ⟨trivial, ⟨⟨⟨teOk122, trivial⟩, trivial⟩, trivial⟩⟩⟩⟩⟩, ⟨⟨⟨⟨trivial, ⟨⟨⟨teOk70, trivial⟩, trivial⟩, trivial⟩⟩, ⟨⟨⟨⟨teOk38, trivial⟩, trivial⟩, ⟨⟨teOk166, trivial⟩, trivial⟩⟩, ⟨⟨⟨teOk102, trivial⟩, trivial⟩, trivial⟩⟩⟩, ⟨⟨⟨⟨⟨teOk22, trivial⟩, trivial⟩, trivial⟩, trivial⟩, trivial⟩⟩, ⟨trivial, ⟨trivial, ⟨trivial, ⟨⟨⟨teOk126, trivial⟩, trivial⟩, trivial⟩⟩⟩⟩⟩⟩⟩, ⟨⟨⟨trivial, ⟨⟨⟨⟨⟨⟨teOk9, trivial⟩, trivial⟩, trivial⟩, trivial⟩, ⟨⟨⟨⟨teOk41, trivial⟩, trivial⟩, trivial⟩, trivial⟩⟩, ⟨⟨trivial, ⟨trivial, ⟨⟨teOk217, trivial⟩, trivial⟩⟩⟩, ⟨⟨trivial, ⟨⟨teOk185, trivial⟩, trivial⟩⟩, trivial⟩⟩⟩⟩, ⟨⟨⟨⟨⟨⟨⟨teOk5, trivial⟩, trivial⟩, trivial⟩, trivial⟩, trivial⟩, ⟨⟨trivial, ⟨trivial, ⟨⟨teOk213, trivial⟩, trivial⟩⟩⟩, trivial⟩⟩, ⟨⟨trivial, ⟨⟨⟨⟨teOk45, trivial⟩, trivial⟩, trivial⟩, trivial⟩⟩, trivial⟩⟩⟩, ⟨⟨⟨⟨⟨⟨⟨⟨teOk3, trivial⟩, trivial⟩, trivial⟩, ⟨trivial, ⟨⟨teOk195, trivial⟩, trivial⟩⟩⟩, ⟨⟨⟨⟨teOk35, trivial⟩, trivial⟩, ⟨⟨teOk163, trivial⟩, trivial⟩⟩, trivial⟩⟩, ⟨trivial, ⟨trivial, ⟨⟨⟨teOk115, trivial⟩, trivial⟩, trivial⟩⟩⟩⟩, ⟨⟨⟨trivial, ⟨⟨⟨teOk75, trivial⟩, trivial⟩, trivial⟩⟩, trivial⟩, ⟨trivial, ⟨trivial, ⟨⟨⟨teOk123, trivial⟩, trivial⟩, trivial⟩⟩⟩⟩⟩, ⟨⟨trivial, ⟨⟨⟨⟨⟨teOk23, trivial⟩, trivial⟩, trivial⟩, ⟨⟨⟨teOk87, trivial⟩, trivial⟩, trivial⟩⟩, trivial⟩⟩, ⟨⟨⟨⟨trivial, ⟨⟨teOk143, trivial⟩, trivial⟩⟩, trivial⟩, ⟨⟨⟨⟨teOk47, trivial⟩, trivial⟩, trivial⟩, trivial⟩⟩, ⟨⟨⟨⟨⟨teOk31, trivial⟩, trivial⟩, trivial⟩, trivial⟩, trivial⟩⟩⟩⟩⟩⟩
noncomputable def fe10 : FE := ⟨Tryz.f10, []⟩
noncomputable def fe12 : FE := ⟨Tryz.f12, [(4, [.rd 0 false, .rd 2 true, .rd 3 false, .rd 4 false, .ef 1 [2], .ef 5 [], .ef 6 [], .ef 7 [], .rd 8 false])]⟩
noncomputable def fe22 : FE := ⟨Tryz.f22, []⟩
noncomputable def fe25 : FE := ⟨Tryz.f25, []⟩
noncomputable def fe29 : FE := ⟨Tryz.f29, [(8, [.rd 0 false, .rd 2 false, .rd 3 true, .rd 4 true, .rd 5 false, .rd 6 false, .ef 1 [3, 4], .ef 7 [], .rd 8 false, .rd 9 false])]⟩
noncomputable def fe30 : FE := ⟨Tryz.f30, [(3, [.rd 0 false, .rd 1 true, .rd 2 true, .rd 4 false, .rd 5 true, .rd 7 false, .ef 3 [5], .ef 6 [], .ef 8 [], .rd 9 false, .rd 10 false, .rd 11 false, .rd 12 false, .rd 13 false]), (8, [.rd 0 false, .rd 1 true, .rd 2 false, .rd 3 true, .rd 5 false, .ef 4 [1], .ef 6 [], .rd 7 false, .rd 8 false, .rd 9 false, .rd 10 false, .rd 11 false]), (13, [.rd 0 true, .rd 1 false, .rd 2 true, .rd 3 false, .rd 4 false, .rd 5 true, .rd 6 false, .ef 7 [], .rd 8 false, .rd 9 false, .rd 10 false, .rd 11 false, .rd 12 false])]⟩
noncomputable def fe31 : FE := ⟨Tryz.f31, []⟩
noncomputable def fe34 : FE := ⟨Tryz.f34, [(3, [.rd 0 true, .rd 1 true, .ef 2 [0, 1], .ef 3 [1], .ef 4 []]), (9, [.rd 0 true, .rd 1 false, .ef 2 [0], .rd 3 false, .ef 4 [], .ef 5 []])]⟩
noncomputable def fe36 : FE := ⟨Tryz.f36, []⟩
noncomputable def fe37 : FE := ⟨Tryz.f37, []⟩
noncomputable def fe41 : FE := ⟨Tryz.f41, [(1, [.rd 0 false, .rd 1 true, .rd 2 false, .rd 3 true, .rd 5 false, .rd 6 true, .rd 7 false, .rd 8 true, .rd 10 false, .rd 11 true, .rd 12 false, .rd 13 true, .rd 15 false, .rd 16 true, .rd 17 false, .rd 18 true, .ef 4 [6, 8, 11, 13, 16, 18], .ef 9 [11, 13, 16, 18], .ef 14 [16, 18], .ef 19 [], .rd 20 false, .ef 21 [], .rd 22 false])]⟩
noncomputable def fe47 : FE := ⟨Tryz.f47, []⟩
noncomputable def fe48 : FE := ⟨Tryz.f48, []⟩
noncomputable def fe50 : FE := ⟨Tryz.f50, [(6, [.rd 0 false, .rd 1 false, .rd 2 false, .rd 3 true, .rd 4 false, .rd 5 false, .rd 6 false, .rd 7 true, .rd 8 false])]⟩
noncomputable def fe51 : FE := ⟨Tryz.f51, []⟩
noncomputable def fe58 : FE := ⟨Tryz.f58, []⟩
noncomputable def fe59 : FE := ⟨Tryz.f59, []⟩
noncomputable def fe60 : FE := ⟨Tryz.f60, []⟩
noncomputable def fe61 : FE := ⟨Tryz.f61, []⟩
noncomputable def fe62 : FE := ⟨Tryz.f62, [(2, [.rd 0 false, .rd 1 true, .rd 2 false, .rd 3 false, .rd 4 true, .rd 5 false, .rd 6 true, .ef 7 [1, 4], .rd 8 false, .rd 9 false, .rd 10 false, .rd 11 false])]⟩
noncomputable def fe63 : FE := ⟨Tryz.f63, []⟩
noncomputable def fe66 : FE := ⟨Tryz.f66, []⟩
noncomputable def fe67 : FE := ⟨Tryz.f67, [(3, [.rd 0 false, .rd 1 true, .rd 2 false, .rd 3 true, .ef 4 [1, 3], .ef 5 [3], .ef 6 []])]⟩
noncomputable def fe68 : FE := ⟨Tryz.f68, []⟩
noncomputable def fe69 : FE := ⟨Tryz.f69, []⟩
noncomputable def fe70 : FE := ⟨Tryz.f70, [(10, [.rd 0 false, .rd 1 true, .rd 2 false, .ef 3 [1], .rd 4 false, .ef 5 [], .rd 6 false, .ef 7 []])]⟩
noncomputable def fe73 : FE := ⟨Tryz.f73, []⟩
noncomputable def fe74 : FE := ⟨Tryz.f74, []⟩
noncomputable def fe75 : FE := ⟨Tryz.f75, [(6, [.rd 0 false, .rd 1 false, .rd 2 false, .rd 3 false, .rd 4 true, .rd 5 false, .rd 6 false, .rd 7 false, .rd 8 false, .rd 9 true, .ef 10 []]), (11, [.rd 0 false, .rd 1 false, .rd 2 false, .rd 3 false, .rd 4 true, .rd 5 false, .rd 6 false, .rd 7 false, .rd 8 false, .rd 9 true, .ef 10 [], .rd 11 false])]⟩
noncomputable def fe76 : FE := ⟨Tryz.f76, []⟩
noncomputable def fe80 : FE := ⟨Tryz.f80, []⟩
noncomputable def fe81 : FE := ⟨Tryz.f81, []⟩
noncomputable def fe82 : FE := ⟨Tryz.f82, []⟩
noncomputable def fe83 : FE := ⟨Tryz.f83, [(5, [.rd 0 false, .rd 1 true, .rd 2 false, .rd 3 true, .rd 5 false, .rd 6 true, .rd 7 false, .rd 8 true, .ef 4 [6, 8], .ef 9 [], .rd 10 false, .ef 11 [], .rd 12 false])]⟩
noncomputable def fe89 : FE := ⟨Tryz.f89, []⟩
noncomputable def fe90 : FE := ⟨Tryz.f90, [(6, [.rd 0 false, .rd 1 true, .rd 2 false, .rd 3 true, .rd 4 false, .rd 5 false, .rd 6 true, .rd 7 true, .rd 8 false, .ef 9 [], .rd 10 false, .rd 11 false, .rd 12 false, .rd 13 false, .rd 14 false])]⟩
noncomputable def fe91 : FE := ⟨Tryz.f91, []⟩
noncomputable def fe93 : FE := ⟨Tryz.f93, []⟩
noncomputable def fe94 : FE := ⟨Tryz.f94, []⟩
noncomputable def fe108 : FE := ⟨Tryz.f108, []⟩
noncomputable def fe109 : FE := ⟨Tryz.f109, []⟩
noncomputable def fe110 : FE := ⟨Tryz.f110, []⟩
noncomputable def fe111 : FE := ⟨Tryz.f111, [(7, [.rd 0 false, .rd 1 false, .rd 2 false, .rd 3 true, .rd 4 false, .ef 5 [3], .rd 6 false, .ef 7 []]), (10, [.rd 0 false, .rd 1 false, .rd 2 false, .rd 3 true, .rd 4 false, .ef 5 [3], .rd 6 false, .ef 7 []]), (24, [.rd 0 false, .rd 1 false, .rd 2 false, .rd 3 true, .rd 4 false, .ef 5 [3], .rd 6 false, .ef 7 []]), (26, [.rd 0 false, .rd 1 false, .rd 2 false, .rd 3 true, .rd 4 false, .ef 5 [3], .rd 6 false, .ef 7 []])]⟩
noncomputable def fe112 : FE := ⟨Tryz.f112, []⟩
noncomputable def fe113 : FE := ⟨Tryz.f113, []⟩
noncomputable def fe114 : FE := ⟨Tryz.f114, []⟩
noncomputable def fe115 : FE := ⟨Tryz.f115, []⟩
noncomputable def fe116 : FE := ⟨Tryz.f116, []⟩
noncomputable def fe117 : FE := ⟨Tryz.f117, []⟩
noncomputable def fe118 : FE := ⟨Tryz.f118, []⟩
noncomputable def fe119 : FE := ⟨Tryz.f119, []⟩
noncomputable def fe120 : FE := ⟨Tryz.f120, [(17, [.rd 0 false, .rd 1 false, .rd 2 false, .rd 3 false, .rd 4 false, .rd 5 false, .rd 6 false, .rd 7 false, .rd 8 true, .rd 9 false, .rd 10 false, .rd 11 false, .rd 12 true, .ef 13 [], .rd 14 false, .rd 15 false, .rd 16 false])]⟩
noncomputable def fe121 : FE := ⟨Tryz.f121, []⟩
noncomputable def fe122 : FE := ⟨Tryz.f122, []⟩
noncomputable def fe123 : FE := ⟨Tryz.f123, []⟩
noncomputable def fe135 : FE := ⟨Tryz.f135, []⟩
noncomputable def fe136 : FE := ⟨Tryz.f136, []⟩
noncomputable def fe137 : FE := ⟨Tryz.f137, []⟩
noncomputable def fe138 : FE := ⟨Tryz.f138, []⟩
noncomputable def fe139 : FE := ⟨Tryz.f139, []⟩
noncomputable def fe140 : FE := ⟨Tryz.f140, []⟩
noncomputable def fe141 : FE := ⟨Tryz.f141, []⟩
noncomputable def fe142 : FE := ⟨Tryz.f142, []⟩
noncomputable def fe143 : FE := ⟨Tryz.f143, []⟩
noncomputable def fe144 : FE := ⟨Tryz.f144, []⟩
noncomputable def fe145 : FE := ⟨Tryz.f145, [(4, [.rd 0 false, .rd 1 false, .rd 2 false, .rd 3 false, .rd 4 false, .rd 5 false, .rd 6 false, .rd 7 false, .rd 8 true, .rd 9 false, .rd 10 false, .rd 11 false, .rd 12 false, .rd 13 true, .ef 14 [], .rd 15 false, .rd 16 false]), (6, [.rd 0 false, .rd 1 false, .rd 2 false, .rd 3 false, .rd 4 false, .rd 5 false, .rd 6 false, .rd 7 false, .rd 8 false, .rd 9 true, .rd 10 false, .rd 11 false, .rd 12 false, .rd 13 true, .rd 14 false, .ef 15 [], .rd 16 false, .ef 17 []])]⟩
noncomputable def fe146 : FE := ⟨Tryz.f146, [(10, [.rd 0 false, .rd 1 false, .rd 2 false, .rd 3 false, .rd 4 false, .rd 5 false, .rd 6 false, .rd 7 false, .rd 8 false, .rd 9 false, .rd 10 false, .rd 11 true, .rd 12 false, .rd 13 false, .rd 14 false, .rd 15 true, .rd 16 false, .ef 17 [], .rd 18 false, .ef 19 []])]⟩
noncomputable def fe147 : FE := ⟨Tryz.f147, [(10, [.rd 0 false, .rd 1 false, .rd 2 false, .rd 3 false, .rd 4 false, .rd 5 false, .rd 6 false, .rd 7 false, .rd 8 false, .rd 9 false, .rd 10 false, .rd 11 true, .rd 12 false, .rd 13 false, .rd 14 false, .rd 15 true, .rd 16 false, .ef 17 [], .rd 18 false, .ef 19 []])]⟩
noncomputable def fe148 : FE := ⟨Tryz.f148, []⟩
noncomputable def fe149 : FE := ⟨Tryz.f149, [(3, [.rd 0 false, .rd 1 false, .rd 2 false, .rd 3 false, .rd 4 false, .rd 5 false, .rd 6 false, .rd 7 true, .rd 8 false, .rd 9 false, .rd 10 false, .rd 11 true, .rd 12 false, .ef 13 [], .rd 14 false, .ef 15 []])]⟩
noncomputable def fe150 : FE := ⟨Tryz.f150, [(5, [.rd 0 false, .rd 1 false, .rd 2 false, .rd 3 false, .rd 4 false, .rd 5 false, .rd 6 false, .rd 7 false, .rd 8 true, .rd 9 false, .rd 10 false, .rd 11 false, .rd 12 false, .rd 13 true, .ef 14 [], .rd 15 false, .rd 16 false, .rd 17 false]), (11, [.rd 0 false, .rd 1 false, .rd 2 false, .rd 3 false, .rd 4 false, .rd 5 false, .rd 6 false, .rd 7 false, .rd 8 false, .rd 9 true, .rd 10 false, .rd 11 false, .rd 12 false, .rd 13 true, .rd 14 false, .ef 15 [], .rd 16 false, .ef 17 []]), (16, [.rd 0 false, .rd 1 false, .rd 2 false, .rd 3 false, .rd 4 true, .rd 5 false, .rd 6 false, .rd 7 false, .rd 8 false, .rd 9 true, .ef 10 [], .rd 11 false, .rd 12 false]), (17, [.rd 0 false, .rd 1 false, .rd 2 false, .rd 3 false, .rd 4 false, .rd 5 false, .rd 6 false, .rd 7 false, .rd 8 false, .rd 9 true, .rd 10 false, .rd 11 false, .rd 12 false, .rd 13 true, .rd 14 false, .ef 15 [], .rd 16 false, .ef 17 []]), (22, [.rd 0 false, .rd 1 false, .rd 2 false, .rd 3 false, .rd 4 true, .rd 5 false, .rd 6 false, .rd 7 false, .rd 8 false, .rd 9 true, .ef 10 [], .rd 11 false, .rd 12 false]), (23, [.rd 0 false, .rd 1 false, .rd 2 false, .rd 3 false, .rd 4 false, .rd 5 false, .rd 6 false, .rd 7 false, .rd 8 false, .rd 9 true, .rd 10 false, .rd 11 false, .rd 12 false, .rd 13 true, .rd 14 false, .ef 15 [], .rd 16 false, .ef 17 []])]⟩
noncomputable def fe151 : FE := ⟨Tryz.f151, [(1, [.rd 0 false, .rd 1 false, .rd 2 false, .rd 3 false, .rd 4 false, .rd 5 false, .rd 6 false, .rd 7 true, .rd 8 false, .rd 9 false, .rd 10 false, .rd 11 true, .rd 12 false, .ef 13 [], .rd 14 false, .ef 15 []]), (3, [.rd 0 false, .rd 1 false, .rd 2 false, .rd 3 false, .rd 4 false, .rd 5 false, .rd 6 false, .rd 7 false, .rd 8 true, .rd 9 false, .rd 10 false, .rd 11 false, .rd 12 true, .ef 13 [], .rd 14 false, .rd 15 false, .rd 16 false]), (5, [.rd 0 false, .rd 1 false, .rd 2 false, .rd 3 false, .rd 4 false, .rd 5 false, .rd 6 false, .rd 7 false, .rd 8 true, .rd 9 false, .rd 10 false, .rd 11 false, .rd 12 true, .ef 13 [], .rd 14 false, .rd 15 false]), (8, [.rd 0 false, .rd 1 false, .rd 2 false, .rd 3 false, .rd 4 false, .rd 5 false, .rd 6 false, .rd 7 true, .rd 8 false, .rd 9 false, .rd 10 false, .rd 11 true, .rd 12 false, .ef 13 [], .rd 14 false, .ef 15 []])]⟩
noncomputable def fe152 : FE := ⟨Tryz.f152, [(1, [.rd 0 false, .rd 1 false, .rd 2 false, .rd 3 false, .rd 4 false, .rd 5 false, .rd 6 false, .rd 7 true, .rd 8 false, .rd 9 false, .rd 10 false, .rd 11 true, .rd 12 false, .ef 13 [], .rd 14 false, .ef 15 []]), (3, [.rd 0 false, .rd 1 false, .rd 2 false, .rd 3 false, .rd 4 false, .rd 5 false, .rd 6 false, .rd 7 false, .rd 8 true, .rd 9 false, .rd 10 false, .rd 11 false, .rd 12 true, .ef 13 [], .rd 14 false, .rd 15 false]), (5, [.rd 0 false, .rd 1 false, .rd 2 false, .rd 3 false, .rd 4 false, .rd 5 false, .rd 6 false, .rd 7 false, .rd 8 true, .rd 9 false, .rd 10 false, .rd 11 false, .rd 12 true, .ef 13 [], .rd 14 false, .rd 15 false, .rd 16 false]), (8, [.rd 0 false, .rd 1 false, .rd 2 false, .rd 3 false, .rd 4 false, .rd 5 false, .rd 6 false, .rd 7 true, .rd 8 false, .rd 9 false, .rd 10 false, .rd 11 true, .rd 12 false, .ef 13 [], .rd 14 false, .ef 15 []]), (10, [.rd 0 false, .rd 1 false, .rd 2 false, .rd 3 false, .rd 4 false, .rd 5 false, .rd 6 false, .rd 7 true, .rd 8 false, .rd 9 false, .rd 10 false, .rd 11 true, .rd 12 false, .ef 13 [], .rd 14 false, .ef 15 []]), (13, [.rd 0 false, .rd 1 false, .rd 2 false, .rd 3 false, .rd 4 false, .rd 5 false, .rd 6 false, .rd 7 false, .rd 8 true, .rd 9 false, .rd 10 false, .rd 11 false, .rd 12 true, .ef 13 [], .rd 14 false, .rd 15 false]), (15, [.rd 0 false, .rd 1 false, .rd 2 false, .rd 3 false, .rd 4 false, .rd 5 false, .rd 6 false, .rd 7 false, .rd 8 true, .rd 9 false, .rd 10 false, .rd 11 false, .rd 12 true, .ef 13 [], .rd 14 false, .rd 15 false, .rd 16 false]), (18, [.rd 0 false, .rd 1 false, .rd 2 false, .rd 3 false, .rd 4 false, .rd 5 false, .rd 6 false, .rd 7 true, .rd 8 false, .rd 9 false, .rd 10 false, .rd 11 true, .rd 12 false, .ef 13 [], .rd 14 false, .ef 15 []]), (21, [.rd 0 false, .rd 1 false, .rd 2 false, .rd 3 false, .rd 4 false, .rd 5 false, .rd 6 false, .rd 7 true, .rd 8 false, .rd 9 false, .rd 10 false, .rd 11 true, .rd 12 false, .ef 13 [], .rd 14 false, .ef 15 []])]⟩
noncomputable def fe153 : FE := ⟨Tryz.f153, []⟩
noncomputable def fe154 : FE := ⟨Tryz.f154, []⟩
noncomputable def fe155 : FE := ⟨Tryz.f155, []⟩
noncomputable def fe167 : FE := ⟨Tryz.f167, []⟩
noncomputable def fe168 : FE := ⟨Tryz.f168, [(3, [.rd 0 false, .rd 1 false, .rd 2 false, .rd 3 false, .rd 4 false, .rd 5 false, .rd 6 false, .rd 7 false, .rd 8 false, .rd 9 false, .rd 10 false, .rd 11 true, .rd 12 false, .rd 13 false, .rd 14 false, .rd 15 false, .rd 16 false, .rd 17 false, .rd 18 true, .ef 19 [], .rd 20 false, .rd 21 false]), (5, [.rd 0 false, .rd 1 false, .rd 2 false, .rd 3 false, .rd 4 false, .rd 5 false, .rd 6 true, .rd 7 false, .rd 8 false, .rd 9 false, .rd 10 false, .rd 11 false, .rd 12 true, .ef 13 [], .rd 14 false, .rd 15 false]), (6, [.rd 0 false, .rd 1 false, .rd 2 false, .rd 3 false, .rd 4 false, .rd 5 false, .rd 6 false, .rd 7 false, .rd 8 false, .rd 9 false, .rd 10 false, .rd 11 false, .rd 12 false, .rd 13 true, .rd 14 false, .rd 15 false, .rd 16 false, .rd 17 false, .rd 18 false, .rd 19 true, .rd 20 false, .ef 21 [], .rd 22 false, .ef 23 []])]⟩
noncomputable def fe169 : FE := ⟨Tryz.f169, []⟩
noncomputable def fe170 : FE := ⟨Tryz.f170, [(1, [.rd 0 false, .rd 1 false, .rd 2 true, .rd 3 false, .rd 4 false, .rd 5 true, .rd 6 false, .rd 7 false, .rd 8 false, .ef 9 []]), (2, [.rd 0 false, .rd 1 false, .rd 2 true, .rd 3 false, .rd 4 false, .rd 5 true, .rd 6 false, .rd 7 false, .rd 8 false, .ef 9 []]), (3, [.rd 0 false, .rd 1 false, .rd 2 true, .rd 3 false, .rd 4 false, .rd 5 true, .rd 6 false, .rd 7 false, .rd 8 false, .ef 9 []])]⟩
noncomputable def fe171 : FE := ⟨Tryz.f171, []⟩
noncomputable def fe172 : FE := ⟨Tryz.f172, []⟩
noncomputable def fe179 : FE := ⟨Tryz.f179, [(1, [.rd 0 false, .rd 1 false, .rd 2 false, .rd 3 false, .rd 4 true, .rd 5 false, .rd 6 false, .rd 7 false, .rd 8 true, .ef 9 [], .rd 10 false])]⟩

theorem feOk10 : FeOk Tryz.prog 10 fe10 := ⟨Tryz.func10, by decide, by kernel_rfl⟩
theorem feOk12 : FeOk Tryz.prog 12 fe12 := ⟨Tryz.func12, by decide, by kernel_rfl⟩
theorem feOk22 : FeOk Tryz.prog 22 fe22 := ⟨Tryz.func22, by decide, by kernel_rfl⟩
theorem feOk25 : FeOk Tryz.prog 25 fe25 := ⟨Tryz.func25, by decide, by kernel_rfl⟩
theorem feOk29 : FeOk Tryz.prog 29 fe29 := ⟨Tryz.func29, by decide, by kernel_rfl⟩
theorem feOk30 : FeOk Tryz.prog 30 fe30 := ⟨Tryz.func30, by decide, by kernel_rfl⟩
theorem feOk31 : FeOk Tryz.prog 31 fe31 := ⟨Tryz.func31, by decide, by kernel_rfl⟩
theorem feOk34 : FeOk Tryz.prog 34 fe34 := ⟨Tryz.func34, by decide, by kernel_rfl⟩
theorem feOk36 : FeOk Tryz.prog 36 fe36 := ⟨Tryz.func36, by decide, by kernel_rfl⟩
theorem feOk37 : FeOk Tryz.prog 37 fe37 := ⟨Tryz.func37, by decide, by kernel_rfl⟩
theorem feOk41 : FeOk Tryz.prog 41 fe41 := ⟨Tryz.func41, by decide, by kernel_rfl⟩
theorem feOk47 : FeOk Tryz.prog 47 fe47 := ⟨Tryz.func47, by decide, by kernel_rfl⟩
theorem feOk48 : FeOk Tryz.prog 48 fe48 := ⟨Tryz.func48, by decide, by kernel_rfl⟩
theorem feOk50 : FeOk Tryz.prog 50 fe50 := ⟨Tryz.func50, by decide, by kernel_rfl⟩
theorem feOk51 : FeOk Tryz.prog 51 fe51 := ⟨Tryz.func51, by decide, by kernel_rfl⟩
theorem feOk58 : FeOk Tryz.prog 58 fe58 := ⟨Tryz.func58, by decide, by kernel_rfl⟩
theorem feOk59 : FeOk Tryz.prog 59 fe59 := ⟨Tryz.func59, by decide, by kernel_rfl⟩
theorem feOk60 : FeOk Tryz.prog 60 fe60 := ⟨Tryz.func60, by decide, by kernel_rfl⟩
theorem feOk61 : FeOk Tryz.prog 61 fe61 := ⟨Tryz.func61, by decide, by kernel_rfl⟩
theorem feOk62 : FeOk Tryz.prog 62 fe62 := ⟨Tryz.func62, by decide, by kernel_rfl⟩
theorem feOk63 : FeOk Tryz.prog 63 fe63 := ⟨Tryz.func63, by decide, by kernel_rfl⟩
theorem feOk66 : FeOk Tryz.prog 66 fe66 := ⟨Tryz.func66, by decide, by kernel_rfl⟩
theorem feOk67 : FeOk Tryz.prog 67 fe67 := ⟨Tryz.func67, by decide, by kernel_rfl⟩
theorem feOk68 : FeOk Tryz.prog 68 fe68 := ⟨Tryz.func68, by decide, by kernel_rfl⟩
theorem feOk69 : FeOk Tryz.prog 69 fe69 := ⟨Tryz.func69, by decide, by kernel_rfl⟩
theorem feOk70 : FeOk Tryz.prog 70 fe70 := ⟨Tryz.func70, by decide, by kernel_rfl⟩
theorem feOk73 : FeOk Tryz.prog 73 fe73 := ⟨Tryz.func73, by decide, by kernel_rfl⟩
theorem feOk74 : FeOk Tryz.prog 74 fe74 := ⟨Tryz.func74, by decide, by kernel_rfl⟩
theorem feOk75 : FeOk Tryz.prog 75 fe75 := ⟨Tryz.func75, by decide, by kernel_rfl⟩
theorem feOk76 : FeOk Tryz.prog 76 fe76 := ⟨Tryz.func76, by decide, by kernel_rfl⟩
theorem feOk80 : FeOk Tryz.prog 80 fe80 := ⟨Tryz.func80, by decide, by kernel_rfl⟩
theorem feOk81 : FeOk Tryz.prog 81 fe81 := ⟨Tryz.func81, by decide, by kernel_rfl⟩
theorem feOk82 : FeOk Tryz.prog 82 fe82 := ⟨Tryz.func82, by decide, by kernel_rfl⟩
theorem feOk83 : FeOk Tryz.prog 83 fe83 := ⟨Tryz.func83, by decide, by kernel_rfl⟩
theorem feOk89 : FeOk Tryz.prog 89 fe89 := ⟨Tryz.func89, by decide, by kernel_rfl⟩
theorem feOk90 : FeOk Tryz.prog 90 fe90 := ⟨Tryz.func90, by decide, by kernel_rfl⟩
theorem feOk91 : FeOk Tryz.prog 91 fe91 := ⟨Tryz.func91, by decide, by kernel_rfl⟩
theorem feOk93 : FeOk Tryz.prog 93 fe93 := ⟨Tryz.func93, by decide, by kernel_rfl⟩
theorem feOk94 : FeOk Tryz.prog 94 fe94 := ⟨Tryz.func94, by decide, by kernel_rfl⟩
theorem feOk108 : FeOk Tryz.prog 108 fe108 := ⟨Tryz.func108, by decide, by kernel_rfl⟩
theorem feOk109 : FeOk Tryz.prog 109 fe109 := ⟨Tryz.func109, by decide, by kernel_rfl⟩
theorem feOk110 : FeOk Tryz.prog 110 fe110 := ⟨Tryz.func110, by decide, by kernel_rfl⟩
theorem feOk111 : FeOk Tryz.prog 111 fe111 := ⟨Tryz.func111, by decide, by kernel_rfl⟩
theorem feOk112 : FeOk Tryz.prog 112 fe112 := ⟨Tryz.func112, by decide, by kernel_rfl⟩
theorem feOk113 : FeOk Tryz.prog 113 fe113 := ⟨Tryz.func113, by decide, by kernel_rfl⟩
theorem feOk114 : FeOk Tryz.prog 114 fe114 := ⟨Tryz.func114, by decide, by kernel_rfl⟩
theorem feOk115 : FeOk Tryz.prog 115 fe115 := ⟨Tryz.func115, by decide, by kernel_rfl⟩
theorem feOk116 : FeOk Tryz.prog 116 fe116 := ⟨Tryz.func116, by decide, by kernel_rfl⟩
theorem feOk117 : FeOk Tryz.prog 117 fe117 := ⟨Tryz.func117, by decide, by kernel_rfl⟩
theorem feOk118 : FeOk Tryz.prog 118 fe118 := ⟨Tryz.func118, by decide, by kernel_rfl⟩
theorem feOk119 : FeOk Tryz.prog 119 fe119 := ⟨Tryz.func119, by decide, by kernel_rfl⟩
theorem feOk120 : FeOk Tryz.prog 120 fe120 := ⟨Tryz.func120, by decide, by kernel_rfl⟩
theorem feOk121 : FeOk Tryz.prog 121 fe121 := ⟨Tryz.func121, by decide, by kernel_rfl⟩
theorem feOk122 : FeOk Tryz.prog 122 fe122 := ⟨Tryz.func122, by decide, by kernel_rfl⟩
theorem feOk123 : FeOk Tryz.prog 123 fe123 := ⟨Tryz.func123, by decide, by kernel_rfl⟩
theorem feOk135 : FeOk Tryz.prog 135 fe135 := ⟨Tryz.func135, by decide, by kernel_rfl⟩
theorem feOk136 : FeOk Tryz.prog 136 fe136 := ⟨Tryz.func136, by decide, by kernel_rfl⟩
theorem feOk137 : FeOk Tryz.prog 137 fe137 := ⟨Tryz.func137, by decide, by kernel_rfl⟩
theorem feOk138 : FeOk Tryz.prog 138 fe138 := ⟨Tryz.func138, by decide, by kernel_rfl⟩
theorem feOk139 : FeOk Tryz.prog 139 fe139 := ⟨Tryz.func139, by decide, by kernel_rfl⟩
theorem feOk140 : FeOk Tryz.prog 140 fe140 := ⟨Tryz.func140, by decide, by kernel_rfl⟩
theorem feOk141 : FeOk Tryz.prog 141 fe141 := ⟨Tryz.func141, by decide, by kernel_rfl⟩
theorem feOk142 : FeOk Tryz.prog 142 fe142 := ⟨Tryz.func142, by decide, by kernel_rfl⟩
theorem feOk143 : FeOk Tryz.prog 143 fe143 := ⟨Tryz.func143, by decide, by kernel_rfl⟩
theorem feOk144 : FeOk Tryz.prog 144 fe144 := ⟨Tryz.func144, by decide, by kernel_rfl⟩
theorem feOk145 : FeOk Tryz.prog 145 fe145 := ⟨Tryz.func145, by decide, by kernel_rfl⟩
theorem feOk146 : FeOk Tryz.prog 146 fe146 := ⟨Tryz.func146, by decide, by kernel_rfl⟩
theorem feOk147 : FeOk Tryz.prog 147 fe147 := ⟨Tryz.func147, by decide, by kernel_rfl⟩
theorem feOk148 : FeOk Tryz.prog 148 fe148 := ⟨Tryz.func148, by decide, by kernel_rfl⟩
theorem feOk149 : FeOk Tryz.prog 149 fe149 := ⟨Tryz.func149, by decide, by kernel_rfl⟩
theorem feOk150 : FeOk Tryz.prog 150 fe150 := ⟨Tryz.func150, by decide, by kernel_rfl⟩
theorem feOk151 : FeOk Tryz.prog 151 fe151 := ⟨Tryz.func151, by decide, by kernel_rfl⟩
theorem feOk152 : FeOk Tryz.prog 152 fe152 := ⟨Tryz.func152, by decide, by kernel_rfl⟩
theorem feOk153 : FeOk Tryz.prog 153 fe153 := ⟨Tryz.func153, by decide, by kernel_rfl⟩
theorem feOk154 : FeOk Tryz.prog 154 fe154 := ⟨Tryz.func154, by decide, by kernel_rfl⟩
theorem feOk155 : FeOk Tryz.prog 155 fe155 := ⟨Tryz.func155, by decide, by kernel_rfl⟩
theorem feOk167 : FeOk Tryz.prog 167 fe167 := ⟨Tryz.func167, by decide, by kernel_rfl⟩
theorem feOk168 : FeOk Tryz.prog 168 fe168 := ⟨Tryz.func168, by decide, by kernel_rfl⟩
theorem feOk169 : FeOk Tryz.prog 169 fe169 := ⟨Tryz.func169, by decide, by kernel_rfl⟩
theorem feOk170 : FeOk Tryz.prog 170 fe170 := ⟨Tryz.func170, by decide, by kernel_rfl⟩
theorem feOk171 : FeOk Tryz.prog 171 fe171 := ⟨Tryz.func171, by decide, by kernel_rfl⟩
theorem feOk172 : FeOk Tryz.prog 172 fe172 := ⟨Tryz.func172, by decide, by kernel_rfl⟩
theorem feOk179 : FeOk Tryz.prog 179 fe179 := ⟨Tryz.func179, by decide, by kernel_rfl⟩
noncomputable def ftT : Tr FE := (.n (.n (.n (.n (.n .e (.n (.n (.n .e (.n (.n (.l fe144) .e) .e)) (.n (.n (.n (.l fe80) .e) .e) .e)) (.n (.n (.n (.n (.l fe48) .e) .e) .e) (.n (.n (.n (.l fe112) .e) .e) .e)))) (.n (.n (.n (.n .e (.n (.n (.l fe136) .e) .e)) .e) (.n (.n .e (.n (.n (.l fe168) .e) .e)) .e)) (.n (.n (.n .e (.n (.n (.l fe152) .e) .e)) .e) (.n .e (.n (.n (.n (.l fe120) .e) .e) .e))))) (.n (.n (.n (.n .e (.n (.n (.n (.l fe68) .e) .e) .e)) (.n (.n (.n (.n (.l fe36) .e) .e) .e) .e)) (.n (.n (.n .e (.n (.n (.l fe148) .e) .e)) .e) (.n .e (.n (.n (.n (.l fe116) .e) .e) .e)))) (.n (.n (.n (.n (.n (.n (.l fe12) .e) .e) (.n (.n (.l fe140) .e) .e)) (.n (.n (.n (.l fe76) .e) .e) .e)) (.n (.n .e (.n (.n (.l fe172) .e) .e)) (.n (.n (.n (.l fe108) .e) .e) .e))) (.n .e (.n (.n (.n (.n (.l fe60) .e) .e) .e) .e))))) (.n (.n (.n (.n (.n .e (.n (.n (.n (.l fe66) .e) .e) .e)) (.n (.n (.n (.n (.l fe34) .e) .e) .e) .e)) (.n (.n (.n .e (.n (.n (.l fe146) .e) .e)) (.n (.n (.n (.l fe82) .e) .e) .e)) (.n (.n (.n (.n (.l fe50) .e) .e) .e) (.n (.n (.n (.l fe114) .e) .e) .e)))) (.n (.n (.n (.n (.n (.n (.l fe10) .e) .e) (.n (.n (.l fe138) .e) .e)) (.n (.n (.n (.l fe74) .e) .e) .e)) (.n (.n .e (.n (.n (.l fe170) .e) .e)) .e)) (.n (.n (.n .e (.n (.n (.l fe154) .e) .e)) (.n (.n (.n (.l fe90) .e) .e) .e)) (.n (.n (.n (.n (.l fe58) .e) .e) .e) (.n (.n (.n (.l fe122) .e) .e) .e))))) (.n (.n (.n (.n .e (.n (.n (.n (.l fe70) .e) .e) .e)) .e) (.n (.n (.n (.n (.n (.l fe22) .e) .e) (.n (.n (.l fe150) .e) .e)) .e) (.n .e (.n (.n (.n (.l fe118) .e) .e) .e)))) (.n (.n (.n (.n .e (.n (.n (.l fe142) .e) .e)) .e) (.n .e (.n (.n (.n (.l fe110) .e) .e) .e))) (.n (.n (.n (.n (.n (.l fe30) .e) .e) .e) (.n (.n (.n (.l fe94) .e) .e) .e)) (.n (.n (.n (.n (.l fe62) .e) .e) .e) .e)))))) (.n (.n (.n (.n .e (.n (.n (.n .e (.n (.n (.l fe145) .e) .e)) (.n (.n (.n (.l fe81) .e) .e) .e)) (.n .e (.n (.n (.n (.l fe113) .e) .e) .e)))) (.n (.n (.n (.n .e (.n (.n (.l fe137) .e) .e)) (.n (.n (.n (.l fe73) .e) .e) .e)) (.n (.n (.n (.n (.l fe41) .e) .e) (.n (.n (.l fe169) .e) .e)) .e)) (.n (.n (.n (.n (.n (.l fe25) .e) .e) (.n (.n (.l fe153) .e) .e)) (.n (.n (.n (.l fe89) .e) .e) .e)) (.n .e (.n (.n (.n (.l fe121) .e) .e) .e))))) (.n (.n (.n (.n .e (.n (.n (.n (.l fe69) .e) .e) .e)) (.n (.n (.n (.n (.l fe37) .e) .e) .e) .e)) (.n (.n (.n .e (.n (.n (.l fe149) .e) .e)) .e) (.n .e (.n (.n (.n (.l fe117) .e) .e) .e)))) (.n (.n (.n (.n .e (.n (.n (.l fe141) .e) .e)) .e) (.n .e (.n (.n (.n (.l fe109) .e) .e) .e))) (.n (.n (.n (.n (.n (.l fe29) .e) .e) .e) (.n (.n (.n (.l fe93) .e) .e) .e)) (.n (.n (.n (.n (.l fe61) .e) .e) .e) .e))))) (.n (.n (.n (.n (.n .e (.n (.n (.n (.l fe67) .e) .e) .e)) .e) (.n (.n (.n .e (.n (.n (.l fe147) .e) .e)) (.n (.n (.n (.l fe83) .e) .e) .e)) (.n (.n (.n (.n (.l fe51) .e) .e) (.n (.n (.l fe179) .e) .e)) (.n (.n (.n (.l fe115) .e) .e) .e)))) (.n (.n (.n (.n .e (.n (.n (.l fe139) .e) .e)) (.n (.n (.n (.l fe75) .e) .e) .e)) (.n (.n .e (.n (.n (.l fe171) .e) .e)) .e)) (.n (.n (.n .e (.n (.n (.l fe155) .e) .e)) (.n (.n (.n (.l fe91) .e) .e) .e)) (.n (.n (.n (.n (.l fe59) .e) .e) .e) (.n (.n (.n (.l fe123) .e) .e) .e))))) (.n (.n (.n (.n (.n .e (.n (.n (.l fe135) .e) .e)) .e) (.n (.n .e (.n (.n (.l fe167) .e) .e)) .e)) (.n (.n (.n .e (.n (.n (.l fe151) .e) .e)) .e) (.n .e (.n (.n (.n (.l fe119) .e) .e) .e)))) (.n (.n (.n (.n .e (.n (.n (.l fe143) .e) .e)) .e) (.n (.n (.n (.n (.l fe47) .e) .e) .e) (.n (.n (.n (.l fe111) .e) .e) .e))) (.n (.n (.n (.n (.n (.l fe31) .e) .e) .e) .e) (.n (.n (.n (.n (.l fe63) .e) .e) .e) .e)))))))
theorem ftOk : ftT.All 10 (FeOk Tryz.prog) := ⟨⟨⟨⟨⟨trivial, ⟨⟨⟨trivial, ⟨⟨feOk144, trivial⟩, trivial⟩⟩, ⟨⟨⟨feOk80, trivial⟩, trivial⟩, trivial⟩⟩, ⟨⟨⟨⟨feOk48, trivial⟩, trivial⟩, trivial⟩, ⟨⟨⟨feOk112, trivial⟩, trivial⟩, trivial⟩⟩⟩⟩, ⟨⟨⟨⟨trivial, ⟨⟨feOk136, trivial⟩, trivial⟩⟩, trivial⟩, ⟨⟨trivial, ⟨⟨feOk168, trivial⟩, trivial⟩⟩, trivial⟩⟩, ⟨⟨⟨trivial, ⟨⟨feOk152, trivial⟩, trivial⟩⟩, trivial⟩, ⟨trivial, ⟨⟨⟨feOk120, trivial⟩, trivial⟩, trivial⟩⟩⟩⟩⟩, ⟨⟨⟨⟨trivial, ⟨⟨⟨feOk68, trivial⟩, trivial⟩, trivial⟩⟩, ⟨⟨⟨⟨feOk36, trivial⟩, trivial⟩, trivial⟩, trivial⟩⟩, ⟨⟨⟨trivial, ⟨⟨feOk148, trivial⟩, trivial⟩⟩, trivial⟩, ⟨trivial, ⟨⟨⟨feOk116, trivial⟩, trivial⟩, trivial⟩⟩⟩⟩, ⟨⟨⟨⟨⟨⟨feOk12, trivial⟩, trivial⟩, ⟨⟨feOk140, trivial⟩, trivial⟩⟩, ⟨⟨⟨feOk76, trivial⟩, trivial⟩, trivial⟩⟩, ⟨⟨trivial, ⟨⟨feOk172, trivial⟩, trivial⟩⟩, ⟨⟨⟨feOk108, trivial⟩, trivial⟩, trivial⟩⟩⟩, ⟨trivial, ⟨⟨⟨⟨feOk60, trivial⟩, trivial⟩, trivial⟩, trivial⟩⟩⟩⟩⟩, ⟨⟨⟨⟨⟨trivial, ⟨⟨⟨feOk66, trivial⟩, trivial⟩, trivial⟩⟩, ⟨⟨⟨⟨feOk34, trivial⟩, trivial⟩, trivial⟩, trivial⟩⟩, ⟨⟨⟨trivial, ⟨⟨feOk146, trivial⟩, trivial⟩⟩, ⟨⟨⟨feOk82, trivial⟩, trivial⟩, trivial⟩⟩, ⟨⟨⟨⟨feOk50, trivial⟩, trivial⟩, trivial⟩, ⟨⟨⟨feOk114, trivial⟩, trivial⟩, trivial⟩⟩⟩⟩, ⟨⟨⟨⟨⟨⟨feOk10, trivial⟩, trivial⟩, ⟨⟨feOk138, trivial⟩, trivial⟩⟩, ⟨⟨⟨feOk74, trivial⟩, trivial⟩, trivial⟩⟩, ⟨⟨trivial, ⟨⟨feOk170, trivial⟩, trivial⟩⟩, trivial⟩⟩, ⟨⟨⟨trivial, ⟨⟨feOk154, trivial⟩, trivial⟩⟩, ⟨⟨⟨feOk90, trivial⟩, trivial⟩, trivial⟩⟩, ⟨⟨⟨⟨feOk58, trivial⟩, trivial⟩, trivial⟩, ⟨⟨⟨feOk122, trivial⟩, trivial⟩, trivial⟩⟩⟩⟩⟩, ⟨⟨⟨⟨trivial, ⟨⟨⟨feOk70, trivial⟩, trivial⟩, trivial⟩⟩, trivial⟩, ⟨⟨⟨⟨⟨feOk22, trivial⟩, trivial⟩, ⟨⟨feOk150, trivial⟩, trivial⟩⟩, trivial⟩, ⟨trivial, ⟨⟨⟨feOk118, trivial⟩, trivial⟩, trivial⟩⟩⟩⟩, ⟨⟨⟨⟨trivial, ⟨⟨feOk142, trivial⟩, trivial⟩⟩, trivial⟩, ⟨trivial, ⟨⟨⟨feOk110, trivial⟩, trivial⟩, trivial⟩⟩⟩, ⟨⟨⟨⟨⟨feOk30, trivial⟩, trivial⟩, trivial⟩, ⟨⟨⟨feOk94, trivial⟩, trivial⟩, trivial⟩⟩, ⟨⟨⟨⟨feOk62, trivial⟩, trivial⟩, trivial⟩, trivial⟩⟩⟩⟩⟩⟩, ⟨⟨⟨⟨trivial, ⟨⟨⟨trivial, ⟨⟨feOk145, trivial⟩, trivial⟩⟩, ⟨⟨⟨feOk81, trivial⟩, trivial⟩, trivial⟩⟩, ⟨trivial, ⟨⟨⟨feOk113, trivial⟩, trivial⟩, trivial⟩⟩⟩⟩, ⟨⟨⟨⟨trivial, ⟨⟨feOk137, trivial⟩, trivial⟩⟩, ⟨⟨⟨feOk73, trivial⟩, trivial⟩, trivial⟩⟩, ⟨⟨⟨⟨feOk41, trivial⟩, trivial⟩, ⟨⟨feOk169, trivial⟩, trivial⟩⟩, trivial⟩⟩, ⟨⟨⟨⟨⟨feOk25, trivial⟩, trivial⟩, ⟨⟨feOk153, trivial⟩, trivial⟩⟩, ⟨⟨⟨feOk89, trivial⟩, trivial⟩, trivial⟩⟩, ⟨trivial, ⟨⟨⟨feOk121, trivial⟩, trivial⟩, trivial⟩⟩⟩⟩⟩, ⟨⟨⟨⟨trivial, ⟨⟨⟨feOk69, trivial⟩, trivial⟩, trivial⟩⟩, ⟨⟨⟨⟨feOk37, trivial⟩, trivial⟩, trivial⟩, trivial⟩⟩, ⟨⟨⟨trivial, ⟨⟨feOk149, trivial⟩, trivial⟩⟩, trivial⟩, ⟨trivial, ⟨⟨⟨feOk117, trivial⟩, trivial⟩, trivial⟩⟩⟩⟩, ⟨⟨⟨⟨trivial, ⟨⟨feOk141, trivial⟩, trivial⟩⟩, trivial⟩, ⟨trivial, ⟨⟨⟨feOk109, trivial⟩, trivial⟩, trivial⟩⟩⟩, ⟨⟨⟨⟨⟨feOk29, trivial⟩, trivial⟩, trivial⟩, ⟨⟨⟨feOk93, trivial⟩, trivial⟩, trivial⟩⟩, ⟨⟨⟨⟨feOk61, trivial⟩, trivial⟩, trivial⟩, trivial⟩⟩⟩⟩⟩, ⟨⟨⟨⟨⟨trivial, ⟨⟨⟨feOk67, trivial⟩, trivial⟩, trivial⟩⟩, trivial⟩, ⟨⟨⟨trivial, ⟨⟨feOk147, trivial⟩, trivial⟩⟩, ⟨⟨⟨feOk83, trivial⟩, trivial⟩, trivial⟩⟩, ⟨⟨⟨⟨feOk51, trivial⟩, trivial⟩, ⟨⟨feOk179, trivial⟩, trivial⟩⟩, ⟨⟨⟨feOk115, trivial⟩, trivial⟩, trivial⟩⟩⟩⟩, ⟨⟨⟨⟨trivial, ⟨⟨feOk139, trivial⟩, trivial⟩⟩, ⟨⟨⟨feOk75, trivial⟩, trivial⟩, trivial⟩⟩, ⟨⟨trivial, ⟨⟨feOk171, trivial⟩, trivial⟩⟩, trivial⟩⟩, ⟨⟨⟨trivial, ⟨⟨feOk155, trivial⟩, trivial⟩⟩, ⟨⟨⟨feOk91, trivial⟩, trivial⟩, trivial⟩⟩, ⟨⟨⟨⟨feOk59, trivial⟩, trivial⟩, trivial⟩, ⟨⟨⟨feOk123, trivial⟩, trivial⟩, trivial⟩⟩⟩⟩⟩, ⟨⟨⟨⟨⟨trivial, ⟨⟨feOk135, trivial⟩, trivial⟩⟩, trivial⟩, ⟨⟨trivial, ⟨⟨feOk167, trivial⟩, trivial⟩⟩, trivial⟩⟩, ⟨⟨⟨trivial, ⟨⟨feOk151, trivial⟩, trivial⟩⟩, trivial⟩, ⟨trivial, ⟨⟨⟨feOk119, trivial⟩, trivial⟩, trivial⟩⟩⟩⟩, ⟨⟨⟨⟨trivial, ⟨⟨feOk143, trivial⟩, trivial⟩⟩, trivial⟩, ⟨⟨⟨⟨feOk47, trivial⟩, trivial⟩, trivial⟩, ⟨⟨⟨feOk111, trivial⟩, trivial⟩, trivial⟩⟩⟩, ⟨⟨⟨⟨⟨feOk31, trivial⟩, trivial⟩, trivial⟩, trivial⟩, ⟨⟨⟨⟨feOk63, trivial⟩, trivial⟩, trivial⟩, trivial⟩⟩⟩⟩⟩⟩⟩
end Go.Proofs.YthdfpankebjleaaGreat

/-
  A deferred function that does nothing; the tables are good.
  Conditions: none.
-/
namespace Go.Proofs.YthdfpankebjleaaGreat
open Go Go.Av

theorem idle67 (vs : Array Value) : IdleF Tryz.prog 67 vs := fun w => by
  refine callsDIn_of_wpSIn Tryz.func67 rfl trivial fun c₀ cs hu => ?_
  have hsz : 14 ≤ (vs ++ Array.replicate (14 - vs.size) undef).size := by simp; omega
  rw [show Tryz.f67.ntmps = 14 from rfl]
  revert hsz
  generalize vs ++ Array.replicate (14 - vs.size) undef = tm
  intro hsz
  apply wpSIn_seq
  apply wpSIn_region
  simp [wpOpsSIn, go_sem, recoverD, hu, Exit.thenS]
  apply wpSIn_seq
  apply wpSIn_region
  have h3 : 3 < tm.size := by omega
  have h5 : 5 < tm.size := by omega
  have h6 : 6 < tm.size := by omega
  have h7 : 7 < tm.size := by omega
  simp [wpOpsSIn, go_sem, Exit.thenS, h3, h5, h6, h7, Act.eval, Act.put]
  refine wpSIn_cond (t := false) (by simp [Act.eval, h3, h5, h6, h7]) ?_
  simp only [Bool.false_eq_true, if_false]
  refine wpSIn_of_wpIn rfl (wpIn_skip ?_)
  cases c₀
  simp_all [bodyPostS, results, show Tryz.f67.results = #[] from rfl]
theorem prOk : PrOk Tryz.prog tyT ftT (fun f => Nat.beq f 67) where
  mx := by kernel_rfl
  ty := fun t e ht he => Tr.all_get tyOk (by simpa using ht) he
  ft := fun t e ht he => Tr.all_get ftOk (by simpa using ht) he
  idle := fun f hf => by
    rw [beq_iff] at hf
    subst hf
    exact ⟨⟨_, Tryz.func67, rfl, by decide⟩, idle67⟩
end Go.Proofs.YthdfpankebjleaaGreat

/-
  The examples of the statements on plans are as they should be.
  Conditions: none.
-/
namespace Go.Proofs.YthdfpankebjleaaGreat
open Go Go.Av
theorem runL : run Tryz.prog tyT ftT (fun f => Nat.beq f 67) 100000 40 25 [] = some (.v (.bool true)) := by kernel_rfl
theorem live_at {σ : St} : AT Tryz.prog 25 [] σ fun r σ' => r = .v (.bool true) ∧ σ' = σ :=
  run_ok prOk runL (by kernel_rfl) (fun _ => .v (.bool false)) (fun _ => ⟨rfl, rfl⟩) (by simp only [RS.wfs])
end Go.Proofs.YthdfpankebjleaaGreat

/-
  The example of the statements on models is as it should be.
  Conditions: none.
-/
namespace Go.Proofs.YthdfpankebjleaaGreat
open Go Go.Av
theorem runM : run Tryz.prog tyT ftT (fun f => Nat.beq f 67) 100000 40 10 [] = some (.v (.bool true)) := by kernel_rfl
theorem mlive_at {σ : St} : AT Tryz.prog 10 [] σ fun r σ' => r = .v (.bool true) ∧ σ' = σ :=
  run_ok prOk runM (by kernel_rfl) (fun _ => .v (.bool false)) (fun _ => ⟨rfl, rfl⟩) (by simp only [RS.wfs])
end Go.Proofs.YthdfpankebjleaaGreat

/-
  What the document finds and what the program finds are the same.
  Conditions: none.
-/
namespace Go.Proofs.YthdfpankebjleaaGreat
open Go Go.Av

def docF (r : Rl) (me : ByteArray) (first : Int) (f : Fa) (l : List Fa) : List (List Fa) × Nat :=
  match uniF r.ho (nmC me) [] with
  | some env => frm r.ho (lsF r first f l 0 r.bo.length) env [] ([], 0)
  | none => ([], 0)
theorem ordR_perm (r : Rl) (first : Int) : (ordR r first).Perm (List.range' 0 r.bo.length) := by
  obtain ⟨h1, h2, _⟩ := ordR_ok r first
  refine (List.perm_ext_iff_of_nodup h1.1 (by simp [List.nodup_range'])).2 fun k => ?_
  rw [List.mem_range'_1]
  constructor
  · intro hk; have := h1.2 k hk; omega
  · intro hk
    refine Classical.byContradiction fun hn => ?_
    have : Perm r.bo.length (k :: ordR r first) := ⟨List.nodup_cons.2 ⟨hn, h1.1⟩, fun j hj => by
      rcases List.mem_cons.1 hj with rfl | hj
      · omega
      · exact h1.2 j hj⟩
    have := perm_len _ _ this
    simp only [List.length_cons] at this
    omega
theorem insS_perm {α : Type} {c : α → α → Int} (h : Ord3 c) {l m : List α} (hp : ∀ y, y ∈ l ↔ y ∈ m) : insS c [] l = insS c [] m :=
  rises_ext h (insS_rises h .nil) (insS_rises h .nil) fun y => by rw [insS_mem h, insS_mem h, hp]
theorem doc_bod {r : Rl} {me : ByteArray} {first : Int} {f : Fa} {l : List Fa} (h : (docF r me first f l).2 ≤ 30000) : (docF r me first f l).1 = bodF r me first f l ∧ (fndP r me first f l).length ≤ 30001 := by
  unfold docF bodF fndP at *
  cases hu : uniF r.ho (nmC me) [] with
  | none => exact ⟨rfl, by simp⟩
  | some env =>
    rw [hu] at h
    simp only at h ⊢
    obtain ⟨h1, h2⟩ := frm_ok r.ho (lsF r first f l 0 r.bo.length) env [] ([], 0) h
    have e1 := each_lv r.ho r.bo (candF first f l) r.bo.length 0 env (List.replicate r.bo.length .zero) (by simp)
    rw [List.take_zero] at e1
    have hp := each_perm (ho := r.ho) (bo := r.bo) (cand := candF first f l) (ordR_perm r first) (ordR_nodup r first) env (List.replicate r.bo.length .zero)
    rw [e1] at hp
    have e2 : lvF r.ho (lsF r first f l 0 r.bo.length) env [] = lvF r.ho ((List.range' 0 r.bo.length).map fun i => (r.bo.getD i .zero, candF first f l i)) env [] := rfl
    refine ⟨by rw [h1, e2]; exact insS_perm cmpB_ord fun y => hp.mem_iff.symm, ?_⟩
    rw [hp.length_eq, ← e2]
    simp only at h2
    split at h2 <;> omega
/-- A case, as it lies in memory. -/
def caC (r : Rl) (me : ByteArray) (first : Int) (f : Fa) (lv : AV) : List AV := r.cs ++ str me :: int first :: (f.cs ++ [lv])
section
variable (r : Rl) (me : ByteArray) (first : Int) (f : Fa) (lv : AV)
@[go_sem] theorem caC_len : (caC r me first f lv).length = 18 := rfl
@[go_sem] theorem caC_take : (caC r me first f lv).take 18 = caC r me first f lv := rfl
@[go_sem] theorem caC_0 : (caC r me first f lv).take 11 = r.cs := rfl
@[go_sem] theorem caC_11 : (caC r me first f lv).getD 11 (.v undef) = str me := rfl
@[go_sem] theorem caC_12 : (caC r me first f lv).getD 12 (.v undef) = int first := rfl
@[go_sem] theorem caC_13 : ((caC r me first f lv).drop 13).take 4 = f.cs := rfl
@[go_sem] theorem caC_17 : (caC r me first f lv).getD 17 (.v undef) = lv := rfl
@[go_sem] theorem caC_17s (w : AV) : splice (caC r me first f lv) 17 [w] = caC r me first f w := rfl
@[go_sem] theorem caC_12s (k : Int) : splice (caC r me first f lv) 12 [int k] = caC r me k f lv := rfl
@[go_sem] theorem caC_app (l : List AV) (h : l.length = 18) : caC r me first f lv ++ l.drop 18 = caC r me first f lv := by rw [List.drop_eq_nil_of_le (by omega), List.append_nil]
theorem caC_one (h : lv.one = true) : (caC r me first f lv).all AV.one = true := by
  unfold caC
  simp only [List.all_append, List.all_cons, h, List.all_nil, Rl.one, Fa.one]
  rfl
end
section
variable {β σ : St} {x : Nat}
theorem rbodies_at (r : Rl) (me : ByteArray) (first : Int) (f : Fa) (l : List Fa) (hr : r.S3) (hf : f.Sm) (hl : l.length ≤ 1000000) (hls : ∀ y ∈ l, y.Sm) (h : FI β σ x [] 0) : AT Tryz.prog 49 [ptr x, .agg r.cs, str me, int first, .agg f.cs, .sl 4 (faC l)] σ fun _ σ' => FI β σ' x (docF r me first f l).1 (docF r me first f l).2 := by
  refine AT.of_body Tryz.func49 rfl (by decide) (by kernel_rfl) (by kernel_rfl) (Nat.le_of_ble_eq_true rfl) ?_
  simp only [go_sem]
  refine Ctx.nil.alloc fun p σ1 c1 => ?_
  simp only [go_sem]
  refine c1.alloc fun q σ2 c2 => ?_
  simp only [go_sem]
  refine aDraw_plan [.rd 0 false, .rd 1 true, .rd 2 false, .ef 3 [1], .ef 4 [], .rd 5 false, .rd 6 false, .rd 7 false, .rd 8 false, .rd 9 false] (by kernel_rfl) (by kernel_rfl) (by kernel_rfl) ?_
  simp only [go_sem, c2.g1]
  refine (name_at me).mono ?_
  rintro _ σ2 ⟨rfl, rfl⟩
  simp only [go_sem, c2.g1]
  refine (AT.weak (runify_at r.ho (nmC me) [] (by simp)) (vws_same (vws_same (vws_cons (.nil 4) vws_nil)))).mono ?_
  rintro _ σ2 ⟨rfl, rfl⟩
  have h2 := h.mono c2.sub
  cases hu : uniF r.ho (nmC me) [] with
  | none =>
    have e : docF r me first f l = ([], 0) := by unfold docF; rw [hu]
    rw [e]
    simp only [go_sem]
    exact aRet_as (r := .tup []) rfl h2
  | some env =>
    have e : docF r me first f l = frm r.ho (lsF r first f l 0 r.bo.length) env [] ([], 0) := by unfold docF; rw [hu]
    rw [e]
    have hel := uni_len hu
    simp only [List.length_nil] at hel
    simp only [go_sem, c2.g1]
    refine (AT.weak (from_at r first f l hr hf hl hls r.bo.length 0 (env := env) (got := []) (by omega) rfl (by omega) (fun y hy => by cases hy) h2 (by simp) (by omega) (fun a ha => by cases ha)) (vws_same (vws_same (vws_same (vws_same (vws_same (vws_same (vws_cons (.nil 4) vws_nil)))))))).mono ?_
    intro _ σ3 h3
    simp only [go_sem]
    exact aRet_as (r := .tup []) rfl h3
/-- What a case must be, so that it is gone into. -/
def Small (r : Rl) (f : Fa) (l : List Fa) : Prop := r.S3 ∧ f.Sm ∧ l.length ≤ 1000 ∧ ∀ y ∈ l, y.Sm
theorem found_at (r : Rl) (me : ByteArray) (first : Int) (f : Fa) (l : List Fa) (hr : r.Wf) (hf : f.Wf) (hl : l.length ≤ 140737488351232) (hls : ∀ y ∈ l, y.Wf) : AT Tryz.prog 24 [.agg (caC r me first f (.sl 4 (faC l)))] σ fun v σ' => σ' = σ ∧ ∃ (o : List (List Fa)) (ok : Bool), v = .tup [.sl 1 (boC o), boo ok] ∧ (ok = true → Small r f l ∧ o = (docF r me first f l).1 ∧ (docF r me first f l).2 ≤ 30000 ∧ r.ar.length ≤ 1000) := by
  refine AT.of_body Tryz.func24 rfl (by decide) (by kernel_rfl) (by kernel_rfl) (Nat.le_of_ble_eq_true rfl) ?_
  have hone := caC_one r me first f (.sl 4 (faC l)) rfl
  simp only [go_sem, hone]
  refine Ctx.nil.alloc fun p σ1 c1 => ?_
  have no : ∀ {fr : Fr}, aResult Tryz.prog fr σ1 (Tryz.f24).results.toList = some (.tup [nilS, boo false]) → aRet Tryz.prog (fun v σ' => σ' = σ ∧ ∃ (o : List (List Fa)) (ok : Bool), v = .tup [.sl 1 (boC o), boo ok] ∧ (ok = true → Small r f l ∧ o = (docF r me first f l).1 ∧ (docF r me first f l).2 ≤ 30000 ∧ r.ar.length ≤ 1000)) (Tryz.f24).results.toList fr σ1 := fun hr =>
    aRet_view hr (.tup [.sl 1 (boC []), boo false]) σ (ret_nil2 c1.sub _) ⟨rfl, [], false, rfl, fun h => by cases h⟩
  simp only [go_sem, c1.g0]
  refine (AT.weak (weight_at [r] 100 (by simp) (fun x hx => by simp at hx; subst hx; exact hr) (by omega) (by omega)) fsl_weak).mono ?_
  rintro _ σ1 ⟨⟨w1, rfl, hw1⟩, rfl⟩
  by_cases g1 : 100 < w1
  · have d := decide_eq_true g1
    simp only [go_sem, d]
    exact no rfl
  · have hw1 := hw1 (by omega) r (by simp)
    simp only [go_sem, decide_eq_false g1, c1.g0]
    refine (fweight_at l 100 hl hls (by omega) (by omega)).mono ?_
    rintro _ σ1 ⟨⟨w2, rfl, hw2⟩, rfl⟩
    by_cases g2 : 100 < w2
    · have d := decide_eq_true g2
      simp only [go_sem, d]
      exact no rfl
    · have hw2 := hw2 (by omega)
      simp only [go_sem, decide_eq_false g2, c1.g0]
      refine (AT.weak (fweight_at [f] 100 (by simp) (fun x hx => by simp at hx; subst hx; exact hf) (by omega) (by omega)) fsl_weak).mono ?_
      rintro _ σ1 ⟨⟨w3, rfl, hw3⟩, rfl⟩
      by_cases g3 : 100 < w3
      · have d := decide_eq_true g3
        simp only [go_sem, d]
        exact no rfl
      · have hw3 := (hw3 (by omega)).2 f (by simp)
        have hS : Small r f l := ⟨⟨by have := hw1.2.1; omega, fun y hy => by have := hw1.2.2 y hy; omega⟩, by unfold Fa.Sm; omega, by omega, fun y hy => by have := hw2.2 y hy; unfold Fa.Sm; omega⟩
        simp only [go_sem, decide_eq_false g3]
        refine c1.alloc fun t24 σ2 c2 => ?_
        have hF : FI σ σ2 t24 [] 0 := ⟨nilS, by rw [c2.g0]; rfl, .none, fun y o hy => ⟨c2.sub _ _ hy, fun e => (by have := c2.f0; rw [← e, hy] at this; cases this), own_no_nil⟩⟩
        simp only [go_sem, c2.g1]
        refine (rbodies_at r me first f l hS.1 hS.2.1 (by have := hS.2.2.1; omega) hS.2.2.2 hF).mono ?_
        rintro _ σ3 ⟨lv, k1, k2, k3⟩
        simp only [go_sem]
        refine aDraw_plan [.rd 0 false, .rd 1 false, .rd 2 false, .rd 3 true, .rd 4 false, .rd 5 false, .rd 6 false, .rd 7 true, .rd 8 false, .rd 9 false, .rd 10 false] (by kernel_rfl) (by kernel_rfl) (by kernel_rfl) ?_
        simp only [go_sem, k1]
        refine aRet_view (r := .tup [lv, boo (!decide (30000 < (docF r me first f l).2))]) rfl (.tup [.sl 1 (boC (docF r me first f l).1), boo (!decide (30000 < (docF r me first f l).2))]) σ (ret_sl2 k2 (fun y o hy => ⟨(k3 y o hy).1, (k3 y o hy).2.2⟩) _) ⟨rfl, _, _, rfl, fun h => ⟨hS, rfl, ?_, by have := hw1.1; omega⟩⟩
        simp at h
        omega
theorem lbodies_at (r : Rl) (me : ByteArray) (first : Int) (f : Fa) (l : List Fa) (hS : Small r f l) (hn : (fndP r me first f l).length ≤ 1000000) : AT Tryz.prog 26 [.agg (caC r me first f (.sl 4 (faC l)))] σ fun v σ' => PB σ σ' v (bodF r me first f l) := by
  refine AT.of_body Tryz.func26 rfl (by decide) (by kernel_rfl) (by kernel_rfl) (Nat.le_of_ble_eq_true rfl) ?_
  have hone := caC_one r me first f (.sl 4 (faC l)) rfl
  simp only [go_sem, hone]
  refine Ctx.nil.alloc fun p σ1 c1 => ?_
  simp only [go_sem, c1.g0]
  refine (bodies_at r me first f l hS.1 hS.2.1 (by have := hS.2.2.1; omega) hS.2.2.2 hn).mono ?_
  rintro v σ2 ⟨h1, h2, es, h3, h4, h5⟩
  simp only [go_sem]
  refine aRet_as (r := v) rfl ⟨fun y o hy => h1 _ _ (c1.sub _ _ hy), fun y hy => none_of_sub c1.sub (h2 y hy), es, h3, h4, fun i hi => ?_⟩
  obtain ⟨w, k1, k2⟩ := h5 i hi
  refine ⟨w, k1, ?_⟩
  rcases k2 with k2 | ⟨c, cap, e1, e2, e3, es', e4, e5, e6⟩
  · exact .inl k2
  · refine .inr ⟨c, cap, e1, e2, none_of_sub c1.sub e3, es', e4, e5, fun j hj => ?_⟩
    obtain ⟨a, a1, a2 | a2⟩ := e6 j hj
    · exact ⟨a, a1, .inl a2⟩
    · exact ⟨a, a1, .inr ⟨a2.1, fun y hy => none_of_sub c1.sub (a2.2 y hy)⟩⟩
/-- The same, the bodies seen as lists. -/
theorem wbodies_at (r : Rl) (me : ByteArray) (first : Int) (f : Fa) (l : List Fa) (hS : Small r f l) (hn : (fndP r me first f l).length ≤ 1000000) : AT Tryz.prog 26 [.agg (caC r me first f (.sl 4 (faC l)))] σ fun v σ' => v = .sl 1 (boC (bodF r me first f l)) ∧ σ' = σ :=
  (lbodies_at r me first f l hS hn).post (by kernel_rfl) fun v σ' h => ⟨_, _, h.view, rfl, rfl⟩
end
end Go.Proofs.YthdfpankebjleaaGreat
