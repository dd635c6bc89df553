/-
  The program logic, part 23: runs that are reckoned: more operations.
  Conditions: none (a library of definitions and lemmas).
-/
import Derived.Test.YthdfpankebjleaaAvRunC
set_option linter.unusedVariables false
set_option linter.unusedSimpArgs false
namespace Go.Av
open Go Go.RowKit

section
variable {P : Program} {σ0 σ : St} {c c' : Cx} {h h' : Sto} {n : Nat} {fr : Tr RS} {v : RS} {K : AV → Prop} {k : AV → St → Prop}
/-! ### addresses, fields, indexes -/
def eNil : RS → Option RS
  | .ptr i o => some (.ptr i o)
  | .fp cs => some (.fp cs)
  | .rp i k j f => some (.rp i k j f)
  | .fn f fi ca => some (.fn f fi ca)
  | .yld l => some (.yld l)
  | _ => none
theorem eNil_ok {x : RS} (he : eNil x = some v) (hk : K (v.iv c)) : aNil (x.iv c) K := by
  cases x <;> first | (cases he; done) | (simp only [eNil, Option.some.injEq] at he; subst he; simpa only [RS.iv, RS.vv, aNil] using hk)
theorem eNil_wf {x : RS} (hx : x.wf n) (he : eNil x = some v) : v.wf n := by
  cases x <;> first | (cases he; done) | (simp only [eNil, Option.some.injEq] at he; subst he; exact hx)
def eFadr (i : TK) (f : Nat) (x : RS) : Option RS := match i.td with
  | .st fs => match fs[f]? with
    | some (off, sz, _) => gd (Nat.blt 0 sz) (match x with
      | .ptr b p => some (.ptr b (p + off))
      | .fp cs => gd (Nat.ble off cs.length) (some (.fp (cs.drop off)))
      | .rp b q j g => some (.rp b q j (g + off))
      | _ => none)
    | none => none
  | _ => none
theorem eFadr_ok {i : TK} {f : Nat} {x : RS} (he : eFadr i f x = some v) (hk : K (v.iv c)) : aFadr (some i) f (x.iv c) K := by
  unfold eFadr at he
  simp only [aFadr]
  split at he
  · rename_i fs htd
    simp only [htd]
    split at he
    · rename_i off sz bb hf
      simp only [hf]
      rw [gd_some, blt_iff] at he
      obtain ⟨h1, he⟩ := he
      refine ⟨h1, ?_⟩
      cases x with
      | ptr b p => simp only [Option.some.injEq] at he; subst he; simpa only [RS.iv, RS.vv] using hk
      | fp cs =>
        simp only [gd_some, ble_iff, Option.some.injEq] at he
        obtain ⟨h2, rfl⟩ := he
        simp only [RS.iv, ivs_len, ← ivs_drop] at hk ⊢
        exact ⟨h2, hk⟩
      | rp b q j g => simp only [Option.some.injEq] at he; subst he; simpa only [RS.iv, RS.vv] using hk
      | _ => cases he
    · cases he
  · cases he
theorem eFadr_wf {i : TK} {f : Nat} {x : RS} (hx : x.wf n) (he : eFadr i f x = some v) : v.wf n := by
  unfold eFadr at he
  split at he
  · split at he
    · rw [gd_some] at he
      have he := he.2
      cases x with
      | ptr b p => simp only [Option.some.injEq] at he; subst he; exact hx
      | fp cs =>
        simp only [gd_some, Option.some.injEq] at he
        obtain ⟨h2, rfl⟩ := he
        simp only [RS.wf] at hx ⊢
        exact wfs_drop _ hx
      | rp b q j g => simp only [Option.some.injEq] at he; subst he; exact hx
      | _ => cases he
    · cases he
  · cases he
def eFld (i : TK) (f : Nat) (x : RS) : Option RS := match i.td with
  | .st fs => match fs[f]? with
    | some (off, sz, ag) => match x with
      | .agg cs => eTake ag sz off cs
      | _ => none
    | none => none
  | _ => none
theorem eFld_ok {i : TK} {f : Nat} {x : RS} (he : eFld i f x = some v) (hk : K (v.iv c)) : aFld (some i) f (x.iv c) K := by
  unfold eFld at he
  simp only [aFld]
  split at he
  · rename_i fs htd
    simp only [htd]
    split at he
    · rename_i off sz ag hf
      simp only [hf]
      cases x with
      | agg cs => simp only [RS.iv]; exact eTake_ok he hk
      | _ => cases he
    · cases he
  · cases he
theorem eFld_wf {i : TK} {f : Nat} {x : RS} (hx : x.wf n) (he : eFld i f x = some v) : v.wf n := by
  unfold eFld at he
  split at he
  · split at he
    · cases x with
      | agg cs => simp only [RS.wf] at hx; exact eTake_wf hx he
      | _ => cases he
    · cases he
  · cases he
/-- A number of a value. -/
def eNat : RS → Option Nat
  | .v (.int _ (.ofNat j)) => some j
  | _ => none
theorem eNat_ok {x : RS} {j : Nat} (he : eNat x = some j) : ∃ ik, x = .v (.int ik (j : Int)) := by
  unfold eNat at he
  split at he
  · injection he with he; subst he; exact ⟨_, rfl⟩
  · cases he
def eIadr (i : TK) (x ix : RS) : Option RS := match eNat ix with
  | none => none
  | some j => match i.td with
    | .arr m esz _ => gd (Nat.blt j m) (match x with
      | .ptr b p => some (.ptr b (p + j * esz))
      | .fp cs => gd (Nat.ble (j * esz) cs.length) (some (.fp (cs.drop (j * esz))))
      | .rp b q r f => some (.rp b q r (f + j * esz))
      | _ => none)
    | .sl esz _ _ _ => match x with
      | .sl q es => gd (Nat.beq q esz) (match es[j]? with | some e => some (.fp e) | none => none)
      | .fsl q es => gd (Nat.beq q esz) (match es[j]? with | some e => some (.fp e) | none => none)
      | .row b n => gd (Nat.blt j n && Nat.blt 0 esz) (some (.rp b esz j 0))
      | .part b q l n => gd (Nat.blt j n && Nat.blt 0 esz && Nat.beq q esz) (some (.rp b esz (l + j) 0))
      | _ => none
    | _ => none
theorem eIadr_ok {i : TK} {x ix : RS} (he : eIadr i x ix = some v) (hk : K (v.iv c)) : aIadr (some i) σ (x.iv c) (ix.iv c) K := by
  unfold eIadr at he
  split at he
  · cases he
  · rename_i j hj
    obtain ⟨ik, rfl⟩ := eNat_ok hj
    simp only [aIadr, RS.iv, RS.vv]
    split at he
    · rename_i m esz eag htd
      simp only [htd]
      rw [gd_some, blt_iff] at he
      obtain ⟨h1, he⟩ := he
      cases x with
      | ptr b p =>
        simp only [Option.some.injEq] at he; subst he
        simp only [RS.iv, RS.vv, Int.toNat_natCast] at hk ⊢
        exact ⟨by omega, by omega, hk⟩
      | fp cs =>
        simp only [gd_some, ble_iff, Option.some.injEq] at he
        obtain ⟨h2, rfl⟩ := he
        simp only [RS.iv, ivs_len, ← ivs_drop, Int.toNat_natCast] at hk ⊢
        exact ⟨by omega, by omega, h2, hk⟩
      | rp b q r f =>
        simp only [Option.some.injEq] at he; subst he
        simp only [RS.iv, RS.vv, Int.toNat_natCast] at hk ⊢
        exact ⟨by omega, by omega, hk⟩
      | _ => cases he
    · rename_i esz eby ez byt htd
      simp only [htd]
      cases x with
      | sl q es =>
        simp only [gd_some, beq_iff] at he
        obtain ⟨h1, he⟩ := he
        split at he
        · rename_i e hg
          injection he with he; subst he
          simp only [RS.iv, ivss_len, Int.toNat_natCast, ivss_getD hg] at hk ⊢
          exact ⟨h1, by omega, by have := get_lt hg; omega, hk⟩
        · cases he
      | fsl q es =>
        simp only [gd_some, beq_iff] at he
        obtain ⟨h1, he⟩ := he
        split at he
        · rename_i e hg
          injection he with he; subst he
          simp only [RS.iv, ivss_len, Int.toNat_natCast, ivss_getD hg] at hk ⊢
          exact ⟨h1, by omega, by have := get_lt hg; omega, hk⟩
        · cases he
      | row b n =>
        simp only [gd_some, Bool.and_eq_true, blt_iff, Option.some.injEq] at he
        obtain ⟨⟨h1, h2⟩, rfl⟩ := he
        simp only [RS.iv, RS.vv, Int.toNat_natCast, Nat.zero_div, Nat.zero_add] at hk ⊢
        exact ⟨by simp, by omega, by omega, hk⟩
      | part b q l n =>
        simp only [gd_some, Bool.and_eq_true, blt_iff, beq_iff, Option.some.injEq] at he
        obtain ⟨⟨⟨h1, h2⟩, rfl⟩, rfl⟩ := he
        simp only [RS.iv, RS.vv, Int.toNat_natCast, Nat.mul_div_cancel _ h2] at hk ⊢
        exact ⟨by simp, by omega, by omega, hk⟩
      | _ => cases he
    · cases he
theorem eIadr_wf {i : TK} {x ix : RS} (hx : x.wf n) (he : eIadr i x ix = some v) : v.wf n := by
  unfold eIadr at he
  split at he
  · cases he
  · split at he
    · rw [gd_some] at he
      have he := he.2
      cases x with
      | ptr b p => simp only [Option.some.injEq] at he; subst he; exact hx
      | fp cs =>
        simp only [gd_some, Option.some.injEq] at he
        obtain ⟨h2, rfl⟩ := he
        simp only [RS.wf] at hx ⊢
        exact wfs_drop _ hx
      | rp b q r f => simp only [Option.some.injEq] at he; subst he; exact hx
      | _ => cases he
    · cases x with
      | sl q es =>
        simp only [gd_some] at he
        have he := he.2
        split at he
        · rename_i e hg
          injection he with he; subst he
          simp only [RS.wf] at hx ⊢
          exact wfss_get hx hg
        · cases he
      | fsl q es =>
        simp only [gd_some] at he
        have he := he.2
        split at he
        · rename_i e hg
          injection he with he; subst he
          simp only [RS.wf] at hx ⊢
          exact wfss_get hx hg
        · cases he
      | row b n => simp only [gd_some, Option.some.injEq] at he; obtain ⟨_, rfl⟩ := he; exact hx
      | part b q l n => simp only [gd_some, Option.some.injEq] at he; obtain ⟨_, rfl⟩ := he; exact hx
      | _ => cases he
    · cases he
def eIdx (i : TK) (x ix : RS) : Option RS := match eNat ix with
  | none => none
  | some j => match i.td with
    | .arr m esz ag => match x with
      | .agg cs => gd (Nat.blt j m) (eTake ag esz (j * esz) cs)
      | _ => none
    | .str => match x with
      | .v (.string s) => match s.data.toList[j]? with
        | some b => some (.v (.int .u8 b.toNat))
        | none => none
      | _ => none
    | _ => none
theorem eIdx_ok {i : TK} {x ix : RS} (he : eIdx i x ix = some v) (hk : K (v.iv c)) : aIdx (some i) (x.iv c) (ix.iv c) K := by
  unfold eIdx at he
  split at he
  · cases he
  · rename_i j hj
    obtain ⟨ik, rfl⟩ := eNat_ok hj
    simp only [aIdx, RS.iv, RS.vv]
    split at he
    · rename_i m esz ag htd
      simp only [htd]
      cases x with
      | agg cs =>
        simp only [gd_some, blt_iff] at he
        simp only [RS.iv, Int.toNat_natCast]
        exact ⟨by omega, by omega, eTake_ok he.2 hk⟩
      | _ => cases he
    · rename_i htd
      simp only [htd]
      split at he
      · rename_i s
        split at he
        · rename_i b hb
          injection he with he; subst he
          simp only [RS.iv, RS.vv, Int.toNat_natCast, List.getD_eq_getElem?_getD, hb, Option.getD_some] at hk ⊢
          have := get_lt hb
          rw [Array.length_toList] at this
          exact ⟨by omega, Int.ofNat_lt.2 this, hk⟩
        · cases he
      · cases he
    · cases he
theorem eIdx_wf {i : TK} {x ix : RS} (hx : x.wf n) (he : eIdx i x ix = some v) : v.wf n := by
  unfold eIdx at he
  split at he
  · cases he
  · split at he
    · cases x with
      | agg cs => simp only [gd_some] at he; simp only [RS.wf] at hx; exact eTake_wf hx he.2
      | _ => cases he
    · split at he
      · split at he
        · injection he with he; subst he; simp only [RS.wf]
        · cases he
      · cases he
    · cases he
def eExt (x : RS) (j : Nat) : Option RS := match x with
  | .tup vs => vs[j]?
  | _ => none
theorem eExt_ok {x : RS} {j : Nat} (he : eExt x j = some v) (hk : K (v.iv c)) : aExt (x.iv c) j K := by
  cases x with
  | tup vs =>
    simp only [eExt] at he
    simp only [RS.iv, aExt, ivs_len, ivs_getD he]
    exact ⟨get_lt he, hk⟩
  | _ => cases he
theorem eExt_wf {x : RS} {j : Nat} (hx : x.wf n) (he : eExt x j = some v) : v.wf n := by
  cases x with
  | tup vs => simp only [RS.wf] at hx; exact wfs_get hx he
  | _ => cases he
def ePick (c x y : RS) : Option RS := match c with
  | .v (.bool true) => some x
  | .v (.bool false) => some y
  | _ => none
theorem ePick_ok {p x y : RS} (he : ePick p x y = some v) (hk : K (v.iv c)) : aPick (p.iv c) (x.iv c) (y.iv c) K := by
  unfold ePick at he
  split at he
  · injection he with he; subst he; simpa only [RS.iv, RS.vv, aPick, if_true] using hk
  · injection he with he; subst he; simpa only [RS.iv, RS.vv, aPick, Bool.false_eq_true, if_false] using hk
  · cases he
theorem ePick_wf {p x y : RS} (hx : x.wf n) (hy : y.wf n) (he : ePick p x y = some v) : v.wf n := by
  unfold ePick at he
  split at he
  · injection he with he; subst he; exact hx
  · injection he with he; subst he; exact hy
  · cases he
/-! ### len -/
def eLen (i : TK) (x : RS) : Option RS := match i.td with
  | .str => match x with
    | .v (.string s) => some (.v (.int .i64 (.ofNat s.data.toList.length)))
    | _ => none
  | .sl _ _ _ _ => match x with
    | .sl _ es => some (.v (.int .i64 (.ofNat es.length)))
    | .fsl _ es => some (.v (.int .i64 (.ofNat es.length)))
    | .v (.slice _ n _) => some (.v (.int .i64 (.ofNat n)))
    | .row _ n => some (.v (.int .i64 (.ofNat n)))
    | .part _ _ _ n => some (.v (.int .i64 (.ofNat n)))
    | .mt _ _ _ => some (.v (.int .i64 (.ofNat 0)))
    | _ => none
  | .arr m _ _ => some (.v (.int .i64 (.ofNat m)))
  | _ => none
theorem eLen_ok {i : TK} {x : RS} (he : eLen i x = some v) (hk : K (v.iv c)) : aLen (some i) (x.iv c) K := by
  unfold eLen at he
  simp only [aLen]
  split at he
  · rename_i htd
    simp only [htd]
    split at he
    · injection he with he; subst he
      simpa only [RS.iv, RS.vv, ByteArray.size, Array.length_toList, Int.ofNat_eq_natCast] using hk
    · cases he
  · rename_i htd
    simp only [htd]
    split at he <;> first
      | (cases he; done)
      | (injection he with he; subst he; simpa only [RS.iv, RS.vv, ivss_len, Int.ofNat_eq_natCast] using hk)
  · rename_i htd
    simp only [htd]
    injection he with he; subst he
    simpa only [RS.iv, RS.vv, Int.ofNat_eq_natCast] using hk
  · cases he
theorem eLen_wf {i : TK} {x : RS} (he : eLen i x = some v) : v.wf n := by
  unfold eLen at he
  split at he
  · split at he <;> first | (cases he; done) | (injection he with he; subst he; simp only [RS.wf])
  · split at he <;> first | (cases he; done) | (injection he with he; subst he; simp only [RS.wf])
  · injection he with he; subst he; simp only [RS.wf]
  · cases he
/-! ### built values -/
def eFill (fs : Nat → Option (Nat × Nat)) : List RS → List (Nat × RS) → Option RS
  | cs, [] => some (.agg cs)
  | cs, (j, x) :: r => match fs j with
    | some (off, sz) => gd (Nat.beq x.cells.length sz && Nat.ble (off + sz) cs.length) (eFill fs (rsplice cs off x.cells) r)
    | none => none
def ivp (c : Cx) (ps : List (Nat × RS)) : List (Nat × AV) := ps.map fun p => (p.1, p.2.iv c)
theorem eFill_ok (ha : ∀ i, (c.a i).one = true ∧ (c.a i).cells = [c.a i]) {fs : Nat → Option (Nat × Nat)} (hk : K (v.iv c)) : ∀ {ps : List (Nat × RS)} {cs : List RS}, eFill fs cs ps = some v → aFill fs K (RS.ivs c cs) (ivp c ps)
  | [], cs, he => by simp only [eFill, Option.some.injEq] at he; subst he; simpa only [RS.iv, ivp, List.map_nil, aFill] using hk
  | (j, x) :: r, cs, he => by
    simp only [eFill] at he
    simp only [ivp, List.map_cons, aFill]
    split at he
    · rename_i off sz hf
      rw [gd_some, Bool.and_eq_true, beq_iff, ble_iff] at he
      simp only [hf, cells_iv ha, ivs_len]
      refine ⟨he.1.1, he.1.2, ?_⟩
      rw [← ivs_splice]
      exact eFill_ok ha hk he.2
    · cases he
theorem eFill_wf {fs : Nat → Option (Nat × Nat)} : ∀ {ps : List (Nat × RS)} {cs : List RS}, (∀ p ∈ ps, p.2.wf n) → RS.wfs n cs → eFill fs cs ps = some v → v.wf n
  | [], cs, _, hc, he => by simp only [eFill, Option.some.injEq] at he; subst he; simpa only [RS.wf] using hc
  | (j, x) :: r, cs, hp, hc, he => by
    simp only [eFill] at he
    split at he
    · rw [gd_some] at he
      exact eFill_wf (fun p h => hp p (by simp [h])) (wfs_splice _ hc (cells_wf (hp (j, x) (by simp)))) he.2
    · cases he
def eBuild (i : TK) (ps : List (Nat × RS)) : Option RS := match i.td with
  | .st fs => eFill (fun j => (fs[j]?).map fun f => (f.1, f.2.1)) (i.zr.map .v) ps
  | .arr _ esz _ => eFill (fun j => some (j * esz, esz)) (i.zr.map .v) ps
  | _ => none
theorem eBuild_ok (ha : ∀ i, (c.a i).one = true ∧ (c.a i).cells = [c.a i]) {i : TK} {ps : List (Nat × RS)} (he : eBuild i ps = some v) (hk : K (v.iv c)) : aBuild (some i) (ivp c ps) K := by
  unfold eBuild at he
  simp only [aBuild]
  split at he
  · rename_i fs htd; simp only [htd]; rw [← ivs_v c]; exact eFill_ok ha hk he
  · rename_i m esz ag htd; simp only [htd]; rw [← ivs_v c]; exact eFill_ok ha hk he
  · cases he
theorem eBuild_wf {i : TK} {ps : List (Nat × RS)} (hp : ∀ p ∈ ps, p.2.wf n) (he : eBuild i ps = some v) : v.wf n := by
  unfold eBuild at he
  split at he
  · exact eFill_wf hp (wfs_v n _) he
  · exact eFill_wf hp (wfs_v n _) he
  · cases he
def eFillS (esz : Nat) : List (List RS) → List (Nat × RS) → Option RS
  | es, [] => some (.fsl esz es)
  | es, (j, x) :: r => gd (Nat.blt j es.length && Nat.beq x.cells.length esz && x.cells.all RS.one) (eFillS esz (es.set j x.cells) r)
theorem eFillS_ok (ha : ∀ i, (c.a i).one = true ∧ (c.a i).cells = [c.a i]) {esz : Nat} (hk : K (v.iv c)) : ∀ {ps : List (Nat × RS)} {es : List (List RS)}, eFillS esz es ps = some v → aFillS esz (fun es => K (.fsl esz es)) (RS.ivss c es) (ivp c ps)
  | [], es, he => by simp only [eFillS, Option.some.injEq] at he; subst he; simpa only [RS.iv, ivp, List.map_nil, aFillS] using hk
  | (j, x) :: r, es, he => by
    simp only [eFillS] at he
    simp only [ivp, List.map_cons, aFillS]
    rw [gd_some, Bool.and_eq_true, Bool.and_eq_true, blt_iff, beq_iff] at he
    simp only [cells_iv ha, ivs_len, ivss_len, ones_iv ha]
    refine ⟨he.1.1.1, he.1.1.2, he.1.2, ?_⟩
    rw [← ivss_set]
    exact eFillS_ok ha hk he.2
theorem eFillS_wf {esz : Nat} : ∀ {ps : List (Nat × RS)} {es : List (List RS)}, (∀ p ∈ ps, p.2.wf n) → RS.wfss n es → eFillS esz es ps = some v → v.wf n
  | [], es, _, hc, he => by simp only [eFillS, Option.some.injEq] at he; subst he; simpa only [RS.wf] using hc
  | (j, x) :: r, es, hp, hc, he => by
    simp only [eFillS] at he
    rw [gd_some] at he
    exact eFillS_wf (fun p h => hp p (by simp [h])) (wfss_set hc (cells_wf (hp (j, x) (by simp)))) he.2
theorem ivss_rep (m : Nat) (l : List Value) : RS.ivss c (List.replicate m (l.map .v)) = List.replicate m (l.map AV.v) := by
  rw [ivss_map, List.map_replicate, ivs_v]
theorem wfss_rep (n m : Nat) (l : List Value) : RS.wfss n (List.replicate m (l.map .v)) := wfss_iff.2 fun x hx => by
  obtain ⟨_, rfl⟩ := List.mem_replicate.1 hx
  exact wfs_v n l
def eBuildS (i : TK) (len : Nat) (ps : List (Nat × RS)) : Option RS := match i.td with
  | .sl esz _ ez _ => gd (Nat.blt 0 esz && Nat.ble (len * esz) 16777216 && ez.all Value.oneCell') (eFillS esz (List.replicate len (ez.map .v)) ps)
  | _ => none
theorem eBuildS_ok (ha : ∀ i, (c.a i).one = true ∧ (c.a i).cells = [c.a i]) {i : TK} {len : Nat} {ps : List (Nat × RS)} (he : eBuildS i len ps = some v) (hk : K (v.iv c)) : aBuildS (some i) len (ivp c ps) K := by
  unfold eBuildS at he
  simp only [aBuildS]
  split at he
  · rename_i esz eby ez byt htd
    simp only [htd]
    rw [gd_some, Bool.and_eq_true, Bool.and_eq_true, blt_iff, ble_iff] at he
    refine ⟨he.1.1.1, he.1.1.2, he.1.2, ?_⟩
    rw [← ivss_rep (c := c)]
    exact eFillS_ok ha hk he.2
  · cases he
theorem eBuildS_wf {i : TK} {len : Nat} {ps : List (Nat × RS)} (hp : ∀ p ∈ ps, p.2.wf n) (he : eBuildS i len ps = some v) : v.wf n := by
  unfold eBuildS at he
  split at he
  · rw [gd_some] at he
    exact eFillS_wf hp (wfss_rep n _ _) he.2
  · cases he
def eEvp (fr : Tr RS) : List (Nat × Operand) → Option (List (Nat × RS))
  | [] => some []
  | (j, x) :: l => match eEv fr x with
    | some v => match eEvp fr l with
      | some vs => some ((j, v) :: vs)
      | none => none
    | none => none
theorem eEvp_ok : ∀ {l : List (Nat × Operand)} {vs : List (Nat × RS)}, eEvp fr l = some vs → evs (ifr c fr).ev l = ivp c vs
  | [], vs, he => by simp only [eEvp, Option.some.injEq] at he; subst he; rfl
  | (j, x) :: l, vs, he => by
    simp only [eEvp] at he
    split at he
    · rename_i v hv
      split at he
      · rename_i vs' hvs
        injection he with he
        subst he
        have := eEvp_ok hvs
        simp only [evs, ivp, List.map_cons, eEv_ok hv] at this ⊢
        rw [this]
      · cases he
    · cases he
theorem eEvp_wf (hf : wfr n fr) : ∀ {l : List (Nat × Operand)} {vs : List (Nat × RS)}, eEvp fr l = some vs → ∀ p ∈ vs, p.2.wf n
  | [], vs, he => by simp only [eEvp, Option.some.injEq] at he; subst he; exact fun p hp => by cases hp
  | (j, x) :: l, vs, he => by
    simp only [eEvp] at he
    split at he
    · rename_i v hv
      split at he
      · rename_i vs' hvs
        injection he with he
        subst he
        intro p hp
        rcases List.mem_cons.1 hp with rfl | hp
        · exact eEv_wf hf hv
        · exact eEvp_wf hf hvs p hp
      · cases he
    · cases he
end
end Go.Av
