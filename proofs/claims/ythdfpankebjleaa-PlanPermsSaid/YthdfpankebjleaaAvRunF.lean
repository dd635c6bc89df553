/-
  The program logic, part 25: runs that are reckoned: slices, conversions, function values, interfaces; new blocks, append.
  Conditions: none (a library of definitions and lemmas).
-/
import Derived.Test.YthdfpankebjleaaAvRunE
set_option linter.unusedVariables false
set_option linter.unusedSimpArgs false
namespace Go.Av
open Go Go.RowKit

section
variable {P : Program} {σ0 σ : St} {c c' : Cx} {h h' : Sto} {n : Nat} {fr : Tr RS} {v : RS} {K : AV → Prop} {k : AV → St → Prop}
/-! ### slices of slices -/
def eOptN (d : Nat) : Option RS → Option Nat
  | none => some d
  | some x => eNat x
theorem eOptN_ok {d : Nat} {x : Option RS} {j : Nat} (he : eOptN d x = some j) : optI (d : Int) (x.map (RS.iv c)) = some (j : Int) := by
  cases x with
  | none => simp only [eOptN, Option.some.injEq] at he; subst he; rfl
  | some x =>
    obtain ⟨ik, rfl⟩ := eNat_ok he
    simp only [Option.map_some, RS.iv, RS.vv, optI]
def mkPart (b q l0 l r : Nat) : RS := match Nat.beq (l0 + l) 0 with
  | true => .row b r
  | false => match Nat.blt l r with
    | true => .part b q (l0 + l) (r - l)
    | false => .mt b (fun m => offAt (m - l0) l (l0 * q) q) (fun m => m - l0 - l)
theorem mkPart_iv {b q l0 l r : Nat} (hl : l ≤ r) (hr : l0 + r ≤ c.k b) : (mkPart b q l0 l r).iv c = .v (.slice (some ⟨c.r b, offAt (c.k b - l0) l (l0 * q) q, none⟩) (r - l) (c.k b - l0 - l)) := by
  unfold mkPart
  cases h1 : Nat.beq (l0 + l) 0 with
  | true =>
    rw [beq_iff] at h1
    obtain rfl : l0 = 0 := by omega
    obtain rfl : l = 0 := by omega
    simp only [RS.iv, RS.vv, offAt, Nat.zero_mul, Nat.add_zero, Nat.sub_zero, ite_self]
  | false =>
    cases h2 : Nat.blt l r with
    | true =>
      rw [blt_iff] at h2
      simp only [RS.iv, RS.vv, offAt]
      rw [if_neg (by omega), ← Nat.add_mul, Nat.sub_sub]
    | false =>
      have h3 : ¬ l < r := fun h => by rw [← blt_iff, h2] at h; cases h
      obtain rfl : l = r := by omega
      simp only [RS.iv, RS.vv, Nat.sub_self]
theorem mkPart_wf {b q l0 l r : Nat} (hb : b < n) : (mkPart b q l0 l r).wf n := by
  unfold mkPart
  split
  · simp only [RS.wf]; exact hb
  · split <;> (simp only [RS.wf]; exact hb)
def eView (q : Nat) : RS → Option (List (List RS))
  | .sl q' es => gd (Nat.beq q' q) (some es)
  | .fsl q' es => gd (Nat.beq q' q) (some es)
  | .v (.slice none 0 0) => some []
  | _ => none
theorem eView_ok {q : Nat} {x : RS} {es : List (List RS)} (he : eView q x = some es) : view q σ (x.iv c) = some (RS.ivss c es) := by
  unfold eView at he
  split at he
  · rw [gd_some, beq_iff] at he; obtain ⟨rfl, he⟩ := he; injection he with he; subst he; simp only [RS.iv, view, if_true]
  · rw [gd_some, beq_iff] at he; obtain ⟨rfl, he⟩ := he; injection he with he; subst he; simp only [RS.iv, view, if_true]
  · injection he with he; subst he; rfl
  · cases he
theorem eView_wf {q : Nat} {x : RS} {es : List (List RS)} (hx : x.wf n) (he : eView q x = some es) : RS.wfss n es := by
  unfold eView at he
  split at he
  · rw [gd_some] at he; have he := he.2; injection he with he; subst he; simpa only [RS.wf] using hx
  · rw [gd_some] at he; have he := he.2; injection he with he; subst he; simpa only [RS.wf] using hx
  · injection he with he; subst he; simp only [RS.wfss]
  · cases he
def eSli (i : TK) (h : Sto) (x : RS) (lo hi mx : Option RS) : Option RS := match i.td with
  | .str => match x, mx with
    | .v (.string s), none => match eOptN 0 lo, eOptN s.data.toList.length hi with
      | some l, some r => gd (Nat.ble l r && Nat.ble r s.data.toList.length) (some (.v (.string ⟨((s.data.toList.take r).drop l).toArray⟩)))
      | _, _ => none
    | _, _ => none
  | .sl q _ _ _ => match x, mx with
    | .row b n, none => match eOptN 0 lo, eOptN n hi with
      | some l, some r => gd (Nat.ble l r && Nat.ble r n && Nat.ble n (h.get b).len) (some (mkPart b q 0 l r))
      | _, _ => none
    | .part b q' l0 n, none => match eOptN 0 lo, eOptN n hi with
      | some l, some r => gd (Nat.ble l r && Nat.ble r n && Nat.ble (l0 + n) (h.get b).len && Nat.beq q' q) (some (mkPart b q l0 l r))
      | _, _ => none
    | x, none => match eView q x with
      | some es => match eOptN 0 lo, eOptN es.length hi with
        | some l, some r => gd (Nat.ble l r && Nat.ble r es.length) (some (.sl q ((es.take r).drop l)))
        | _, _ => none
      | none => none
    | _, _ => none
  | _ => none
theorem ba_ext (s : ByteArray) (l r : Nat) (h : r ≤ s.size) : (⟨((s.data.toList.take r).drop l).toArray⟩ : ByteArray) = s.extract l r := ba_eq.2 (by
  simp [ByteArray.extract, ByteArray.copySlice, List.drop_take])
theorem eSli_ok (hM : Mt σ0 c h σ) {i : TK} {x : RS} {lo hi mx : Option RS} (hx : x.wf h.n) (he : eSli i h x lo hi mx = some v) (hk : K (v.iv c)) :
    aSli (some i) σ (x.iv c) (lo.map (RS.iv c)) (hi.map (RS.iv c)) (mx.map (RS.iv c)) K := by
  unfold eSli at he
  simp only [aSli]
  split at he
  · rename_i htd
    simp only [htd]
    split at he
    · rename_i s
      split at he
      · rename_i l r hl hr
        simp only [gd_some, Bool.and_eq_true, ble_iff, Option.some.injEq] at he
        obtain ⟨⟨h1, h2⟩, rfl⟩ := he
        have hsz : s.data.toList.length = s.size := Array.length_toList
        rw [hsz] at h2
        simp only [RS.iv, RS.vv] at hk ⊢
        rw [ba_ext s l r h2] at hk
        have h3 := eOptN_ok (c := c) hl
        have h4 := eOptN_ok (c := c) hr
        rw [hsz] at h4
        exact ⟨rfl, l, r, h3, h4, by omega, by omega, by omega, by simpa using hk⟩
      · cases he
    · cases he
  · rename_i q eby ez byt htd
    simp only [htd]
    split at he
    · rename_i b n
      split at he
      · rename_i l r hl hr
        simp only [gd_some, Bool.and_eq_true, ble_iff, Option.some.injEq] at he
        obtain ⟨⟨⟨h1, h2⟩, h3⟩, rfl⟩ := he
        have hb : b < h.n := by simpa only [RS.wf] using hx
        have hc := hM.cap b hb
        rw [mkPart_iv h1 (by omega)] at hk
        refine .inl ⟨c.r b, 0, n, c.k b, by simp only [RS.iv, RS.vv], (l : Int), (r : Int), (c.k b : Int), eOptN_ok hl, eOptN_ok hr, .inl ⟨rfl, rfl⟩, by omega, by omega, by omega, by omega, ?_⟩
        simpa only [Int.toNat_natCast, Nat.sub_zero, Nat.zero_mul] using hk
      · cases he
    · rename_i b q' l0 n
      split at he
      · rename_i l r hl hr
        simp only [gd_some, Bool.and_eq_true, ble_iff, beq_iff, Option.some.injEq] at he
        obtain ⟨⟨⟨⟨h1, h2⟩, h3⟩, rfl⟩, rfl⟩ := he
        have hb : b < h.n := by simpa only [RS.wf] using hx
        have hc := hM.cap b hb
        rw [mkPart_iv h1 (by omega)] at hk
        refine .inl ⟨c.r b, l0 * q', n, c.k b - l0, by simp only [RS.iv, RS.vv], (l : Int), (r : Int), ((c.k b - l0 : Nat) : Int), eOptN_ok hl, eOptN_ok hr, .inl ⟨rfl, rfl⟩, by omega, by omega, by omega, by omega, ?_⟩
        simpa only [Int.toNat_natCast] using hk
      · cases he
    · split at he
      · rename_i es hes
        split at he
        · rename_i l r hl hr
          simp only [gd_some, Bool.and_eq_true, ble_iff, Option.some.injEq] at he
          obtain ⟨⟨h1, h2⟩, rfl⟩ := he
          refine .inr ⟨RS.ivss c es, eView_ok hes, (l : Int), (r : Int), eOptN_ok hl, by rw [ivss_len]; exact eOptN_ok hr, by omega, by omega, by rw [ivss_len]; omega, .inl ⟨rfl, ?_⟩⟩
          simp only [RS.iv, Int.toNat_natCast, ivss_take, ivss_drop] at hk ⊢
          exact hk
        · cases he
      · cases he
    · cases he
  · cases he
theorem eSli_wf {i : TK} {x : RS} {lo hi mx : Option RS} (hx : x.wf n) (he : eSli i h x lo hi mx = some v) : v.wf n := by
  unfold eSli at he
  split at he
  · split at he
    · split at he
      · simp only [gd_some, Option.some.injEq] at he
        obtain ⟨_, rfl⟩ := he
        simp only [RS.wf]
      · cases he
    · cases he
  · split at he
    · split at he
      · simp only [gd_some, Option.some.injEq] at he
        obtain ⟨_, rfl⟩ := he
        exact mkPart_wf (by simpa only [RS.wf] using hx)
      · cases he
    · split at he
      · simp only [gd_some, Option.some.injEq] at he
        obtain ⟨_, rfl⟩ := he
        exact mkPart_wf (by simpa only [RS.wf] using hx)
      · cases he
    · split at he
      · rename_i es hes
        split at he
        · simp only [gd_some, Option.some.injEq] at he
          obtain ⟨_, rfl⟩ := he
          simp only [RS.wf]
          exact wfss_drop _ (wfss_take _ (eView_wf hx hes))
        · cases he
      · cases he
    · cases he
  · cases he
/-! ### function values, interfaces -/
def eFunc (fn : Fn) (fi ca : List RS) : Option RS := match fn with
  | .func f => gd (fi.all RS.isV && ca.all RS.isV) (some (.fn f fi ca))
  | _ => none
theorem exacts_of {ev : Operand → AV} : ∀ {l : List Operand} {vs : List RS}, l.map ev = vs.map (RS.iv c) → vs.all RS.isV = true → exacts ev l = some (RS.vvs c vs)
  | [], [], _, _ => rfl
  | x :: l, v :: vs, h, hv => by
    simp only [List.map_cons, List.cons.injEq] at h
    simp only [List.all_cons, Bool.and_eq_true] at hv
    simp only [exacts, h.1, iv_v hv.1, exacts_of h.2 hv.2, RS.vvs]
  | [], _ :: _, h, _ => by simp at h
  | _ :: _, [], h, _ => by simp at h
theorem eFunc_ok {ev : Operand → AV} {fn : Fn} {l m : List Operand} {fi ca : List RS} (hl : l.map ev = fi.map (RS.iv c)) (hm : m.map ev = ca.map (RS.iv c)) (he : eFunc fn fi ca = some v) (hk : K (v.iv c)) : aFunc fn ev l m K := by
  unfold eFunc at he
  split at he
  · rw [gd_some, Bool.and_eq_true] at he
    obtain ⟨hf, he⟩ := he
    injection he with he
    subst he
    simp only [aFunc, exacts_of hl hf.1, exacts_of hm hf.2]
    simpa only [RS.iv, RS.vv] using hk
  · cases he
theorem eFunc_wf {fn : Fn} {fi ca : List RS} (h1 : RS.wfs n fi) (h2 : RS.wfs n ca) (he : eFunc fn fi ca = some v) : v.wf n := by
  unfold eFunc at he
  split at he
  · rw [gd_some] at he
    have he := he.2
    injection he with he
    subst he
    simp only [RS.wf]
    exact ⟨h1, h2⟩
  · cases he
def eMkI (te : TE) (t : TypeId) (x : RS) : Option RS := gd (te.cc && x.isV) (some (.ifc t x))
theorem eMkI_ok {t : TypeId} {te : TE} (ht : TeOk P t te) {x : RS} (he : eMkI te t x = some v) (hk : K (v.iv c)) : aMkI P t (x.iv c) K := by
  unfold eMkI at he
  rw [gd_some, Bool.and_eq_true] at he
  obtain ⟨hf, he⟩ := he
  injection he with he
  subst he
  refine ⟨ht.cc.trans hf.1, ?_⟩
  rw [iv_v hf.2]
  simpa only [RS.iv, RS.vv] using hk
def eTyA (te : TE) (u : TypeId) (x : RS) : Option RS := match x with
  | .ifc t y => gd (te.cc && y.isV && Nat.beq t u) (some y)
  | _ => none
theorem eTyA_ok {u : TypeId} {te : TE} (ht : TeOk P u te) {x : RS} (he : eTyA te u x = some v) (hk : K (v.iv c)) : aTyA P u (x.iv c) K := by
  unfold eTyA at he
  split at he
  · rename_i t y
    rw [gd_some, Bool.and_eq_true, Bool.and_eq_true, beq_iff] at he
    obtain ⟨⟨⟨h1, h2⟩, h3⟩, he⟩ := he
    injection he with he
    subst he
    rw [iv_v h2] at hk
    simp only [RS.iv, RS.vv]
    exact ⟨ht.cc.trans h1, h3, hk⟩
  · cases he
/-! ### conversions -/
def bytesR : List (List RS) → Option (List UInt8)
  | [] => some []
  | [.v (.int .u8 (.ofNat m))] :: l => match bytesR l with
    | some bs => some (UInt8.ofNat m :: bs)
    | none => none
  | _ => none
theorem bytesR_ok : ∀ {es : List (List RS)} {bs : List UInt8}, bytesR es = some bs → (RS.ivss c es).all isByte = true ∧ (RS.ivss c es).map byteOf = bs
  | [], bs, he => by simp only [bytesR, Option.some.injEq] at he; subst he; exact ⟨rfl, rfl⟩
  | e :: l, bs, he => by
    unfold bytesR at he
    split at he
    · rename_i h; cases h
    · rename_i m l' heq
      injection heq with h1 h2
      subst h1; subst h2
      split at he
      · rename_i bs' hb
        injection he with he
        subst he
        obtain ⟨g1, g2⟩ := bytesR_ok (es := l) hb
        simp only [RS.ivss, RS.ivs, RS.iv, RS.vv, List.all_cons, isByte, g1, Bool.and_self, List.map_cons, byteOf, g2, Int.ofNat_eq_natCast, Int.toNat_natCast, and_self]
      · cases he
    · cases he
def eLook (q : Nat) (h : Sto) : RS → Option (List (List RS))
  | .sl q' es => gd (Nat.beq q' q) (some es)
  | .fsl q' es => gd (Nat.beq q' q) (some es)
  | .v (.slice none 0 0) => some []
  | .row b n => match h.get b with
    | .rows q' es _ => gd (Nat.beq q' q && Nat.ble n es.length) (some (es.take n))
    | _ => none
  | _ => none
theorem eLook_ok (hM : Mt σ0 c h σ) {q : Nat} {x : RS} {es : List (List RS)} (hx : x.wf h.n) (he : eLook q h x = some es) : vlook q σ (x.iv c) = some (RS.ivss c es) := by
  unfold eLook at he
  split at he
  · rw [gd_some, beq_iff] at he; obtain ⟨rfl, he⟩ := he; injection he with he; subst he; simp only [RS.iv, vlook, if_true]
  · rw [gd_some, beq_iff] at he; obtain ⟨rfl, he⟩ := he; injection he with he; subst he; simp only [RS.iv, vlook, if_true]
  · injection he with he; subst he; rfl
  · rename_i b n
    split at he
    · rename_i q' es' frz hb
      rw [gd_some, Bool.and_eq_true, beq_iff, ble_iff] at he
      obtain ⟨⟨rfl, h1⟩, he⟩ := he
      injection he with he; subst he
      have hbn : b < h.n := by simpa only [RS.wf] using hx
      have h2 := hM.ob b (.rows q' (RS.ivss c es') frz (c.k b)) hbn (by rw [hb]; rfl)
      have hc := hM.cap b hbn
      rw [hb] at hc
      simp only [SO.len] at hc
      simp only [RS.iv, RS.vv, vlook, h2, ivss_len, ivss_take]
      rw [if_pos ⟨trivial, h1, by omega⟩]
    · cases he
  · cases he
def rByte (b : UInt8) : List RS := [.v (.int .u8 (.ofNat b.toNat))]
theorem rByte_iv (l : List UInt8) : RS.ivss c (l.map rByte) = l.map byteEl := by
  rw [ivss_map, List.map_map]
  refine List.map_congr_left fun b _ => ?_
  simp only [Function.comp, rByte, RS.ivs, RS.iv, RS.vv, byteEl, Int.ofNat_eq_natCast]
theorem rByte_wf (n : Nat) (l : List UInt8) : RS.wfss n (l.map rByte) := wfss_iff.2 fun x hx => by
  obtain ⟨b, _, rfl⟩ := List.mem_map.1 hx
  simp only [rByte, RS.wfs, RS.wf, and_self]
def eConv (i j : TK) (h : Sto) (x : RS) : Option (RS × Sto) := match i.td, j.td with
  | .int _, .int ik => match x with
    | .v (.int _ m) => some (.v (.int ik (ewrap ik m)), h)
    | _ => none
  | .str, .str => match x with
    | .v (.string s) => some (.v (.string s), h)
    | _ => none
  | .str, .sl 1 _ _ true => match x with
    | .v (.string s) => match h.new (.rows 1 (s.data.toList.map rByte) false) with
      | some (b, h') => some (.row b s.data.toList.length, h')
      | none => none
    | _ => none
  | .sl 1 _ _ true, .str => match eLook 1 h x with
    | some es => match bytesR es with
      | some bs => some (.v (.string ⟨bs.toArray⟩), h)
      | none => none
    | none => none
  | _, _ => none
/-- What follows. -/
def Kt (σ0 : St) (c : Cx) (h : Sto) (v : RS) (h' : Sto) (k : AV → St → Prop) : Prop :=
  ∀ c' σ', Agree h.n c c' → Mt σ0 c' h' σ' → h.n ≤ h'.n → Keep h h' → v.wf h'.n → k (v.iv c') σ'
theorem Kt.same (hM : Mt σ0 c h σ) (hk : Kt σ0 c h v h k) (hv : v.wf h.n) : k (v.iv c) σ := hk c σ (.refl _ _) hM (Nat.le_refl _) (.refl h) hv
/-- A new block. -/
theorem Kt.new (hM : Mt σ0 c h σ) {o : SO} {i : Nat} (hn : h.new o = some (i, h')) (hw : o.wf h.n) {b kk : Nat} {x : AObj} (hb : σ b = none) (hx : io (c.more h.n b kk) h.n o = some x) (hc : o.len ≤ kk)
    (hk : Kt σ0 c h v h' k) (hv : v.wf (h.n + 1)) : k (v.iv (c.more h.n b kk)) (σ.set b x) := by
  obtain ⟨h1, h2, h3⟩ := hM.new hb hn hx hw hc
  exact hk _ _ (more_agree c h.n b kk) h3 (by omega) (.new hn) (by rw [h2]; exact hv)
theorem new_n {o : SO} {i : Nat} (hn : h.new o = some (i, h')) : i = h.n := by
  unfold Sto.new at hn
  rw [gd_some] at hn
  have := hn.2
  injection this with this
  injection this with h1 h2
  exact h1.symm
theorem eConv_ok (hM : Mt σ0 c h σ) {i j : TK} {x : RS} (hx : x.wf h.n) (he : eConv i j h x = some (v, h')) (hk : Kt σ0 c h v h' k) : aConv (some i) (some j) σ (x.iv c) k := by
  unfold eConv at he
  simp only [aConv]
  split at he
  · rename_i htd htd2
    split at he
    · injection he with he
      injection he with h1 h2
      subst h1; subst h2
      have := hk.same hM (by simp only [RS.wf])
      rw [ewrap_eq] at this
      simpa only [htd, htd2, RS.iv, RS.vv] using this
    · cases he
  · rename_i htd htd2
    split at he
    · injection he with he
      injection he with h1 h2
      subst h1; subst h2
      have := hk.same hM (by simp only [RS.wf])
      simpa only [htd, htd2, RS.iv, RS.vv] using this
    · cases he
  · rename_i eby ez htd htd2
    split at he
    · rename_i s
      split at he
      · rename_i b h2 hn
        injection he with he
        injection he with h1 h3
        subst h1; subst h3
        simp only [htd, htd2, RS.iv, RS.vv]
        intro bb cap hbb hcap
        have hsz : s.data.toList.length = s.size := Array.length_toList
        have hi := new_n hn
        subst hi
        have := Kt.new (kk := cap) hM hn (rByte_wf _ _) hbb (x := .rows 1 (s.data.toList.map byteEl) false cap) (by simp only [io, rByte_iv, Cx.more, if_true]) (by simp only [SO.len, List.length_map]; omega) hk (by simp only [RS.wf]; omega)
        simp only [RS.iv, RS.vv, Cx.more, if_true, hsz] at this
        exact this
      · cases he
    · cases he
  · rename_i eby ez htd htd2
    split at he
    · rename_i es hes
      split at he
      · rename_i bs hbs
        injection he with he
        injection he with h1 h3
        subst h1; subst h3
        have h4 := bytesR_ok (c := c) hbs
        have := hk.same hM (by simp only [RS.wf])
        simp only [htd, htd2]
        have h5 := eLook_ok hM hx hes
        have h6 : strOf (RS.ivss c es) = ⟨bs.toArray⟩ := by unfold strOf; rw [h4.2]
        have key : ∃ es, vlook 1 σ (x.iv c) = some es ∧ es.all isByte = true ∧ k (.v (.string (strOf es))) σ := ⟨_, h5, h4.1, by rw [h6]; simpa only [RS.iv, RS.vv] using this⟩
        generalize x.iv c = y at key
        cases y <;> exact key
      · cases he
    · cases he
  · cases he
/-! ### new blocks -/
def eAlloc (i : TK) (h : Sto) : Option (RS × Sto) := match h.new (.cells (i.zr.map .v)) with
  | some (b, h') => some (.ptr b 0, h')
  | none => none
theorem eAlloc_ok (hM : Mt σ0 c h σ) {i : TK} (he : eAlloc i h = some (v, h')) (hk : Kt σ0 c h v h' k) : aAlloc (some i) σ k := by
  unfold eAlloc at he
  split at he
  · rename_i b h2 hn
    injection he with he
    injection he with h1 h3
    subst h1; subst h3
    have hi := new_n hn
    subst hi
    intro bb hbb
    have := Kt.new (kk := 0) hM hn (wfs_v _ _) hbb (x := .cells (i.zr.map .v)) (by simp only [io, ivs_v]) (Nat.le_refl _) hk (by simp only [RS.wf]; omega)
    simpa only [RS.iv, RS.vv, Cx.more, if_true] using this
  · cases he
def eBox (x : RS) (h : Sto) : Option (RS × Sto) := gd (x.cells.all RS.one) (match h.new (.cells x.cells) with
  | some (b, h') => some (.ptr b 0, h')
  | none => none)
theorem eBox_ok (hM : Mt σ0 c h σ) {x : RS} (hx : x.wf h.n) (he : eBox x h = some (v, h')) (hk : Kt σ0 c h v h' k) : aBox (x.iv c) σ k := by
  unfold eBox at he
  rw [gd_some] at he
  obtain ⟨hone, he⟩ := he
  split at he
  · rename_i b h2 hn
    injection he with he
    injection he with h1 h3
    subst h1; subst h3
    have hi := new_n hn
    subst hi
    refine ⟨by rw [cells_iv hM.a, ones_iv hM.a]; exact hone, fun bb hbb => ?_⟩
    have hw := cells_wf hx
    have := Kt.new (kk := 0) hM hn hw hbb (x := .cells (x.iv c).cells) (by simp only [io]; rw [ivs_agree (more_agree c h.n bb 0) _ hw, cells_iv hM.a]) (Nat.le_refl _) hk (by simp only [RS.wf]; omega)
    simpa only [RS.iv, RS.vv, Cx.more, if_true] using this
  · cases he
def eMkSl (i : TK) (h : Sto) (l m : RS) : Option (RS × Sto) := match i.td with
  | .sl q eby ez _ => match eNat l, eNat m with
    | some l, some m => gd (Nat.beq l m && Nat.blt 0 q && Nat.blt 0 eby && ez.all Value.oneCell' && Nat.ble (eby * m) 281474976710656) (match h.new (.rows q (List.replicate l (ez.map .v)) false) with
      | some (b, h') => some (.row b l, h')
      | none => none)
    | _, _ => none
  | _ => none
theorem eMkSl_ok (hM : Mt σ0 c h σ) {i : TK} {l m : RS} (he : eMkSl i h l m = some (v, h')) (hk : Kt σ0 c h v h' k) : aMkSl (some i) σ (l.iv c) (m.iv c) k := by
  unfold eMkSl at he
  simp only [aMkSl]
  split at he
  · rename_i q eby ez byt htd
    simp only [htd]
    split at he
    · rename_i l' m' hl hm
      obtain ⟨ik, rfl⟩ := eNat_ok hl
      obtain ⟨ik', rfl⟩ := eNat_ok hm
      rw [gd_some] at he
      simp only [Bool.and_eq_true, beq_iff, blt_iff, ble_iff] at he
      obtain ⟨⟨⟨⟨⟨rfl, h1⟩, h2⟩, h3⟩, h4⟩, he⟩ := he
      split at he
      · rename_i b h5 hn
        injection he with he
        injection he with h6 h7
        subst h6; subst h7
        have hi := new_n hn
        subst hi
        simp only [RS.iv, RS.vv]
        refine ⟨h1, h2, h3, by omega, by omega, by have : ((eby * l' : Nat) : Int) ≤ 281474976710656 := by omega
                                                   simpa using this, fun bb hbb => ?_⟩
        have := Kt.new (kk := l') hM hn (wfss_rep _ _ _) hbb (x := .rows q (List.replicate l' (ez.map .v)) false l') (by simp only [io, ivss_rep, Cx.more, if_true]) (by simp [SO.len]) hk (by simp only [RS.wf]; omega)
        simpa only [RS.iv, RS.vv, Cx.more, if_true, Int.toNat_natCast] using this
      · cases he
    · cases he
  · cases he
/-! ### append -/
def eSrc (q : Nat) (byt : Bool) (h : Sto) : RS → Option (List (List RS))
  | .sl q' es => gd (Nat.beq q' q) (some es)
  | .fsl q' es => gd (Nat.beq q' q) (some es)
  | .v (.slice none 0 0) => some []
  | .v (.string s) => gd (byt && Nat.beq q 1) (some (s.data.toList.map rByte))
  | .row b n => match h.get b with
    | .rows q' es _ => gd (Nat.beq q' q && Nat.ble n es.length) (some (es.take n))
    | _ => none
  | .part b q1 l n => match h.get b with
    | .rows q' es _ => gd (Nat.beq q' q && Nat.beq q1 q && Nat.blt 0 q && Nat.ble (l + n) es.length) (some ((es.drop l).take n))
    | _ => none
  | _ => none
theorem eSrc_ok (hM : Mt σ0 c h σ) {q : Nat} {byt : Bool} {x : RS} {es : List (List RS)} (hx : x.wf h.n) (he : eSrc q byt h x = some es) : src q byt σ (x.iv c) = some (RS.ivss c es) := by
  unfold eSrc at he
  split at he
  · rw [gd_some, beq_iff] at he; obtain ⟨rfl, he⟩ := he; injection he with he; subst he; simp only [RS.iv, src, if_true]
  · rw [gd_some, beq_iff] at he; obtain ⟨rfl, he⟩ := he; injection he with he; subst he; simp only [RS.iv, src, if_true]
  · injection he with he; subst he; rfl
  · rw [gd_some, Bool.and_eq_true, beq_iff] at he
    obtain ⟨⟨h1, h2⟩, he⟩ := he; injection he with he; subst he
    simp only [RS.iv, RS.vv, src, rByte_iv]
    rw [if_pos ⟨h1, h2⟩]
  · rename_i b n
    split at he
    · rename_i q' es' frz hb
      rw [gd_some, Bool.and_eq_true, beq_iff, ble_iff] at he
      obtain ⟨⟨rfl, h1⟩, he⟩ := he
      injection he with he; subst he
      have hbn : b < h.n := by simpa only [RS.wf] using hx
      have h2 := hM.ob b (.rows q' (RS.ivss c es') frz (c.k b)) hbn (by rw [hb]; rfl)
      simp only [RS.iv, RS.vv, src, h2, ivss_len, ← ivss_take, Nat.zero_mod, Nat.zero_div, Nat.zero_add, List.drop_zero]
      rw [if_pos ⟨trivial, trivial, h1⟩]
    · cases he
  · rename_i b q1 l n
    split at he
    · rename_i q' es' frz hb
      simp only [gd_some, Bool.and_eq_true, beq_iff, ble_iff, blt_iff] at he
      obtain ⟨⟨⟨⟨rfl, rfl⟩, hq⟩, h1⟩, he⟩ := he
      injection he with he; subst he
      have hbn : b < h.n := by simpa only [RS.wf] using hx
      have h2 := hM.ob b (.rows q1 (RS.ivss c es') frz (c.k b)) hbn (by rw [hb]; rfl)
      simp only [RS.iv, RS.vv, src, h2, ivss_len, ← ivss_take, ← ivss_drop, Nat.mul_mod_left, Nat.mul_div_cancel _ hq]
      rw [if_pos ⟨trivial, trivial, h1⟩]
    · cases he
  · cases he
theorem eSrc_wf (hS : WfS h) {q : Nat} {byt : Bool} {x : RS} {es : List (List RS)} (hx : x.wf h.n) (he : eSrc q byt h x = some es) : RS.wfss h.n es := by
  unfold eSrc at he
  split at he
  · rw [gd_some] at he; have he := he.2; injection he with he; subst he; simpa only [RS.wf] using hx
  · rw [gd_some] at he; have he := he.2; injection he with he; subst he; simpa only [RS.wf] using hx
  · injection he with he; subst he; simp only [RS.wfss]
  · rw [gd_some] at he; have he := he.2; injection he with he; subst he; exact rByte_wf _ _
  · rename_i b n
    have hbn : b < h.n := by simpa only [RS.wf] using hx
    have hw := hS.ob b hbn
    split at he
    · rename_i q' es' frz hb
      rw [hb] at hw
      rw [gd_some] at he; have he := he.2; injection he with he; subst he
      exact wfss_take _ hw
    · cases he
  · rename_i b q1 l n
    have hbn : b < h.n := by simpa only [RS.wf] using hx
    have hw := hS.ob b hbn
    split at he
    · rename_i q' es' frz hb
      rw [hb] at hw
      rw [gd_some] at he; have he := he.2; injection he with he; subst he
      exact wfss_take _ (wfss_drop _ hw)
    · cases he
  · cases he
end
end Go.Av
