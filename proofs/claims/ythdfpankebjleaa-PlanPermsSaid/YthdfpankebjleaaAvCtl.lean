/-
  The program logic, part 10: whole operations, regions, branches, loops, functions and calls.
  Conditions: none (a library of definitions and lemmas over any program).
-/
import Derived.Test.YthdfpankebjleaaAvOps8
set_option linter.unusedVariables false
set_option linter.unusedSimpArgs false
namespace Go.Av
open Go Go.RowKit

/-! ### Calls -/
def callable (P : Program) (f : FuncId) : Bool :=
  match P.funcs[f]? with
  | some fn => fn.body.isSome && fn.name != "runtime.NumGoroutine"
  | none => false

/-- The function for which the model stands in: maps.clone. -/
def isClone (P : Program) (f : FuncId) : Bool :=
  match P.funcs[f]? with
  | some fn => fn.body.isNone && fn.name == "maps.clone" && (Extern.findNext fn).isNone
  | none => false
def aClone (args : List AV) (σ : St) (k : AV → St → Prop) : Prop :=
  match args with
  | [.v (.iface t (.map (some r)))] => match σ r with
    | some (.map kv) => ∀ b, σ b = none → k (.v (.iface t (.map (some b)))) (σ.set b (.map kv))
    | _ => False
  | _ => False
theorem aClone_mono {args : List AV} {σ : St} {k k' : AV → St → Prop} (hk : ∀ v σ, k v σ → k' v σ) (h : aClone args σ k) : aClone args σ k' := by
  unfold aClone at h ⊢
  split at h
  · split at h
    · exact fun b hb => hk _ _ (h b hb)
    · exact h.elim
  · exact h.elim
/-- Called with values that read as args, where σ is tracked, f returns what reads as r, σ' being tracked then, of which Q holds. What was not tracked is as it was. -/
def AT (P : Program) (f : FuncId) (args : List AV) (σ : St) (Q : AV → St → Prop) : Prop :=
  (callable P f = true ∧ ∀ F w vs, Rel F w σ → RVs F w args vs →
    Calls P f vs.toArray w fun e w' => ∃ x F' σ' r, e = .returned x ∧ Ext F w σ F' w' σ' ∧ Rel F' w' σ' ∧ RV F' w' r x ∧ Q r σ') ∨
  (isClone P f = true ∧ aClone args σ Q)

theorem AT.mono {P : Program} {f : FuncId} {args : List AV} {σ : St} {Q Q' : AV → St → Prop} (h : AT P f args σ Q) (hq : ∀ r σ', Q r σ' → Q' r σ') : AT P f args σ Q' :=
  h.imp (fun h => ⟨h.1, fun F w vs hs hv => (h.2 F w vs hs hv).mono fun e w' ⟨x, F', σ', r, h1, h2, h3, h4, h5⟩ => ⟨x, F', σ', r, h1, h2, h3, h4, hq r σ' h5⟩⟩) fun h => ⟨h.1, aClone_mono hq h.2⟩

/-! ### One operation -/
def notInt : Option TK → Bool
  | some { td := .int _, .. } => false
  | some _ => true
  | none => false

/-- A call of what a loop over a function hands to it. -/
def YC (P : Program) (l : Nat) (args : List AV) (σ : St) (k : AV → St → Prop) : Prop :=
  ∀ F w vs, Rel F w σ → RVs F w args vs → ∃ f tmps assign body, (Instr.yield l vs.toArray).run P w = .ok (.round l f tmps assign body) w ∧
    RoundIn Fence.wide 0 P l f tmps assign body w fun e w' => ∃ x F' σ' r, e = .returned x ∧ Ext F w σ F' w' σ' ∧ Rel F' w' σ' ∧ RV F' w' r x ∧ k r σ'
theorem YC.mono {P : Program} {l : Nat} {args : List AV} {σ : St} {k k' : AV → St → Prop} (h : YC P l args σ k) (hk : ∀ v σ, k v σ → k' v σ) : YC P l args σ k' := fun F w vs hs hv => by
  obtain ⟨f, tmps, assign, body, h1, h2⟩ := h F w vs hs hv
  exact ⟨f, tmps, assign, body, h1, h2.mono fun e w' ⟨x, F', σ', r, g1, g2, g3, g4, g5⟩ => ⟨x, F', σ', r, g1, g2, g3, g4, hk _ _ g5⟩⟩
/-- A call of a function value. -/
def aCallV (P : Program) (x : AV) (args : List AV) (σ : St) (k : AV → St → Prop) : Prop :=
  match x with
  | .v (.func (.yield l) first captured) => first.toList = [] ∧ captured.toList = [] ∧ YC P l args σ k
  | .v (.func (.func f) first captured) => AT P f (first.toList.map .v ++ args ++ captured.toList.map .v) σ k
  | _ => False
def aCallOp (P : Program) (c : Call) (fr : Fr) (σ : St) (k : AV → St → Prop) : Prop :=
  match c.callee with
  | .value (.func f) => AT P f (c.args.toList.map fr.ev) σ k
  | .value (.tmp t) => aCallV P (fr t) (c.args.toList.map fr.ev) σ k
  | .builtin .len => match c.args.toList, c.argTypes.toList with
    | [x], [t] => aLen (tk P t) (fr.ev x) fun v => k v σ
    | _, _ => False
  | .builtin .append => match c.args.toList, c.argTypes.toList with
    | [s, x], [t1, t2] => notInt (tk P t2) = true ∧ aApp (tk P t1) σ (fr.ev s) (fr.ev x) k
    | _, _ => False
  | .builtin b => aBI P b (c.args.toList.map fr.ev) c.argTypes.toList σ k
  | _ => False

def exact? : AV → Option Value
  | .v x => some x
  | _ => none
def exacts (ev : Operand → AV) : List Operand → Option (List Value)
  | [] => some []
  | x :: r => match ev x with
    | .v y => match exacts ev r with
      | some ys => some (y :: ys)
      | none => none
    | _ => none
/-- A function value: what it has caught must be values as they are. -/
def aFunc (fn : Fn) (ev : Operand → AV) (first captured : List Operand) (k : AV → Prop) : Prop :=
  match exacts ev first, exacts ev captured with
  | some xs, some ys => k (.v (.func fn xs.toArray ys.toArray))
  | _, _ => False

def aOp (P : Program) (o : Op) (fr : Fr) (σ : St) (k : AV → St → Prop) : Prop :=
  match o with
  | .move x => k (fr.ev x) σ
  | .assign x => k (fr.ev x) σ
  | .pick c x y => aPick (fr.ev c) (fr.ev x) (fr.ev y) fun v => k v σ
  | .alloc e => aAlloc (tk P e) σ k
  | .box _ x => aBox (fr.ev x) σ k
  | .build t ps => aBuild (tk P t) (evs fr.ev ps.toList) fun v => k v σ
  | .buildSlice t n ps => aBuildS (tk P t) n (evs fr.ev ps.toList) fun v => k v σ
  | .load t x => aLoad (tk P t) σ (fr.ev x) fun v => k v σ
  | .store t x y => aStore (tk P t) σ (fr.ev x) (fr.ev y) fun σ' => k (.v undef) σ'
  | .nilCheck x => aNil (fr.ev x) fun v => k v σ
  | .binOp op t x y _ => aBin P op t (fr.ev x) (fr.ev y) fun v => k v σ
  | .unOp op _ x => aUn op (fr.ev x) fun v => k v σ
  | .convert s d x => aConv (tk P s) (tk P d) σ (fr.ev x) k
  | .makeFunc fn first captured => aFunc fn fr.ev first.toList captured.toList fun v => k v σ
  | .slice t x lo hi mx => aSli (tk P t) σ (fr.ev x) (lo.map fr.ev) (hi.map fr.ev) (mx.map fr.ev) fun v => k v σ
  | .fieldAddr s x f => aFadr (tk P s) f (fr.ev x) fun v => k v σ
  | .field s x f => aFld (tk P s) f (fr.ev x) fun v => k v σ
  | .indexAddr t x ix => aIadr (tk P t) σ (fr.ev x) (fr.ev ix) fun v => k v σ
  | .index t x ix => aIdx (tk P t) (fr.ev x) (fr.ev ix) fun v => k v σ
  | .extract x j => aExt (fr.ev x) j fun v => k v σ
  | .call c => aCallOp P c fr σ k
  | o => aMore P o fr σ k

section
variable {P : Program} {o : Oper} {n : Nat} {fr : Fr} {a : Act} {F : Froz} {w : World} {σ : St} {k : AV → St → Prop}

theorem exacts_ok (hf : FrRel F w n fr a) : ∀ (l : List Operand) (ys : List Value), (∀ x ∈ l, opdIn n x = true) → exacts fr.ev l = some ys → l.map a.eval = ys
  | [], ys, _, h => by
    simp only [exacts, Option.some.injEq] at h
    subst h
    rfl
  | x :: l, ys, hin, h => by
    simp only [exacts] at h
    split at h
    · rename_i y hy
      split at h
      · rename_i zs hz
        injection h with h
        subst h
        have h1 := hf.ev x (hin x (by simp))
        rw [hy] at h1
        rw [List.map_cons, h1.eq, exacts_ok hf l zs (fun x hx => hin x (by simp [hx])) hz]
      · cases h
    · cases h

theorem args_ok (hf : FrRel F w n fr a) (l : List Operand) (hin : ∀ x ∈ l, opdIn n x = true) : RVs F w (l.map fr.ev) (l.map a.eval) :=
  ⟨by simp, fun j hj => by
    simp at hj
    have e1 : (l.map fr.ev).getD j (.v undef) = fr.ev l[j] := by simp [List.getD_eq_getElem?_getD, hj]
    have e2 : (l.map a.eval).getD j undef = a.eval l[j] := by simp [List.getD_eq_getElem?_getD, hj]
    rw [e1, e2]
    exact hf.ev _ (hin _ (List.getElem_mem hj))⟩
theorem RVs.append {cs cs' : List AV} {vs vs' : List Value} (h : RVs F w cs vs) (h' : RVs F w cs' vs') : RVs F w (cs ++ cs') (vs ++ vs') :=
  ⟨by simp [h.1, h'.1], fun j hj => by
    simp only [List.getD_eq_getElem?_getD]
    by_cases hlt : j < cs.length
    · rw [List.getElem?_append_left hlt, List.getElem?_append_left (by rw [h.1]; exact hlt)]
      simpa [List.getD_eq_getElem?_getD] using h.2 j hlt
    · rw [List.getElem?_append_right (by omega), List.getElem?_append_right (by rw [h.1]; omega), h.1]
      have := h'.2 (j - cs.length) (by simp at hj; omega)
      simpa [List.getD_eq_getElem?_getD] using this⟩

theorem call_ok {f : FuncId} {args : List AV} {vs : List Value} (hex : (execOp a.eval o).run P w = (callFunc f vs.toArray).run P w) (hs : Rel F w σ) (hv : RVs F w args vs) (h : AT P f args σ k) : OpOk P o a F w σ k := by
  rcases h with ⟨hc, h⟩ | ⟨hc, h⟩
  · intro ro next Q _ hn
    replace hn := next0 hn
    have hrun : (callFunc f vs.toArray).run P w = .ok (.enter f vs.toArray) w := by
      unfold callable at hc
      split at hc
      · rename_i fn hfn
        simp only [Bool.and_eq_true] at hc
        have h1 : ¬ fn.name = "runtime.NumGoroutine" := by
          have := hc.2
          simpa [bne] using this
        have h2 : ¬ fn.body = none := by intro e; simp [e] at hc
        simp [callFunc, hfn, h1, h2]
      · cases hc
    refine ⟨fun _ _ => trivial, ?_⟩
    rw [semAt_of _ (hex.trans hrun) (fun d h => by cases h), hex, hrun]
    refine ⟨(fun h => by cases h), ?_⟩
    refine (callsIn_wide (n := 0)).2 ((h F w vs hs hv).mono ?_)
    rintro e w' ⟨x, F', σ', r, h1, h2, h3, h4, h5⟩
    subst h1
    exact hn F' w' x r σ' h2 h3 h4 h5
  · unfold isClone at hc
    split at hc
    · rename_i fn hfn
      simp only [Bool.and_eq_true, beq_iff_eq] at hc
      unfold aClone at h
      split at h
      · rename_i t r
        have hv1 : vs = [.iface t (.map (some r))] := by
          match vs, hv with
          | [x], hv => rw [show x = _ from (hv.2 0 (by simp)).eq]
          | [], hv => exact absurd hv.1 (by simp)
          | _ :: _ :: _, hv => exact absurd hv.1 (by simp)
        split at h
        · rename_i kv hr
          obtain ⟨es, clk, g1, g2, g3⟩ := hs.obj r _ hr
          have hfind : Extern.find fn = some Extern.MapsClone.clone := by
            unfold Extern.find
            rw [hc.1.2]
            rfl
          have hnext : Extern.findNext fn = none := by
            cases hq : Extern.findNext fn with
            | none => rfl
            | some x => rw [hq] at hc; exact absurd hc.2 (by simp)
          have hrun := run_callFunc_extern (P := P) hfn (by rw [hc.1.2]; rfl) hc.1.1 hnext hfind #[.iface t (.map (some r))] w
          have hcl : (Extern.MapsClone.clone #[.iface t (.map (some r))]).run P w = .ok (.iface t (.map (some w.heap.size))) (w.alloc (.map es clk)) := by
            have e : Extern.MapsClone.clone #[.iface t (.map (some r))] = (getObj r >>= fun o => match o with
                | .map entries clock => (newObj (.map entries clock) >>= fun n => pure (.iface t (.map (some n))))
                | _ => stuck "maps.clone: a map expected") := rfl
            rw [e]
            simp only [Sem.run_bind, Go.MapKept.run_getObj_map g1, Result.andThen_ok]
            rfl
          obtain ⟨r1, r2⟩ := rel_alloc hs (.map es clk) (.map kv) ⟨es, clk, heap_alloc_new w _, hs.lt _ (Nat.le_refl _), g3.mono (Keeps.alloc hs _)⟩
          have hrun2 : (execOp a.eval o).run P w = .ok (.value (.iface t (.map (some w.heap.size)))) (w.alloc (.map es clk)) := by
            rw [hex, hv1, show ([Value.iface t (.map (some r))].toArray) = #[.iface t (.map (some r))] from rfl, hrun, hcl]
            rfl
          intro ro next Q _ hn
          replace hn := next0 hn
          refine ⟨fun _ _ => trivial, ?_⟩
          rw [semAt_of _ hrun2 (fun d h => by cases h), hrun2]
          exact hn F _ _ _ _ r2 r1 (.v _) (h _ (fresh_none hs (Nat.le_refl _)))
        · exact h.elim
      · exact h.elim
    · cases hc

theorem okOper_opd {ops : Array Oper} (h : okOper n ops o = true) (x : Operand) (hx : x ∈ o.op.operands) : opdIn n x = true := by
  simp only [okOper, Bool.and_eq_true] at h
  exact Array.all_eq_true_iff_forall_mem.1 h.1.1 x hx
theorem okOper_dst {ops : Array Oper} (h : okOper n ops o = true) (t : Nat) (ht : o.dst = some t) : t < n := by
  simp only [okOper, Bool.and_eq_true, ht] at h
  simpa using h.1.2

theorem aOp_sound {ops : Array Oper} (hok : okOper n ops o = true) (hf : FrRel F w n fr a) (hs : Rel F w σ) (h : aOp P o.op fr σ k) : OpOk P o a F w σ k := by
  have hin := fun x => okOper_opd (o := o) hok x
  cases ho : o.op with
  | move x =>
    rw [ho] at h
    simp only [aOp] at h
    exact opOk_pure hs (x := a.eval x) (by simp [execOp, ho]) (hf.ev x (hin x (by simp [ho, Op.operands]))) h
  | assign x =>
    rw [ho] at h
    simp only [aOp] at h
    exact opOk_pure hs (x := a.eval x) (by simp [execOp, ho]) (hf.ev x (hin x (by simp [ho, Op.operands]))) h
  | pick c x y =>
    rw [ho] at h
    simp only [aOp] at h
    exact quiet_ok (sound_pick ho (hin _ (by simp [ho, Op.operands])) (hin _ (by simp [ho, Op.operands])) (hin _ (by simp [ho, Op.operands])) hf h) hs fun _ h => h
  | alloc e =>
    rw [ho] at h
    simp only [aOp] at h
    exact sound_alloc ho hs h
  | box e x =>
    rw [ho] at h
    simp only [aOp] at h
    exact sound_box ho (hin _ (by simp [ho, Op.operands])) hf hs h
  | build t ps =>
    rw [ho] at h
    simp only [aOp] at h
    refine quiet_ok (sound_build ho (fun p hp => hin _ ?_) hf h) hs fun _ h => h
    simp only [ho, Op.operands, List.mem_toArray]
    exact List.mem_map.2 ⟨p, hp, rfl⟩
  | buildSlice t len ps =>
    rw [ho] at h
    simp only [aOp] at h
    refine (sound_buildS ho (fun p hp => hin _ ?_) hf hs h).mono fun v σ' ⟨e, h⟩ => by subst e; exact h
    simp only [ho, Op.operands, List.mem_toArray]
    exact List.mem_map.2 ⟨p, hp, rfl⟩
  | load t x =>
    rw [ho] at h
    simp only [aOp] at h
    exact (sound_load ho (hin _ (by simp [ho, Op.operands])) hf hs h).mono fun v σ' ⟨e, h⟩ => by subst e; exact h
  | store t x y =>
    rw [ho] at h
    simp only [aOp] at h
    exact (sound_store ho (hin _ (by simp [ho, Op.operands])) (hin _ (by simp [ho, Op.operands])) hf hs h).mono fun v σ' ⟨e, h⟩ => by subst e; exact h
  | nilCheck x =>
    rw [ho] at h
    simp only [aOp] at h
    exact quiet_ok (sound_nil ho (hin _ (by simp [ho, Op.operands])) hf h) hs fun _ h => h
  | binOp op t x y ty =>
    rw [ho] at h
    simp only [aOp] at h
    exact quiet_ok (sound_bin ho (hin _ (by simp [ho, Op.operands])) (hin _ (by simp [ho, Op.operands])) hf h) hs fun _ h => h
  | unOp op t x =>
    rw [ho] at h
    simp only [aOp] at h
    exact quiet_ok (sound_un ho (hin _ (by simp [ho, Op.operands])) hf h) hs fun _ h => h
  | convert s d x =>
    rw [ho] at h
    simp only [aOp] at h
    exact sound_conv ho (hin _ (by simp [ho, Op.operands])) hf hs h
  | makeFunc fn first captured =>
    rw [ho] at h
    simp only [aOp, aFunc] at h
    split at h
    · rename_i xs ys hx hy
      have e1 := exacts_ok hf _ _ (fun x hm => hin x (by simp [ho, Op.operands]; left; simpa using hm)) hx
      have e2 := exacts_ok hf _ _ (fun x hm => hin x (by simp [ho, Op.operands]; right; simpa using hm)) hy
      refine opOk_pure hs (x := .func fn xs.toArray ys.toArray) ?_ (.v _) h
      have f1 : first.map a.eval = xs.toArray := by apply Array.ext'; simpa using e1
      have f2 : captured.map a.eval = ys.toArray := by apply Array.ext'; simpa using e2
      simp [execOp, ho, Instr.makeFunc, f1, f2]
    · exact h.elim
  | slice t x lo hi mx =>
    rw [ho] at h
    simp only [aOp] at h
    refine quiet_ok (sound_sli ho (hin _ (by simp [ho, Op.operands])) (fun y hy => hin y (by simp [ho, Op.operands, hy])) (fun y hy => hin y (by simp [ho, Op.operands, hy])) (fun y hy => hin y (by simp [ho, Op.operands, hy])) hf hs h) hs fun _ h => h
  | fieldAddr s x f =>
    rw [ho] at h
    simp only [aOp] at h
    exact quiet_ok (sound_fadr ho (hin _ (by simp [ho, Op.operands])) hf h) hs fun _ h => h
  | field s x f =>
    rw [ho] at h
    simp only [aOp] at h
    exact quiet_ok (sound_fld ho (hin _ (by simp [ho, Op.operands])) hf h) hs fun _ h => h
  | indexAddr t x ix =>
    rw [ho] at h
    simp only [aOp] at h
    exact quiet_ok (sound_iadr ho (hin _ (by simp [ho, Op.operands])) (hin _ (by simp [ho, Op.operands])) hf h) hs fun _ h => h
  | index t x ix =>
    rw [ho] at h
    simp only [aOp] at h
    exact quiet_ok (sound_idx ho (hin _ (by simp [ho, Op.operands])) (hin _ (by simp [ho, Op.operands])) hf h) hs fun _ h => h
  | extract x j =>
    rw [ho] at h
    simp only [aOp] at h
    exact quiet_ok (sound_ext ho (hin _ (by simp [ho, Op.operands])) hf h) hs fun _ h => h
  | call c =>
    rw [ho] at h
    obtain ⟨callee, args, argTypes⟩ := c
    simp only [aOp, aCallOp] at h
    have hargs : ∀ x ∈ args.toList, opdIn n x = true := fun x hx => hin x (by simp [ho, Op.operands, Call.operands]; right; simpa using hx)
    cases callee with
    | value y =>
      cases y with
      | func f =>
        refine call_ok (vs := args.toList.map a.eval) ?_ hs (args_ok hf _ hargs) h
        have : args.map a.eval = (args.toList.map a.eval).toArray := by apply Array.ext'; simp
        simp [execOp, ho, resolve, Deferred.ofValue, Act.eval, invoke, this]
      | tmp t =>
        simp only [aCallV] at h
        split at h
        · rename_i l first captured hfr
          obtain ⟨h1, h2, h⟩ := h
          have hev := hf.ev (.tmp t) (hin _ (by simp [ho, Op.operands, Call.operands]))
          simp only [Fr.ev, hfr] at hev
          have he := hev.eq
          have hfi : first = #[] := by apply Array.ext'; simpa using h1
          have hca : captured = #[] := by apply Array.ext'; simpa using h2
          obtain ⟨f, tmps, assign, body, hy, hr⟩ := h F w (args.toList.map a.eval) hs (args_ok hf _ hargs)
          have hrun : (execOp a.eval o).run P w = .ok (.round l f tmps assign body) w := by
            have : args.map a.eval = (args.toList.map a.eval).toArray := by apply Array.ext'; simp
            simp only [execOp, ho, resolve, he, hfi, hca, Deferred.ofValue, Sem.run_bind, Sem.run_pure, Result.andThen_ok, invoke, this, Array.empty_append]
            exact hy
          intro ro next Q _ hn
          replace hn := next0 hn
          refine ⟨fun _ _ => trivial, ?_⟩
          rw [semAt_of _ hrun (fun d h => by cases h), hrun]
          refine ⟨(fun h => by cases h), ?_⟩
          refine RoundIn.mono (F := Fence.wide) (n := 0) hr ?_
          rintro e w' ⟨x, F', σ', r, g1, g2, g3, g4, g5⟩
          subst g1
          exact hn F' w' x r σ' g2 g3 g4 g5
        · rename_i f first captured hfr
          have hev := hf.ev (.tmp t) (hin _ (by simp [ho, Op.operands, Call.operands]))
          simp only [Fr.ev, hfr] at hev
          have he := hev.eq
          refine call_ok (vs := first.toList ++ args.toList.map a.eval ++ captured.toList) ?_ hs (((RVs.ofVals F w _).append (args_ok hf _ hargs)).append (RVs.ofVals F w _)) h
          have : first ++ args.map a.eval ++ captured = (first.toList ++ args.toList.map a.eval ++ captured.toList).toArray := by apply Array.ext'; simp
          simp only [execOp, ho, resolve, he, Deferred.ofValue, Sem.run_bind, Sem.run_pure, Result.andThen_ok, invoke, this]
        · exact h.elim
      | _ => exact h.elim
    | invoke r m => exact h.elim
    | builtin b =>
      cases b <;> simp only at h
      case len =>
        split at h
        · rename_i x t hx ht
          obtain rfl : args = #[x] := by apply Array.ext'; simpa using hx
          obtain rfl : argTypes = #[t] := by apply Array.ext'; simpa using ht
          exact quiet_ok (sound_len ho (hargs x (by simp)) hf h) hs fun _ h => h
        · exact h.elim
      case append =>
        split at h
        · rename_i s x t1 t2 hx ht
          obtain rfl : args = #[s, x] := by apply Array.ext'; simpa using hx
          obtain rfl : argTypes = #[t1, t2] := by apply Array.ext'; simpa using ht
          refine sound_app ho (hargs s (by simp)) (hargs x (by simp)) hf hs ?_ h.2
          have hn := h.1
          cases hq : tk P t2 with
          | none => rw [hq] at hn; cases hn
          | some j =>
            refine ⟨j, rfl, fun q e => ?_⟩
            rw [hq] at hn
            obtain ⟨ag, sz, zr, td⟩ := j
            simp only at e
            subst e
            cases hn
        · exact h.elim
      all_goals first
        | exact h.elim
        | exact aBI_sound (args := args.toList) (ts := argTypes.toList) (by rw [ho]) hargs hf hs h
  | _ => exact aMore_sound hin hf hs (by rw [ho] at h ⊢; exact h)
end
end Go.Av
