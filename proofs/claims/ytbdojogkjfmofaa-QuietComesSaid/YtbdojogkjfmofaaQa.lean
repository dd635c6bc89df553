/-
  What one node's part (package quiet) computes, function by function; and the document's (avowalref24).
  Conditions: none.
-/
import Derived.Test.YtbdojogkjfmofaaTy
import Derived.Test.YtbdojogkjfmofaaAvPlan
set_option linter.unusedVariables false
set_option linter.unusedSimpArgs false
namespace Go.Proofs.Ytbdojogkjfmofaa
open Go Go.Av

abbrev ptr (b : Nat) : AV := .v (.pointer (some ⟨b, 0, none⟩))
abbrev int (n : Int) : AV := .v (.int .i64 n)
abbrev boo (b : Bool) : AV := .v (.bool b)
abbrev str (s : ByteArray) : AV := .v (.string s)
abbrev nost : ByteArray := ⟨#[]⟩

/-- One node's part. -/
structure Qs where
  busy : Bool
  by' : ByteArray
  debt : Int
  root : Bool
  made : Bool
def qO (s : Qs) : AObj := .cells [boo s.busy, str s.by', int s.debt, boo s.root, boo s.made]
/-- The document's. -/
structure Rs where
  root : Bool
  busy : Bool
  by' : ByteArray
  debt : Int
def rO (s : Rs) : AObj := .cells [boo s.root, boo s.busy, str s.by', int s.debt]

section
variable {σ : St} {b : Nat}
set_option maxRecDepth 100000

theorem none_at {s : Qs} (h : σ b = some (qO s)) : AT Try.prog 30 [ptr b] σ fun r σ' => r = boo (!s.made) ∧ σ' = σ := by
  refine AT.of_body Try.func30 rfl (by decide) (by kernel_rfl) (by kernel_rfl) (Nat.le_of_ble_eq_true rfl) ?_
  unfold qO at h
  simp only [go_sem, r_block, h, reduceIte, Nat.reduceEqDiff, Nat.reduceAdd, Nat.reduceLT, Nat.reduceLeDiff]
  exact aRet_as (r := boo (!s.made)) rfl ⟨rfl, rfl⟩

theorem new_at {root : Bool} : AT Try.prog 15 [boo root] σ fun r σ' => ∃ b, σ b = none ∧ r = ptr b ∧ σ' = σ.set b (qO ⟨false, nost, 0, root, true⟩) := by
  refine AT.of_body Try.func15 rfl (by decide) (by kernel_rfl) (by kernel_rfl) (Nat.le_of_ble_eq_true rfl) ?_
  simp only [go_sem, r_block, reduceIte, Nat.reduceEqDiff, Nat.reduceAdd, Nat.reduceLT, Nat.reduceLeDiff]
  refine aNew_intro fun b hb _ => ?_
  simp only [go_sem, r_block, reduceIte, Nat.reduceEqDiff, Nat.reduceAdd, Nat.reduceLT, Nat.reduceLeDiff]
  exact aRet_as (r := ptr b) rfl ⟨b, hb, rfl, rfl⟩

def Qs.begin (s : Qs) : Int × Qs := if !s.made then (1, s) else if !s.root then (2, s) else if s.busy then (240, s) else (0, { s with busy := true })
theorem begin_at {s : Qs} (h : σ b = some (qO s)) : AT Try.prog 9 [ptr b] σ fun r σ' => r = int s.begin.1 ∧ σ' = σ.set b (qO s.begin.2) := by
  refine AT.of_body Try.func9 rfl (by decide) (by kernel_rfl) (by kernel_rfl) (Nat.le_of_ble_eq_true rfl) ?_
  simp only [go_sem, r_block, reduceIte, Nat.reduceEqDiff, Nat.reduceAdd, Nat.reduceLT, Nat.reduceLeDiff]
  refine (none_at h).mono ?_
  rintro r σ' ⟨rfl, rfl⟩
  obtain ⟨busy, by', debt, root, made⟩ := s
  have hid := (set_id h).symm
  unfold qO at h
  cases made <;> cases root <;> cases busy <;> simp only [go_sem, r_block, h, reduceIte, Nat.reduceEqDiff, Nat.reduceAdd, Nat.reduceLT, Nat.reduceLeDiff] <;> exact aRet_as (r := int _) rfl ⟨rfl, by first | rfl | exact hid⟩
def Qs.got (s : Qs) (f : ByteArray) : Bool × Qs := if !s.made then (false, s) else if s.root || s.busy then (true, s) else (false, { s with busy := true, by' := f })
theorem got_at {s : Qs} {f : ByteArray} (h : σ b = some (qO s)) : AT Try.prog 17 [ptr b, str f] σ fun r σ' => r = boo (s.got f).1 ∧ σ' = σ.set b (qO (s.got f).2) := by
  refine AT.of_body Try.func17 rfl (by decide) (by kernel_rfl) (by kernel_rfl) (Nat.le_of_ble_eq_true rfl) ?_
  simp only [go_sem, r_block, reduceIte, Nat.reduceEqDiff, Nat.reduceAdd, Nat.reduceLT, Nat.reduceLeDiff]
  refine (none_at h).mono ?_
  rintro r σ' ⟨rfl, rfl⟩
  obtain ⟨busy, by', debt, root, made⟩ := s
  have hid := (set_id h).symm
  unfold qO at h
  cases made <;> cases root <;> cases busy <;> simp only [go_sem, r_block, h, reduceIte, Nat.reduceEqDiff, Nat.reduceAdd, Nat.reduceLT, Nat.reduceLeDiff] <;> exact aRet_as (r := boo _) rfl ⟨rfl, by first | rfl | exact hid⟩

def Qs.sent (s : Qs) : Int × Qs := if !s.made then (1, s) else if !s.busy then (261, s) else (0, { s with debt := IntKind.i64.wrap (s.debt + 1) })
theorem sent_at {s : Qs} (h : σ b = some (qO s)) : AT Try.prog 19 [ptr b] σ fun r σ' => r = int s.sent.1 ∧ σ' = σ.set b (qO s.sent.2) := by
  refine AT.of_body Try.func19 rfl (by decide) (by kernel_rfl) (by kernel_rfl) (Nat.le_of_ble_eq_true rfl) ?_
  simp only [go_sem, r_block, reduceIte, Nat.reduceEqDiff, Nat.reduceAdd, Nat.reduceLT, Nat.reduceLeDiff]
  refine (none_at h).mono ?_
  rintro r σ' ⟨rfl, rfl⟩
  obtain ⟨busy, by', debt, root, made⟩ := s
  have hid := (set_id h).symm
  unfold qO at h
  cases made <;> cases root <;> cases busy <;> simp only [go_sem, r_block, h, reduceIte, Nat.reduceEqDiff, Nat.reduceAdd, Nat.reduceLT, Nat.reduceLeDiff] <;> exact aRet_as (r := int _) rfl ⟨rfl, by first | rfl | exact hid⟩

def Qs.signal (s : Qs) : Int × Qs := if !s.made then (1, s) else if s.debt = 0 then (220, s) else (0, { s with debt := IntKind.i64.wrap (s.debt - 1) })
theorem signal_at {s : Qs} (h : σ b = some (qO s)) : AT Try.prog 21 [ptr b] σ fun r σ' => r = int s.signal.1 ∧ σ' = σ.set b (qO s.signal.2) := by
  refine AT.of_body Try.func21 rfl (by decide) (by kernel_rfl) (by kernel_rfl) (Nat.le_of_ble_eq_true rfl) ?_
  simp only [go_sem, r_block, reduceIte, Nat.reduceEqDiff, Nat.reduceAdd, Nat.reduceLT, Nat.reduceLeDiff]
  refine (none_at h).mono ?_
  rintro r σ' ⟨rfl, rfl⟩
  obtain ⟨busy, by', debt, root, made⟩ := s
  have hid := (set_id h).symm
  unfold qO at h
  cases made
  · simp only [go_sem, r_block, h, reduceIte, Nat.reduceEqDiff, Nat.reduceAdd, Nat.reduceLT, Nat.reduceLeDiff]
    exact aRet_as (r := int _) rfl ⟨rfl, hid⟩
  · simp only [go_sem, r_block, h, reduceIte, Nat.reduceEqDiff, Nat.reduceAdd, Nat.reduceLT, Nat.reduceLeDiff]
    refine aIf_by (fun hd => ?_) (fun hd => ?_) <;> simp only [go_sem, r_block, h, reduceIte, Nat.reduceEqDiff, Nat.reduceAdd, Nat.reduceLT, Nat.reduceLeDiff]
    · exact aRet_as (r := int _) rfl (by simp [Qs.signal, hd]; simpa [hd] using hid)
    · exact aRet_as (r := int _) rfl (by simp [Qs.signal, hd, qO])

def Qs.rest (s : Qs) : (ByteArray × Bool × Bool) × Qs := if !s.made || !s.busy || decide (0 < s.debt) then ((nost, false, false), s) else ((s.by', !s.root, s.root), { s with busy := false, by' := nost, debt := 0 })
theorem rest_at {s : Qs} (h : σ b = some (qO s)) : AT Try.prog 23 [ptr b] σ fun r σ' => r = .tup [str s.rest.1.1, boo s.rest.1.2.1, boo s.rest.1.2.2] ∧ σ' = σ.set b (qO s.rest.2) := by
  refine AT.of_body Try.func23 rfl (by decide) (by kernel_rfl) (by kernel_rfl) (Nat.le_of_ble_eq_true rfl) ?_
  simp only [go_sem, r_block, reduceIte, Nat.reduceEqDiff, Nat.reduceAdd, Nat.reduceLT, Nat.reduceLeDiff]
  refine (none_at h).mono ?_
  rintro r σ' ⟨rfl, rfl⟩
  obtain ⟨busy, by', debt, root, made⟩ := s
  have hid := (set_id h).symm
  unfold qO at h
  cases made
  · simp only [go_sem, r_block, h, reduceIte, Nat.reduceEqDiff, Nat.reduceAdd, Nat.reduceLT, Nat.reduceLeDiff]
    exact aRet_as (r := .tup [_, _, _]) rfl ⟨rfl, hid⟩
  · cases busy
    · simp only [go_sem, r_block, h, reduceIte, Nat.reduceEqDiff, Nat.reduceAdd, Nat.reduceLT, Nat.reduceLeDiff]
      exact aRet_as (r := .tup [_, _, _]) rfl ⟨rfl, hid⟩
    · simp only [go_sem, r_block, h, reduceIte, Nat.reduceEqDiff, Nat.reduceAdd, Nat.reduceLT, Nat.reduceLeDiff]
      refine aIf_by (fun hd => ?_) (fun hd => ?_) <;> simp only [go_sem, r_block, h, reduceIte, Nat.reduceEqDiff, Nat.reduceAdd, Nat.reduceLT, Nat.reduceLeDiff]
      · exact aRet_as (r := .tup [str nost, boo false, boo false]) rfl (by simp [Qs.rest, hd]; exact hid)
      · refine aDraw_plan [.rd 0 false, .rd 1 false, .rd 2 false, .rd 3 false, .rd 4 true, .rd 5 false, .rd 6 false, .rd 7 false, .rd 8 false, .rd 9 true, .rd 10 false, .rd 11 false, .rd 12 false] (by kernel_rfl) (by kernel_rfl) (by kernel_rfl) ?_
        simp only [go_sem, r_block, h, reduceIte, Nat.reduceEqDiff, Nat.reduceAdd, Nat.reduceLT, Nat.reduceLeDiff]
        exact aRet_as (r := .tup [str by', boo (!root), boo root]) rfl (by simp [Qs.rest, hd, qO])

def Qs.free (s : Qs) : Bool := !s.made || !s.busy
theorem free_at {s : Qs} (h : σ b = some (qO s)) : AT Try.prog 26 [ptr b] σ fun r σ' => r = boo s.free ∧ σ' = σ := by
  refine AT.of_body Try.func26 rfl (by decide) (by kernel_rfl) (by kernel_rfl) (Nat.le_of_ble_eq_true rfl) ?_
  simp only [go_sem, r_block, reduceIte, Nat.reduceEqDiff, Nat.reduceAdd, Nat.reduceLT, Nat.reduceLeDiff]
  refine (none_at h).mono ?_
  rintro r σ' ⟨rfl, rfl⟩
  obtain ⟨busy, by', debt, root, made⟩ := s
  unfold qO at h
  cases made <;> simp only [go_sem, r_block, h, reduceIte, Nat.reduceEqDiff, Nat.reduceAdd, Nat.reduceLT, Nat.reduceLeDiff] <;> exact aRet_as (r := boo _) rfl ⟨rfl, rfl⟩

def Qs.owes (s : Qs) : Int := if s.made then s.debt else 0
theorem debt_at {s : Qs} (h : σ b = some (qO s)) : AT Try.prog 27 [ptr b] σ fun r σ' => r = int s.owes ∧ σ' = σ := by
  refine AT.of_body Try.func27 rfl (by decide) (by kernel_rfl) (by kernel_rfl) (Nat.le_of_ble_eq_true rfl) ?_
  simp only [go_sem, r_block, reduceIte, Nat.reduceEqDiff, Nat.reduceAdd, Nat.reduceLT, Nat.reduceLeDiff]
  refine (none_at h).mono ?_
  rintro r σ' ⟨rfl, rfl⟩
  obtain ⟨busy, by', debt, root, made⟩ := s
  unfold qO at h
  cases made <;> simp only [go_sem, r_block, h, reduceIte, Nat.reduceEqDiff, Nat.reduceAdd, Nat.reduceLT, Nat.reduceLeDiff] <;> exact aRet_as (r := int _) rfl ⟨rfl, rfl⟩

def Qs.who (s : Qs) : ByteArray := if s.made then s.by' else nost
theorem by_at {s : Qs} (h : σ b = some (qO s)) : AT Try.prog 28 [ptr b] σ fun r σ' => r = str s.who ∧ σ' = σ := by
  refine AT.of_body Try.func28 rfl (by decide) (by kernel_rfl) (by kernel_rfl) (Nat.le_of_ble_eq_true rfl) ?_
  simp only [go_sem, r_block, reduceIte, Nat.reduceEqDiff, Nat.reduceAdd, Nat.reduceLT, Nat.reduceLeDiff]
  refine (none_at h).mono ?_
  rintro r σ' ⟨rfl, rfl⟩
  obtain ⟨busy, by', debt, root, made⟩ := s
  unfold qO at h
  cases made <;> simp only [go_sem, r_block, h, reduceIte, Nat.reduceEqDiff, Nat.reduceAdd, Nat.reduceLT, Nat.reduceLeDiff] <;> exact aRet_as (r := str _) rfl ⟨rfl, rfl⟩

def Qs.reset (s : Qs) : Qs := if s.made then { s with busy := false, by' := nost, debt := 0 } else s
theorem reset_at {s : Qs} (h : σ b = some (qO s)) : AT Try.prog 25 [ptr b] σ fun r σ' => σ' = σ.set b (qO s.reset) := by
  refine AT.of_body Try.func25 rfl (by decide) (by kernel_rfl) (by kernel_rfl) (Nat.le_of_ble_eq_true rfl) ?_
  simp only [go_sem, r_block, reduceIte, Nat.reduceEqDiff, Nat.reduceAdd, Nat.reduceLT, Nat.reduceLeDiff]
  refine (none_at h).mono ?_
  rintro r σ' ⟨rfl, rfl⟩
  obtain ⟨busy, by', debt, root, made⟩ := s
  have hid := (set_id h).symm
  unfold qO at h
  cases made <;> simp only [go_sem, r_block, h, reduceIte, Nat.reduceEqDiff, Nat.reduceAdd, Nat.reduceLT, Nat.reduceLeDiff] <;> exact aRet_as (r := .tup []) rfl (by first | rfl | exact hid)

/-! The document's. -/
def Rs.begin (s : Rs) : Int × Rs := if !s.root then (2, s) else if s.busy then (240, s) else (0, { s with busy := true })
theorem rbegin_at {s : Rs} (h : σ b = some (rO s)) : AT Try.prog 16 [ptr b] σ fun r σ' => r = int s.begin.1 ∧ σ' = σ.set b (rO s.begin.2) := by
  refine AT.of_body Try.func16 rfl (by decide) (by kernel_rfl) (by kernel_rfl) (Nat.le_of_ble_eq_true rfl) ?_
  obtain ⟨root, busy, by', debt⟩ := s
  have hid := (set_id h).symm
  unfold rO at h
  cases root <;> cases busy <;> simp only [go_sem, r_block, h, reduceIte, Nat.reduceEqDiff, Nat.reduceAdd, Nat.reduceLT, Nat.reduceLeDiff] <;> exact aRet_as (r := int _) rfl ⟨rfl, by first | rfl | exact hid⟩

def Rs.got (s : Rs) (f : ByteArray) : Bool × Rs := if s.busy || s.root then (true, s) else (false, { s with busy := true, by' := f })
theorem rgot_at {s : Rs} {f : ByteArray} (h : σ b = some (rO s)) : AT Try.prog 18 [ptr b, str f] σ fun r σ' => r = boo (s.got f).1 ∧ σ' = σ.set b (rO (s.got f).2) := by
  refine AT.of_body Try.func18 rfl (by decide) (by kernel_rfl) (by kernel_rfl) (Nat.le_of_ble_eq_true rfl) ?_
  obtain ⟨root, busy, by', debt⟩ := s
  have hid := (set_id h).symm
  unfold rO at h
  cases root <;> cases busy <;> simp only [go_sem, r_block, h, reduceIte, Nat.reduceEqDiff, Nat.reduceAdd, Nat.reduceLT, Nat.reduceLeDiff] <;> exact aRet_as (r := boo _) rfl ⟨rfl, by first | rfl | exact hid⟩

def Rs.sent (s : Rs) : Int × Rs := if !s.busy then (261, s) else (0, { s with debt := IntKind.i64.wrap (s.debt + 1) })
theorem rsent_at {s : Rs} (h : σ b = some (rO s)) : AT Try.prog 20 [ptr b] σ fun r σ' => r = int s.sent.1 ∧ σ' = σ.set b (rO s.sent.2) := by
  refine AT.of_body Try.func20 rfl (by decide) (by kernel_rfl) (by kernel_rfl) (Nat.le_of_ble_eq_true rfl) ?_
  obtain ⟨root, busy, by', debt⟩ := s
  have hid := (set_id h).symm
  unfold rO at h
  cases busy <;> simp only [go_sem, r_block, h, reduceIte, Nat.reduceEqDiff, Nat.reduceAdd, Nat.reduceLT, Nat.reduceLeDiff] <;> exact aRet_as (r := int _) rfl ⟨rfl, by first | rfl | exact hid⟩

def Rs.signal (s : Rs) : Int × Rs := if s.debt < 1 then (220, s) else (0, { s with debt := IntKind.i64.wrap (s.debt - 1) })
theorem rsignal_at {s : Rs} (h : σ b = some (rO s)) : AT Try.prog 22 [ptr b] σ fun r σ' => r = int s.signal.1 ∧ σ' = σ.set b (rO s.signal.2) := by
  refine AT.of_body Try.func22 rfl (by decide) (by kernel_rfl) (by kernel_rfl) (Nat.le_of_ble_eq_true rfl) ?_
  obtain ⟨root, busy, by', debt⟩ := s
  have hid := (set_id h).symm
  unfold rO at h
  simp only [go_sem, r_block, h, reduceIte, Nat.reduceEqDiff, Nat.reduceAdd, Nat.reduceLT, Nat.reduceLeDiff]
  refine aIf_by (fun hd => ?_) (fun hd => ?_) <;> simp only [go_sem, r_block, h, reduceIte, Nat.reduceEqDiff, Nat.reduceAdd, Nat.reduceLT, Nat.reduceLeDiff]
  · exact aRet_as (r := int _) rfl (by simp [Rs.signal, hd]; simpa [hd] using hid)
  · exact aRet_as (r := int _) rfl (by simp [Rs.signal, hd, rO])

def Rs.rest (s : Rs) : (ByteArray × Bool × Bool) × Rs := if !s.busy || decide (0 < s.debt) then ((nost, false, false), s) else if s.root then ((nost, false, true), { s with busy := false }) else ((s.by', true, false), { s with busy := false, by' := nost })
theorem rrest_at {s : Rs} (h : σ b = some (rO s)) : AT Try.prog 24 [ptr b] σ fun r σ' => r = .tup [str s.rest.1.1, boo s.rest.1.2.1, boo s.rest.1.2.2] ∧ σ' = σ.set b (rO s.rest.2) := by
  refine AT.of_body Try.func24 rfl (by decide) (by kernel_rfl) (by kernel_rfl) (Nat.le_of_ble_eq_true rfl) ?_
  obtain ⟨root, busy, by', debt⟩ := s
  have hid := (set_id h).symm
  unfold rO at h
  cases busy
  · simp only [go_sem, r_block, h, reduceIte, Nat.reduceEqDiff, Nat.reduceAdd, Nat.reduceLT, Nat.reduceLeDiff]
    exact aRet_as (r := .tup [_, _, _]) rfl ⟨rfl, hid⟩
  · simp only [go_sem, r_block, h, reduceIte, Nat.reduceEqDiff, Nat.reduceAdd, Nat.reduceLT, Nat.reduceLeDiff]
    refine aIf_by (fun hd => ?_) (fun hd => ?_) <;> simp only [go_sem, r_block, h, reduceIte, Nat.reduceEqDiff, Nat.reduceAdd, Nat.reduceLT, Nat.reduceLeDiff]
    · exact aRet_as (r := .tup [str nost, boo false, boo false]) rfl (by simp [Rs.rest, hd]; exact hid)
    · cases root <;> simp only [go_sem, r_block, h, reduceIte, Nat.reduceEqDiff, Nat.reduceAdd, Nat.reduceLT, Nat.reduceLeDiff]
      · exact aRet_as (r := .tup [str by', boo true, boo false]) rfl (by simp [Rs.rest, hd, rO])
      · exact aRet_as (r := .tup [str nost, boo false, boo true]) rfl (by simp [Rs.rest, hd, rO])
end
end Go.Proofs.Ytbdojogkjfmofaa
