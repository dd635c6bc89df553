/-
  No cell of these rows narrows 'for every input' (looked for: loops, veiled, ifaces, maps, wideKeys, modest, calm, conditions, laid).
  DERIVED. THE GIVEN ROWS OF THIS SEAT. 7 by the template 'for every input the law returns true; each argument reads behind the call as it read before'; 0 by the template 'total and deterministic' (their statements: YtmifmncabejffaaGreatTotals.lean).
  GIVEN WITH THE SEED: the statements are not yours to turn. If you find one false, say at which input.
  Laid BY PROGRAM, IN A SANDBOX (cutbox-rows.mjs): the forced cells as the released guide's own fill.sh prints them over the translation 44f27e6ec994bc1c… (all of the seat's roots in one cut). By AI agents, Wed Nov 11 2026. No macro, syntax, notation, axiom, sorry.
-/
import Derived.Test.YtmifmncabejffaaGreatChecked
import GoSem.Claim
import GoSem.ClaimJoined
import GoSem.ClaimMapViews
import Derived.JoinedTies
import Derived.KernelRfl
namespace Go.Proofs.YtmifmncabejffaaGreat
/- THE CELL 'sum', in the pinned program and in every row, IS THE sha256 OF THE DUMP (.gsa) THAT YtmifmncabejffaaGreatProg.lean LOADS. Nothing in Lean hashes anything: it is a label: what it is worth is what the hold of that sum in a sandbox is worth. -/
noncomputable def Tryz.pinned : Pinned := { name := "ytmifmncabejffaagreat", sum := "44f27e6ec994bc1c9af4f6cbf5ef93bd2c9b7b7138e3972a90e83be8a1a1377e", checked := Tryz.checked }
namespace Rows
def none {H : Type} : Left H := { results := [], args := [] }

/-- 'avowallaw17.EvalFull': WHATEVER THE INPUT: true; the input reads as it did. -/
def evalFullSpec : ChangeSpec := { name := "evalFull", fn := fun _ => fun
  | [d1, d2] => { results := [.lit (.bool true)], args := [d1, d2] }
  | _ => none }
def evalFullRow : OpenClaim := { program := "ytmifmncabejffaagreat", sum := "44f27e6ec994bc1c9af4f6cbf5ef93bd2c9b7b7138e3972a90e83be8a1a1377e", func := "avowal/avowallaw17.EvalFull", spec := "evalFull", inPlace := ["slices.overlaps[avowal/api.Deriv]", "slices.overlaps[avowal/api.Fact]"], unfollowed := true, recurses := true, apart := false }
def EvalFullSaid : Prop := evalFullRow.holds Tryz.pinned (OpenSpec.ofChange evalFullSpec)

/-- ITS FALSE NEIGHBOUR: 'it returns false'. Refute it at one input. -/
def evalFullWrong : ChangeSpec := { name := "evalFull", fn := fun _ => fun
  | [d1, d2] => { results := [.lit (.bool false)], args := [d1, d2] }
  | _ => none }
def EvalFullWrongFalsely : Prop := evalFullRow.holds Tryz.pinned (OpenSpec.ofChange evalFullWrong)

/-- 'avowallaw17.EvalOrders': WHATEVER THE INPUT: true; the input reads as it did. -/
def evalOrdersSpec : ChangeSpec := { name := "evalOrders", fn := fun _ => fun
  | [d1, d2, d3] => { results := [.lit (.bool true)], args := [d1, d2, d3] }
  | _ => none }
def evalOrdersRow : OpenClaim := { program := "ytmifmncabejffaagreat", sum := "44f27e6ec994bc1c9af4f6cbf5ef93bd2c9b7b7138e3972a90e83be8a1a1377e", func := "avowal/avowallaw17.EvalOrders", spec := "evalOrders", inPlace := ["slices.overlaps[avowal/api.Deriv]", "slices.overlaps[avowal/api.Fact]"], unfollowed := true, recurses := true, apart := false }
def EvalOrdersSaid : Prop := evalOrdersRow.holds Tryz.pinned (OpenSpec.ofChange evalOrdersSpec)

/-- ITS FALSE NEIGHBOUR: 'it returns false'. Refute it at one input. -/
def evalOrdersWrong : ChangeSpec := { name := "evalOrders", fn := fun _ => fun
  | [d1, d2, d3] => { results := [.lit (.bool false)], args := [d1, d2, d3] }
  | _ => none }
def EvalOrdersWrongFalsely : Prop := evalOrdersRow.holds Tryz.pinned (OpenSpec.ofChange evalOrdersWrong)

/-- 'avowallaw17.EvalLeast': WHATEVER THE INPUT: true; the input reads as it did. -/
def evalLeastSpec : ChangeSpec := { name := "evalLeast", fn := fun _ => fun
  | [d1, d2] => { results := [.lit (.bool true)], args := [d1, d2] }
  | _ => none }
def evalLeastRow : OpenClaim := { program := "ytmifmncabejffaagreat", sum := "44f27e6ec994bc1c9af4f6cbf5ef93bd2c9b7b7138e3972a90e83be8a1a1377e", func := "avowal/avowallaw17.EvalLeast", spec := "evalLeast", inPlace := ["slices.overlaps[avowal/api.Deriv]", "slices.overlaps[avowal/api.Fact]"], unfollowed := true, recurses := true, apart := false }
def EvalLeastSaid : Prop := evalLeastRow.holds Tryz.pinned (OpenSpec.ofChange evalLeastSpec)

/-- ITS FALSE NEIGHBOUR: 'it returns false'. Refute it at one input. -/
def evalLeastWrong : ChangeSpec := { name := "evalLeast", fn := fun _ => fun
  | [d1, d2] => { results := [.lit (.bool false)], args := [d1, d2] }
  | _ => none }
def EvalLeastWrongFalsely : Prop := evalLeastRow.holds Tryz.pinned (OpenSpec.ofChange evalLeastWrong)

/-- 'avowallaw17.EvalUndoes': WHATEVER THE INPUT: true; the input reads as it did. -/
def evalUndoesSpec : ChangeSpec := { name := "evalUndoes", fn := fun _ => fun
  | [d1, d2, d3] => { results := [.lit (.bool true)], args := [d1, d2, d3] }
  | _ => none }
def evalUndoesRow : OpenClaim := { program := "ytmifmncabejffaagreat", sum := "44f27e6ec994bc1c9af4f6cbf5ef93bd2c9b7b7138e3972a90e83be8a1a1377e", func := "avowal/avowallaw17.EvalUndoes", spec := "evalUndoes", inPlace := ["slices.overlaps[avowal/api.Deriv]", "slices.overlaps[avowal/api.Fact]"], unfollowed := true, recurses := true, apart := false }
def EvalUndoesSaid : Prop := evalUndoesRow.holds Tryz.pinned (OpenSpec.ofChange evalUndoesSpec)

/-- ITS FALSE NEIGHBOUR: 'it returns false'. Refute it at one input. -/
def evalUndoesWrong : ChangeSpec := { name := "evalUndoes", fn := fun _ => fun
  | [d1, d2, d3] => { results := [.lit (.bool false)], args := [d1, d2, d3] }
  | _ => none }
def EvalUndoesWrongFalsely : Prop := evalUndoesRow.holds Tryz.pinned (OpenSpec.ofChange evalUndoesWrong)

/-- 'avowallaw17.EvalOuts': WHATEVER THE INPUT: true; the input reads as it did. -/
def evalOutsSpec : ChangeSpec := { name := "evalOuts", fn := fun _ => fun
  | [d1, d2] => { results := [.lit (.bool true)], args := [d1, d2] }
  | _ => none }
def evalOutsRow : OpenClaim := { program := "ytmifmncabejffaagreat", sum := "44f27e6ec994bc1c9af4f6cbf5ef93bd2c9b7b7138e3972a90e83be8a1a1377e", func := "avowal/avowallaw17.EvalOuts", spec := "evalOuts", inPlace := ["slices.overlaps[avowal/api.Deriv]", "slices.overlaps[avowal/api.Fact]"], unfollowed := true, recurses := true, apart := false }
def EvalOutsSaid : Prop := evalOutsRow.holds Tryz.pinned (OpenSpec.ofChange evalOutsSpec)

/-- ITS FALSE NEIGHBOUR: 'it returns false'. Refute it at one input. -/
def evalOutsWrong : ChangeSpec := { name := "evalOuts", fn := fun _ => fun
  | [d1, d2] => { results := [.lit (.bool false)], args := [d1, d2] }
  | _ => none }
def EvalOutsWrongFalsely : Prop := evalOutsRow.holds Tryz.pinned (OpenSpec.ofChange evalOutsWrong)

/-- 'avowallaw17.EvalDoes': WHATEVER THE INPUT: true; the input reads as it did. -/
def evalDoesSpec : ChangeSpec := { name := "evalDoes", fn := fun _ => fun
  | [d1, d2] => { results := [.lit (.bool true)], args := [d1, d2] }
  | _ => none }
def evalDoesRow : OpenClaim := { program := "ytmifmncabejffaagreat", sum := "44f27e6ec994bc1c9af4f6cbf5ef93bd2c9b7b7138e3972a90e83be8a1a1377e", func := "avowal/avowallaw17.EvalDoes", spec := "evalDoes", inPlace := ["slices.overlaps[avowal/api.Deriv]", "slices.overlaps[avowal/api.Fact]"], unfollowed := true, recurses := true, apart := false }
def EvalDoesSaid : Prop := evalDoesRow.holds Tryz.pinned (OpenSpec.ofChange evalDoesSpec)

/-- ITS FALSE NEIGHBOUR: 'it returns false'. Refute it at one input. -/
def evalDoesWrong : ChangeSpec := { name := "evalDoes", fn := fun _ => fun
  | [d1, d2] => { results := [.lit (.bool false)], args := [d1, d2] }
  | _ => none }
def EvalDoesWrongFalsely : Prop := evalDoesRow.holds Tryz.pinned (OpenSpec.ofChange evalDoesWrong)

/-- 'avowallaw17.EvalNone': WHATEVER THE INPUT: true; the input reads as it did. -/
def evalNoneSpec : ChangeSpec := { name := "evalNone", fn := fun _ => fun
  | [d] => { results := [.lit (.bool true)], args := [d] }
  | _ => none }
def evalNoneRow : OpenClaim := { program := "ytmifmncabejffaagreat", sum := "44f27e6ec994bc1c9af4f6cbf5ef93bd2c9b7b7138e3972a90e83be8a1a1377e", func := "avowal/avowallaw17.EvalNone", spec := "evalNone", inPlace := ["slices.overlaps[avowal/api.Fact]", "slices.overlaps[avowal/api.Deriv]"], unfollowed := true, recurses := true, apart := false }
def EvalNoneSaid : Prop := evalNoneRow.holds Tryz.pinned (OpenSpec.ofChange evalNoneSpec)

/-- ITS FALSE NEIGHBOUR: 'it returns false'. Refute it at one input. -/
def evalNoneWrong : ChangeSpec := { name := "evalNone", fn := fun _ => fun
  | [d] => { results := [.lit (.bool false)], args := [d] }
  | _ => none }
def EvalNoneWrongFalsely : Prop := evalNoneRow.holds Tryz.pinned (OpenSpec.ofChange evalNoneWrong)

/- THE SECOND FORM. 'bulk': how many values and letters a reading holds, each counted each time it is reached (what is shared counts as often as it is met; a slice's spare places count too). A statement '..UptoSaid' is the law's where the arguments, and the package variables that the reading takes, are together of bulk at most 1048576: NARROWER than '..Said'. Prove '..Said' where nothing that the law and all that it calls make is longer than what came in: it says more and counts as full. Else prove '..UptoSaid'. A law counts once. -/
mutual
def uptoBulk {H : Type} : DataW H → Nat
  | .lit (.string bytes) => bytes.length + 1
  | .lit _ => 1
  | .nil => 1
  | .ptr d => uptoBulk d + 1
  | .slice elems spare => uptoBulkAll elems + uptoBulkAll spare + 1
  | .agg parts => uptoBulkAll parts + 1
  | .iface _ d => uptoBulk d + 1
  | .map entries => uptoBulkEntries entries + 1
  | .held _ => 1
def uptoBulkAll {H : Type} : List (DataW H) → Nat
  | [] => 0
  | d :: r => uptoBulk d + uptoBulkAll r
def uptoBulkEntries {H : Type} : List (Lit × DataW H) → Nat
  | [] => 0
  | x :: r => uptoBulkEntry x + uptoBulkEntries r
def uptoBulkEntry {H : Type} : Lit × DataW H → Nat
  | (.string bytes, d) => bytes.length + uptoBulk d + 1
  | (_, d) => uptoBulk d + 1
 end
def uptoSmall : (H : Type) → List (DataW H) → Bool := fun _ ds => decide (uptoBulkAll ds ≤ 1048576)
def OpenSpec.upto (s : _root_.Go.ChangeSpec) : _root_.Go.OpenSpec := { _root_.Go.OpenSpec.ofChange s with cond := some uptoSmall }

/-- 'avowallaw17.EvalFull', WHERE WHAT IT READS IS OF BULK AT MOST 1048576: true; the input reads as it did. -/
def evalFullUptoRow : OpenClaim := { program := "ytmifmncabejffaagreat", sum := "44f27e6ec994bc1c9af4f6cbf5ef93bd2c9b7b7138e3972a90e83be8a1a1377e", func := "avowal/avowallaw17.EvalFull", spec := "evalFull", inPlace := ["slices.overlaps[avowal/api.Deriv]", "slices.overlaps[avowal/api.Fact]"], unfollowed := true, recurses := true, apart := false, narrowed := true }
def EvalFullUptoSaid : Prop := evalFullUptoRow.holds Tryz.pinned (OpenSpec.upto evalFullSpec)

/-- 'avowallaw17.EvalOrders', WHERE WHAT IT READS IS OF BULK AT MOST 1048576: true; the input reads as it did. -/
def evalOrdersUptoRow : OpenClaim := { program := "ytmifmncabejffaagreat", sum := "44f27e6ec994bc1c9af4f6cbf5ef93bd2c9b7b7138e3972a90e83be8a1a1377e", func := "avowal/avowallaw17.EvalOrders", spec := "evalOrders", inPlace := ["slices.overlaps[avowal/api.Deriv]", "slices.overlaps[avowal/api.Fact]"], unfollowed := true, recurses := true, apart := false, narrowed := true }
def EvalOrdersUptoSaid : Prop := evalOrdersUptoRow.holds Tryz.pinned (OpenSpec.upto evalOrdersSpec)

/-- 'avowallaw17.EvalLeast', WHERE WHAT IT READS IS OF BULK AT MOST 1048576: true; the input reads as it did. -/
def evalLeastUptoRow : OpenClaim := { program := "ytmifmncabejffaagreat", sum := "44f27e6ec994bc1c9af4f6cbf5ef93bd2c9b7b7138e3972a90e83be8a1a1377e", func := "avowal/avowallaw17.EvalLeast", spec := "evalLeast", inPlace := ["slices.overlaps[avowal/api.Deriv]", "slices.overlaps[avowal/api.Fact]"], unfollowed := true, recurses := true, apart := false, narrowed := true }
def EvalLeastUptoSaid : Prop := evalLeastUptoRow.holds Tryz.pinned (OpenSpec.upto evalLeastSpec)

/-- 'avowallaw17.EvalUndoes', WHERE WHAT IT READS IS OF BULK AT MOST 1048576: true; the input reads as it did. -/
def evalUndoesUptoRow : OpenClaim := { program := "ytmifmncabejffaagreat", sum := "44f27e6ec994bc1c9af4f6cbf5ef93bd2c9b7b7138e3972a90e83be8a1a1377e", func := "avowal/avowallaw17.EvalUndoes", spec := "evalUndoes", inPlace := ["slices.overlaps[avowal/api.Deriv]", "slices.overlaps[avowal/api.Fact]"], unfollowed := true, recurses := true, apart := false, narrowed := true }
def EvalUndoesUptoSaid : Prop := evalUndoesUptoRow.holds Tryz.pinned (OpenSpec.upto evalUndoesSpec)

/-- 'avowallaw17.EvalOuts', WHERE WHAT IT READS IS OF BULK AT MOST 1048576: true; the input reads as it did. -/
def evalOutsUptoRow : OpenClaim := { program := "ytmifmncabejffaagreat", sum := "44f27e6ec994bc1c9af4f6cbf5ef93bd2c9b7b7138e3972a90e83be8a1a1377e", func := "avowal/avowallaw17.EvalOuts", spec := "evalOuts", inPlace := ["slices.overlaps[avowal/api.Deriv]", "slices.overlaps[avowal/api.Fact]"], unfollowed := true, recurses := true, apart := false, narrowed := true }
def EvalOutsUptoSaid : Prop := evalOutsUptoRow.holds Tryz.pinned (OpenSpec.upto evalOutsSpec)

/-- 'avowallaw17.EvalDoes', WHERE WHAT IT READS IS OF BULK AT MOST 1048576: true; the input reads as it did. -/
def evalDoesUptoRow : OpenClaim := { program := "ytmifmncabejffaagreat", sum := "44f27e6ec994bc1c9af4f6cbf5ef93bd2c9b7b7138e3972a90e83be8a1a1377e", func := "avowal/avowallaw17.EvalDoes", spec := "evalDoes", inPlace := ["slices.overlaps[avowal/api.Deriv]", "slices.overlaps[avowal/api.Fact]"], unfollowed := true, recurses := true, apart := false, narrowed := true }
def EvalDoesUptoSaid : Prop := evalDoesUptoRow.holds Tryz.pinned (OpenSpec.upto evalDoesSpec)

/-- 'avowallaw17.EvalNone', WHERE WHAT IT READS IS OF BULK AT MOST 1048576: true; the input reads as it did. -/
def evalNoneUptoRow : OpenClaim := { program := "ytmifmncabejffaagreat", sum := "44f27e6ec994bc1c9af4f6cbf5ef93bd2c9b7b7138e3972a90e83be8a1a1377e", func := "avowal/avowallaw17.EvalNone", spec := "evalNone", inPlace := ["slices.overlaps[avowal/api.Fact]", "slices.overlaps[avowal/api.Deriv]"], unfollowed := true, recurses := true, apart := false, narrowed := true }
def EvalNoneUptoSaid : Prop := evalNoneUptoRow.holds Tryz.pinned (OpenSpec.upto evalNoneSpec)

end Rows
end Go.Proofs.YtmifmncabejffaaGreat
